/- What a scan answers, in plain words: gaps, words, places. -/
import Derived.Test.YtdgkpmpakkfgbaaGreatDoorRuLaw
import Derived.Lib.IndexMore
import Derived.Lib.Strings
import Derived.Lib.SlTrimSet
namespace Go.Proofs.YtdgkpmpakkfgbaaGreatDoor
open Go.Lib

/-- a digit of 16, small or great -/
def isHexA (b : UInt8) : Bool := (48 ≤ b.toNat && b.toNat ≤ 57) || (65 ≤ b.toNat && b.toNat ≤ 70) || (97 ≤ b.toNat && b.toNat ≤ 102)
def undigA (b : UInt8) : Nat := if b.toNat < 58 then b.toNat - 48 else if b.toNat < 91 then b.toNat - 55 else b.toNat - 87
def hexVA : Nat → List UInt8 → Nat
  | acc, [] => acc
  | acc, b :: l => hexVA (acc * 16 + undigA b) l

def blanksL : List UInt8 := [32, 9, 10, 13]
def digitsL : List UInt8 := [48, 49, 50, 51, 52, 53, 54, 55, 56, 57]
def lettersL : List UInt8 := [97, 98, 99, 100, 101, 102, 103, 104, 105, 106, 107, 108, 109, 110, 111, 112, 113, 114, 115, 116, 117, 118, 119, 120, 121, 122, 65, 66, 67, 68, 69, 70, 71, 72, 73, 74, 75, 76, 77, 78, 79, 80, 81, 82, 83, 84, 85, 86, 87, 88, 89, 90]
def marksL : List UInt8 := [58, 59, 124, 40, 41, 63, 42, 43, 61, 123, 125, 46, 126]
def nameL : List UInt8 := lettersL ++ digitsL ++ [95]

/-- is the byte among these? (as strings.IndexByte tells) -/
def amongB (l : List UInt8) (c : UInt8) : Bool := decide (0 ≤ indexByte l c)

/-- where a gap ends, from a place on, and what is wrong -/
def gapF (l : List UInt8) : Nat → Nat → Nat × Nat
  | 0, p => (p, 0)
  | k + 1, p =>
    if (l.drop p) ≠ [] ∧ amongB blanksL ((l.drop p).getD 0 0) = true then gapF l k (p + 1)
    else if hasPrefix (l.drop p) [47, 47] then gapF l k (if 0 ≤ indexByte (l.drop p) 10 then p + (indexByte (l.drop p) 10).toNat else l.length)
    else if hasPrefix (l.drop p) [47, 42] then (if index ((l.drop p).drop 2) [42, 47] < 0 then (p, 4) else gapF l k (p + ((index ((l.drop p).drop 2) [42, 47]).toNat + 4)))
    else (p, 0)

/-- how many bytes of some kind come -/
def manyN (s cs : List UInt8) : Nat := s.length - (trimLeftS s cs).length

/-- the number of an escape: it, and how many bytes -/
def numF (s : List UInt8) : Option (Nat × Nat) :=
  let d := (cut s [125]).1
  if (cut s [125]).2.2 = true ∧ d ≠ [] ∧ d.length ≤ 6 ∧ d.all isHexA = true ∧ validRune (hexVA 0 d) = true then some (hexVA 0 d, d.length + 1) else none

/-- an escape: the rune, and how many bytes -/
def escF : List UInt8 → Option (Nat × Nat)
  | 92 :: c :: t =>
    if c = 110 then some (10, 2) else if c = 114 then some (13, 2) else if c = 116 then some (9, 2)
    else if amongB [92, 39, 93, 91, 45] c = true then some (c.toNat, 2)
    else if c = 117 then (match t with
      | 123 :: u => (numF u).map fun (r, n) => (r, n + 3)
      | _ => none) else none
  | _ => none

/-- a rune of a text or a set: it, and how many bytes -/
def runeF (but s : List UInt8) : Option (Nat × Nat) :=
  match escF s with
  | some x => some x
  | none => if s = [] ∨ badAt s ∨ (decodeL s).1 = 10 ∨ (decodeL s).1 = 92 ∨ ((decodeL s).1 < 128 ∧ amongB but (UInt8.ofNat (decodeL s).1) = true) then none else some ((decodeL s).1, (decodeL s).2)

/-- a text between marks, behind its first mark: where it ends, what is wrong, its bytes -/
def textF (l : List UInt8) (from_ : Nat) : Nat → Nat → List UInt8 → Nat × Nat × List UInt8
  | 0, _, _ => (from_, 4, [])
  | k + 1, p, acc =>
    if (l.drop p).head? = some 39 then (if acc = [] then (from_, 4, []) else (p + 1, 0, acc))
    else match runeF [39] (l.drop p) with
      | none => (from_, 4, [])
      | some (r, n) => textF l from_ k (p + n) (acc ++ bytesOf r)

/-- one range of a set: it, and where it ends -/
def rangeF (l : List UInt8) (p : Nat) : Option ((Nat × Nat) × Nat) :=
  match runeF [91, 93, 45] (l.drop p) with
  | none => none
  | some (r, n) =>
    if (l.drop (p + n)).head? = some 45 then (match runeF [91, 93, 45] (l.drop (p + n + 1)) with
      | none => none
      | some (q, m) => if q < r then none else some ((r, q), p + n + 1 + m))
    else some ((r, r), p + n)
def setF (l : List UInt8) (from_ : Nat) : Nat → Nat → List (Nat × Nat) → Nat × Nat × List (Nat × Nat)
  | 0, _, _ => (from_, 4, [])
  | k + 1, p, acc =>
    if (l.drop p).head? = some 93 then (if acc = [] then (from_, 4, []) else (p + 1, 0, acc))
    else match rangeF l p with
      | none => (from_, 4, [])
      | some (x, q) => setF l from_ k q (acc ++ [x])

def markF (s : List UInt8) : Nat := if hasPrefix s [61, 62] then 2 else if hasPrefix s [46, 46] then 2 else if amongB marksL (s.getD 0 0) = true then 1 else 0

/-- a word: its kind, its text, its ranges, the place it begins -/
structure Wd where
  kind : Nat
  text : List UInt8
  set : List (Nat × Nat)
  at_ : Nat
deriving DecidableEq

/-- the word that begins at a place: it, where it ends, what is wrong -/
def wordF (l : List UInt8) (p : Nat) : Wd × Nat × Nat :=
  let s := l.drop p
  let c := s.getD 0 0
  if amongB lettersL c = true then (if 64 < manyN s nameL then (⟨0, [], [], p⟩, p, 3) else (⟨0, s.take (manyN s nameL), [], p⟩, p + manyN s nameL, 0))
  else if amongB digitsL c = true then (if 9 < manyN s digitsL then (⟨1, [], [], p⟩, p, 3) else (⟨1, s.take (manyN s digitsL), [], p⟩, p + manyN s digitsL, 0))
  else if c = 39 then (let t := textF l p (l.length + 1) (p + 1) []; (⟨2, t.2.2, [], p⟩, t.1, t.2.1))
  else if c = 91 then (let t := setF l p (l.length + 1) (p + 1) []; (⟨3, [], t.2.2, p⟩, t.1, t.2.1))
  else (⟨4, s.take (markF s), [], p⟩, p + markF s, if markF s = 0 then 4 else 0)

/-- the words, or where what is wrong -/
def wordsF (l : List UInt8) : Nat → Nat → List Wd → List Wd × Nat × Nat
  | 0, _, acc => (acc, 0, 0)
  | k + 1, p, acc =>
    let g := gapF l (l.length + 1) p
    if g.2 ≠ 0 then ([], g.1, g.2)
    else if l.length ≤ g.1 then (acc, 0, 0)
    else let w := wordF l g.1; if w.2.2 ≠ 0 then ([], w.2.1, w.2.2) else wordsF l k w.2.1 (acc ++ [w.1])

def scanF (l : List UInt8) : List Wd × Nat × Nat :=
  if 65536 < l.length then ([], 0, 3)
  else if 0 ≤ badOf l 0 then ([], (badOf l 0).toNat, 4)
  else wordsF l (l.length + 1) 0 []

theorem scanF_one : scanF [97, 58, 39, 98, 39, 59] = ([⟨0, [97], [], 0⟩, ⟨4, [58], [], 1⟩, ⟨2, [98], [], 2⟩, ⟨4, [59], [], 5⟩], 0, 0) := by decide +kernel
theorem scanF_two : scanF [91, 97, 45, 99, 93] = ([⟨3, [], [(97, 99)], 0⟩], 0, 0) := by decide +kernel
theorem scanF_three : scanF [39] = ([], 0, 4) := by decide +kernel
end Go.Proofs.YtdgkpmpakkfgbaaGreatDoor
