/- The chapter's example of expects: what its table tells. Plain. -/
import Derived.Test.YtppjmdanckdobaaGreatDoorQR37
import Derived.Test.YtppjmdanckdobaaGreatDoorQR41
import Derived.Test.YtppjmdanckdobaaGreatDoorQR11
import Derived.Test.YtppjmdanckdobaaGreatDoorQR10
namespace Go.Proofs.YtppjmdanckdobaaGreatDoor
open Go.RowKit
open Lib (hid)
def aN:List Int→Nat→Bool
 | [],t=>t == 0 || t == 1
 | [x],t=>tk27 x 0&&t == 0
 | x::y::r,t=>tk27 x 0&&(tk27 y 0&&aN r t)
theorem inv_nt {w:List Int} {c:UInt8} {i t:Nat} (h:Nx B27 w (t27 c) i t):i=w.length∧t=B27.tok (s27 c):=by
 unfold t27 at h
 cases h with
 | tok h=>exact ⟨h,rfl⟩
theorem inv_nr {w:List Int} {c:UInt8} {i t:Nat} (h:Nx B27 w (r27 c) i t):∃ n,B27.bodies[B27.rule (s27 c)]? = some n∧Nx B27 w n i t:=by
 unfold r27 at h
 cases h with
 | ref hg h hd=>exact ⟨_,h,hd⟩
theorem inv_nb {w:List Int} {i t:Nat} (h:Nx B27 w b27 i t):(i=w.length∧t=0)∨(tokM w i 0∧Nx B27 w a27 (i+1) t):=by
 unfold b27 n27 at h
 cases h with
 | seq hg h =>
  cases h with
  | here h =>
   obtain ⟨h1,h2⟩:=inv_nt h
   exact .inl ⟨h1,h2⟩
  | next hd h =>
   obtain ⟨h3,rfl⟩:=inv_t hd
   cases h with
   | here h =>
    obtain ⟨n,hn,hd⟩:=inv_nr h
    have:n=a27:=(Option.some.inj (hn.symm.trans (show B27.bodies[B27.rule (s27 97)]? = some a27 by kernel_rfl)))
    subst this
    exact .inr ⟨h3,hd⟩
   | next _ h=>cases h
 | loop hk=>omega
 | again hk=>omega
theorem inv_na {w:List Int} {i t:Nat} (h:Nx B27 w a27 i t):(i=w.length∧(t=0∨t=1))∨(tokM w i 0∧Nx B27 w b27 (i+1) t):=by
 unfold a27 n27 at h
 cases h with
 | alt hx h =>
  rcases List.mem_cons.1 hx with rfl | hx
  ·cases h with
   | seq hg h =>
    cases h with
    | here h =>
     obtain ⟨h1,h2⟩:=inv_nt h
     exact .inl ⟨h1,.inl h2⟩
    | next hd h =>
     obtain ⟨h3,rfl⟩:=inv_t hd
     cases h with
     | here h =>
      cases h with
      | loop hk hg h =>
       obtain ⟨n,hn,hd⟩:=inv_nr h
       have:n=b27:=(Option.some.inj (hn.symm.trans (show B27.bodies[B27.rule (s27 98)]? = some b27 by kernel_rfl)))
       subst this
       exact .inr ⟨h3,hd⟩
      | again hk=>omega
     | next _ h=>cases h
   | loop hk=>omega
   | again hk=>omega
  ·obtain rfl:=List.mem_singleton.1 hx
   obtain ⟨h1,h2⟩:=inv_nt h
   exact .inl ⟨h1,.inr h2⟩
 | loop hk=>omega
 | again hk=>omega
theorem mk_nb0 {w:List Int} {i:Nat} (h:i=w.length):Nx B27 w b27 i 0 :=
 .seq (by kernel_rfl) (.here (show Nx B27 w (t27 65) i (B27.tok (s27 65)) from .tok h))
theorem mk_nb {w:List Int} {i t:Nat} (h1:tokM w i 0) (h2:Nx B27 w a27 (i+1) t):Nx B27 w b27 i t :=
 .seq (by kernel_rfl) (.next (.tok (show tokM w i (B27.tok (s27 65)) from h1)) (.here (.ref (by kernel_rfl) (show B27.bodies[B27.rule (s27 97)]? = some a27 by kernel_rfl) h2)))
theorem mk_na0 {w:List Int} {i:Nat} (h:i=w.length):Nx B27 w a27 i 0 :=
 .alt (x:=n27 1 [t27 65,n27 2 [r27 98]]) (by simp) (.seq (by kernel_rfl) (.here (show Nx B27 w (t27 65) i (B27.tok (s27 65)) from .tok h)))
theorem mk_na1 {w:List Int} {i:Nat} (h:i=w.length):Nx B27 w a27 i 1 :=
 .alt (x:=t27 66) (by simp) (show Nx B27 w (t27 66) i (B27.tok (s27 66)) from .tok h)
theorem mk_na {w:List Int} {i t:Nat} (h1:tokM w i 0) (h2:Nx B27 w b27 (i+1) t):Nx B27 w a27 i t :=
 .alt (x:=n27 1 [t27 65,n27 2 [r27 98]]) (by simp) (.seq (by kernel_rfl) (.next (.tok (show tokM w i (B27.tok (s27 65)) from h1)) (.here (.loop (.inl rfl) (by kernel_rfl) (.ref (by kernel_rfl) (show B27.bodies[B27.rule (s27 98)]? = some b27 by kernel_rfl) h2)))))
theorem nx_aN {w:List Int} {t:Nat}:∀ (l:List Int) (i:Nat),w.drop i=l→i≤w.length→(Nx B27 w a27 i t↔aN l t=true)
 | [],i,hd,hi=>by
  have hl:i=w.length:=by have:=List.drop_eq_nil_iff.1 hd;omega
  have no:∀ t,¬ tokM w i t:=fun t ⟨x,hx,_⟩=>by
   have:=(List.getElem?_eq_some_iff.1 hx).1
   omega
  unfold aN
  rw [Bool.or_eq_true,beq_iff_eq,beq_iff_eq]
  constructor
  ·intro h
   rcases inv_na h with ⟨_,h⟩ | ⟨h,_⟩
   ·exact h
   ·exact absurd h (no _)
  ·rintro (rfl | rfl)
   ·exact mk_na0 hl
   ·exact mk_na1 hl
 | [x],i,hd,hi=>by
  have hlen:w.length=i+1:=by have:=congrArg List.length hd;rw [List.length_drop,List.length_singleton] at this;omega
  have hx:w[i]? = some x:=by rw [← Nat.add_zero i,← List.getElem?_drop,hd];rfl
  have ht:∀ t,tokM w i t↔tk27 x t=true:=fun t=>by
   rw [tok27]
   exact ⟨fun ⟨y,h1,h2⟩=>by rw [hx] at h1;cases h1;exact h2,fun h=>⟨x,hx,h⟩⟩
  have no:∀ t,¬ tokM w (i+1) t:=fun t ⟨x,hx,_⟩=>by
   have:=(List.getElem?_eq_some_iff.1 hx).1
   omega
  unfold aN
  rw [Bool.and_eq_true,beq_iff_eq]
  constructor
  ·intro h
   rcases inv_na h with ⟨h1,_⟩ | ⟨h1,h2⟩
   ·omega
   ·rcases inv_nb h2 with ⟨_,h3⟩ | ⟨h3,_⟩
    ·exact ⟨(ht 0).1 h1,h3⟩
    ·exact absurd h3 (no _)
  ·rintro ⟨h1,rfl⟩
   exact mk_na ((ht 0).2 h1) (mk_nb0 hlen.symm)
 | x::y::r,i,hd,hi=>by
  have hlen:w.length=i+2+r.length:=by have:=congrArg List.length hd;rw [List.length_drop,List.length_cons,List.length_cons] at this;omega
  have hx:w[i]? = some x:=by rw [← Nat.add_zero i,← List.getElem?_drop,hd];rfl
  have hy:w[i+1]? = some y:=by rw [← List.getElem?_drop,hd];rfl
  have hr:w.drop (i+1+1)=r:=by
   have:(w.drop i).drop 2=r:=by rw [hd];rfl
   rw [List.drop_drop] at this
   exact this
  have ht:∀ t,tokM w i t↔tk27 x t=true:=fun t=>by
   rw [tok27]
   exact ⟨fun ⟨y,h1,h2⟩=>by rw [hx] at h1;cases h1;exact h2,fun h=>⟨x,hx,h⟩⟩
  have hu:∀ t,tokM w (i+1) t↔tk27 y t=true:=fun t=>by
   rw [tok27]
   exact ⟨fun ⟨z,h1,h2⟩=>by rw [hy] at h1;cases h1;exact h2,fun h=>⟨y,hy,h⟩⟩
  have ih:=nx_aN (t:=t) r (i+1+1) hr (by omega)
  unfold aN
  rw [Bool.and_eq_true,Bool.and_eq_true,← ih]
  constructor
  ·intro h
   rcases inv_na h with ⟨h1,_⟩ | ⟨h1,h2⟩
   ·omega
   ·rcases inv_nb h2 with ⟨h3,_⟩ | ⟨h3,h4⟩
    ·omega
    ·exact ⟨(ht 0).1 h1,(hu 0).1 h3,h4⟩
  ·rintro ⟨h1,h2,h3⟩
   exact mk_na ((ht 0).2 h1) (mk_nb ((hu 0).2 h2) h3)
theorem next_27 (w:List Int) (x:Int):NextS B27 0 w x↔(x = -1∧aB w=true)∨∃ t:Nat,x=(t:Int)∧aN w t=true:=by
 unfold NextS XNextS
 rw [d0_27]
 have h0:∀ t,Nx B27 w a27 0 t↔aN w t=true:=fun t=>nx_aN w 0 rfl (Nat.zero_le _)
 refine or_congr Iff.rfl ⟨?_,?_⟩
 ·rintro ⟨n,t,hn,h,rfl⟩
  cases Option.some.inj hn
  exact ⟨t,rfl,(h0 t).1 h⟩
 ·rintro ⟨t,rfl,h⟩
  exact ⟨a27,t,rfl,(h0 t).2 h,rfl⟩
theorem b27_okx (h:g27.Fine):B27.Okx:=b27_of▸book_okx g27_sound h (by decide)
theorem nextL_27 {w L:List Int} (hr:L.Pairwise (· < ·)) (hL:∀ x,x∈L↔(x = -1∧aB w=true)∨∃ t:Nat,x=(t:Int)∧aN w t=true):NextL B27 0 w L:=⟨hr,fun x=>by rw [next_27];exact hL x⟩
theorem next_nil:NextL B27 0 [] [0,1]:=nextL_27 (by decide) fun x=>by
 have h1:aB []=false:=rfl
 have h2:∀ t,aN [] t=(t == 0 || t == 1):=fun _=>rfl
 simp only [h1,h2,List.mem_cons,List.not_mem_nil,or_false,Bool.or_eq_true,beq_iff_eq]
 constructor
 ·rintro (rfl | rfl)
  ·exact .inr ⟨0,rfl,.inl rfl⟩
  ·exact .inr ⟨1,rfl,.inr rfl⟩
 ·rintro (⟨_,h⟩ | ⟨t,rfl,h⟩)
  ·cases h
  ·omega
theorem next_0:NextL B27 0 [0] [-1,0]:=nextL_27 (by decide) fun x=>by
 have h1:aB [0]=true:=by kernel_rfl
 have h2:∀ t,aN [0] t=(t == 0):=fun _=>rfl
 simp only [h1,h2,List.mem_cons,List.not_mem_nil,or_false,beq_iff_eq]
 constructor
 ·rintro (rfl | rfl)
  ·exact .inl ⟨rfl,trivial⟩
  ·exact .inr ⟨0,rfl,rfl⟩
 ·rintro (⟨h,_⟩ | ⟨t,rfl,h⟩)
  ·exact .inl h
  ·omega
theorem next_00:NextL B27 0 [0,0] [0,1]:=nextL_27 (by decide) fun x=>by
 have h1:aB [0,0]=false:=by kernel_rfl
 have h2:∀ t,aN [0,0] t=(t == 0 || t == 1):=fun _=>rfl
 simp only [h1,h2,List.mem_cons,List.not_mem_nil,or_false,Bool.or_eq_true,beq_iff_eq]
 constructor
 ·rintro (rfl | rfl)
  ·exact .inr ⟨0,rfl,.inl rfl⟩
  ·exact .inr ⟨1,rfl,.inr rfl⟩
 ·rintro (⟨_,h⟩ | ⟨t,rfl,h⟩)
  ·cases h
  ·omega
theorem next_1:NextL B27 0 [1] [-1]:=nextL_27 (by decide) fun x=>by
 have h1:aB [1]=true:=by kernel_rfl
 have h2:∀ t,aN [1] t=false:=fun _=>rfl
 simp only [h1,h2,List.mem_cons,List.not_mem_nil,or_false]
 constructor
 ·rintro rfl
  exact .inl ⟨rfl,trivial⟩
 ·rintro (⟨h,_⟩ | ⟨t,rfl,h⟩)
  ·exact h
  ·cases h
theorem next_11:NextL B27 0 [1,1] []:=nextL_27 (by decide) fun x=>by
 have h1:aB [1,1]=false:=by kernel_rfl
 have h2:∀ t,aN [1,1] t=false:=fun _=>rfl
 simp only [h1,h2,List.not_mem_nil]
 constructor
 ·exact False.elim
 ·rintro (⟨_,h⟩ | ⟨t,rfl,h⟩)<;>cases h
theorem rest_27 {v:List Int} (h:RestV B27 0 [0,0] 3 v):v=[0]:=by
 have h0:aB ([0,0]++rep 0)=false:=by kernel_rfl
 have h1:aB ([0,0]++rep 1)=true:=by kernel_rfl
 have hl:v.length=1:=by
  rcases Nat.lt_trichotomy v.length 1 with hl | hl | hl
  ·have e:v.length=0:=by omega
   have:=h.der
   rw [e,d0_27,h0] at this
   cases this
  ·exact hl
  ·exact absurd ((d0_27 _).2 h1) (h.no 1 hl)
 have hf:=h.fil
 rw [hl] at hf
 obtain ⟨x,u,rfl,hx,hd,hno,hu⟩:=hf
 have hu':u=[]:=hu
 subst hu'
 have hx':x=0∨x=1:=by
  have:x∈([0,1]:List Int):=hx
  simpa using this
 rcases hx' with rfl | rfl
 ·rfl
 ·exact absurd ((d0_27 _).2 (show aB ([0,0]++0::rep 0)=true by kernel_rfl)) (hno 0 (show (0:Int)∈([0,1]:List Int) by simp) (by decide))
theorem rest_some:¬ ∀ m,m≤mostN [0,0] 3→¬ B27.D 0 ([0,0]++rep m):=fun h=>h 1 (by decide) ((d0_27 _).2 (show aB ([0,0]++rep 1)=true by kernel_rfl))
theorem ask_27 {w:List Int} (h:(decide (w.length≤48)&&!(w.any fun y=>(-2:Int) == y))=true):askB B27 0 w=true:=by
 unfold askB hasX
 have h2:B27.longN (0:Int).toNat=1:=by kernel_rfl
 have h3:B27.bodies.length=2:=rfl
 rw [h2,h3]
 rw [Bool.and_eq_true] at h
 rw [h.1,h.2]
 decide
theorem okN_27 {w L:List Int} (h:(decide (w.length≤48)&&!(w.any fun y=>(-2:Int) == y))=true) (hL:NextL B27 0 w L):OkN B27 0 w↔L≠[]:=by
 unfold OkN
 constructor
 ·rintro ⟨_,x,hx⟩ rfl
  have:=(hL.mem x).2 hx
  cases this
 ·intro hn
  cases L with
  | nil=>exact absurd rfl hn
  | cons x r=>exact ⟨ask_27 h,x,(hL.mem x).1 (List.mem_cons_self ..)⟩
theorem far_27 {x:Int} (h:FarIs B27 0 [1,1] x):x=1:=by
 have h1:=h.lt
 have h2:=h.lo
 have e:([1,1]:List Int).length=2:=rfl
 rw [e] at h1
 have h3:¬ OkN B27 0 [1,1]:=fun hk=>(okN_27 (by decide) next_11).1 hk rfl
 have h4:OkN B27 0 [1]:=(okN_27 (by decide) next_1).2 (by simp)
 have h5:¬ x=2:=fun e=>by
  subst e
  exact h3 (h.ok (by decide))
 have h6:¬ x < 1:=fun hl=>h.no 1 (by omega) (by decide) h4
 omega
end Go.Proofs.YtppjmdanckdobaaGreatDoor

/- Nodes that lie in blocks of a set;rows of nodes of the call's own;Clone and Clip of rows of ranges and of nodes. -/
namespace Go.Proofs.YtppjmdanckdobaaGreatDoor
open Go.RowKit
open Lib (hid)
theorem fmap_len {α β:Type} (f:α→List β) (k:Nat) (hk:∀ x,(f x).length=k):∀ l:List α,(l.flatMap f).length=l.length * k
 | []=>by simp
 | x::l=>by rw [List.flatMap_cons,List.length_append,hk,fmap_len f k hk l,List.length_cons,Nat.succ_mul];omega
theorem fmap_get {α β:Type} (f:α→List β) (k:Nat) (hk:∀ x,(f x).length=k):∀ (l:List α) (i j:Nat),j < k→(l.flatMap f)[i * k+j]? = (l[i]?).bind fun x=>(f x)[j]?
 | [],i,j,_=>by simp
 | x::l,0,j,hj=>by
  rw [List.flatMap_cons,Nat.zero_mul,Nat.zero_add,List.getElem?_append_left (by rw [hk];exact hj)]
  simp
 | x::l,i+1,j,hj=>by
  rw [List.flatMap_cons,List.getElem?_append_right (by rw [hk,Nat.succ_mul];omega),hk,show (i+1) * k+j - k=i * k+j by rw [Nat.succ_mul];omega,fmap_get f k hk l i j hj]
  simp
theorem fmap_cut {α β:Type} (f:α→List β) (k:Nat) (hk:∀ x,(f x).length=k) (l:List α) {p:Nat} {u:β} (h:(l.flatMap f)[p]? = some u):∃ i j x,p=i * k+j∧j < k∧l[i]? = some x∧(f x)[j]? = some u:=by
 have hlt:=(List.getElem?_eq_some_iff.1 h).1
 rw [fmap_len f k hk] at hlt
 have hk0:0 < k:=by
  rcases Nat.eq_zero_or_pos k with e | e
  ·subst e;omega
  ·exact e
 have e:p=p / k * k+p % k:=by rw [Nat.mul_comm];exact (Nat.div_add_mod p k).symm
 have hm:=Nat.mod_lt p hk0
 rw [e,fmap_get f k hk l _ _ hm] at h
 cases hx:l[p / k]? with
 | none=>rw [hx] at h;cases h
 | some x=>rw [hx] at h;exact ⟨_,_,x,e,hm,hx,h⟩
theorem cell_block {W W':World} {b o:Nat} (h:W'.heap[b]? = W.heap[b]?):W'.cell? ⟨b,o,none⟩=W.cell? ⟨b,o,none⟩:=by
 simp [World.cell?,h]
def RangesFp (W:World) (S:Nat→Prop) (a:Option Addr) (i:Nat):List (Int × Int)→Prop
 | []=>True
 | x::r=>(∃ b off,a=some ⟨b,off,none⟩∧S b∧W.cell? ⟨b,off+i * 2,none⟩=some (.int .i32 x.1)∧W.cell? ⟨b,off+i * 2+1,none⟩=some (.int .i32 x.2))∧RangesFp W S a (i+1) r
mutual
def NodeFp (W:World) (S:Nat→Prop) (c0 c1 c2 c3 c4:Option Value):Nd→Prop
 | .mk k nm tx set subs=>(0≤k∧k≤255)∧nm.size≤reachN∧tx.size≤reachN∧c0=some (.int .u8 k)∧c1=some (.string nm)∧c2=some (.string tx) ∧
   (∃ a cap,c3=some (.slice a set.length cap)∧set.length≤reachN∧RangesFp W S a 0 set)∧(∃ a cap,c4=some (.slice a subs.length cap)∧subs.length≤min reachN cap∧NodesFp W S a 0 subs)
def NodesFp (W:World) (S:Nat→Prop) (a:Option Addr) (i:Nat):List Nd→Prop
 | []=>True
 | n::r=>(∃ b off,a=some ⟨b,off,none⟩∧S b∧NodeFp W S (W.cell? ⟨b,off+i * 5,none⟩) (W.cell? ⟨b,off+i * 5+1,none⟩) (W.cell? ⟨b,off+i * 5+2,none⟩) (W.cell? ⟨b,off+i * 5+3,none⟩) (W.cell? ⟨b,off+i * 5+4,none⟩) n)∧NodesFp W S a (i+1) r
end
theorem RangesFp.keep {W W':World} {S T:Nat→Prop} (hb:∀ b,S b→T b∧W'.heap[b]? = W.heap[b]?) {a:Option Addr}:∀ {l:List (Int × Int)} {i:Nat},RangesFp W S a i l→RangesFp W' T a i l
 | [],_,_=>trivial
 | x::r,i,h=>by
  obtain ⟨⟨b,off,h1,h2,h3,h4⟩,h5⟩:=h
  exact ⟨⟨b,off,h1,(hb b h2).1,by rw [cell_block (hb b h2).2];exact h3,by rw [cell_block (hb b h2).2];exact h4⟩,RangesFp.keep hb h5⟩
mutual
theorem NodeFp.keep {W W':World} {S T:Nat→Prop} (hb:∀ b,S b→T b∧W'.heap[b]? = W.heap[b]?) {c0 c1 c2 c3 c4:Option Value}:∀ {n:Nd},NodeFp W S c0 c1 c2 c3 c4 n→NodeFp W' T c0 c1 c2 c3 c4 n
 | .mk k nm tx set subs,h=>by
  rw [NodeFp] at h ⊢
  obtain ⟨hk,h1,h2,h3,h4,h5,⟨a,cap,h6,h6',h7⟩,a',cap',h8,h8',h9⟩:=h
  exact ⟨hk,h1,h2,h3,h4,h5,⟨a,cap,h6,h6',h7.keep hb⟩,a',cap',h8,h8',NodesFp.keep hb h9⟩
theorem NodesFp.keep {W W':World} {S T:Nat→Prop} (hb:∀ b,S b→T b∧W'.heap[b]? = W.heap[b]?) {a:Option Addr}:∀ {l:List Nd} {i:Nat},NodesFp W S a i l→NodesFp W' T a i l
 | [],_,_=>by rw [NodesFp];trivial
 | n::r,i,h=>by
  rw [NodesFp] at h ⊢
  obtain ⟨⟨b,off,h1,h2,h3⟩,h5⟩:=h
  refine ⟨⟨b,off,h1,(hb b h2).1,?_⟩,NodesFp.keep hb h5⟩
  have e:∀ o,W'.cell? ⟨b,o,none⟩=W.cell? ⟨b,o,none⟩:=fun o=>cell_block (hb b h2).2
  rw [e,e,e,e,e]
  exact NodeFp.keep hb h3
end
theorem RangesFp.at {W:World} {S:Nat→Prop} {lim:Nat} (hb:∀ b,S b→b < lim) {a:Option Addr}:∀ {l:List (Int × Int)} {i:Nat},RangesFp W S a i l→RangesAt W lim a i l
 | [],_,_=>trivial
 | x::r,i,h=>by
  obtain ⟨⟨b,off,h1,h2,h3,h4⟩,h5⟩:=h
  exact ⟨⟨b,off,h1,hb b h2,h3,h4⟩,RangesFp.at hb h5⟩
mutual
theorem NodeFp.at {W:World} {S:Nat→Prop} {lim:Nat} (hb:∀ b,S b→b < lim) {c0 c1 c2 c3 c4:Option Value}:∀ {n:Nd},NodeFp W S c0 c1 c2 c3 c4 n→NodeAt W lim c0 c1 c2 c3 c4 n
 | .mk k nm tx set subs,h=>by
  rw [NodeFp] at h
  rw [NodeAt]
  obtain ⟨hk,h1,h2,h3,h4,h5,⟨a,cap,h6,h6',h7⟩,a',cap',h8,h8',h9⟩:=h
  exact ⟨hk,h1,h2,h3,h4,h5,⟨a,cap,h6,h6',h7.at hb⟩,a',cap',h8,h8',NodesFp.at hb h9⟩
theorem NodesFp.at {W:World} {S:Nat→Prop} {lim:Nat} (hb:∀ b,S b→b < lim) {a:Option Addr}:∀ {l:List Nd} {i:Nat},NodesFp W S a i l→NodesAt W lim a i l
 | [],_,_=>by rw [NodesAt];trivial
 | n::r,i,h=>by
  rw [NodesFp] at h
  rw [NodesAt]
  obtain ⟨⟨b,off,h1,h2,h3⟩,h5⟩:=h
  exact ⟨⟨b,off,h1,hb b h2,NodeFp.at hb h3⟩,NodesFp.at hb h5⟩
end
theorem NodeFp.forms {W:World} {S:Nat→Prop} {v0 v1 v2 v3 v4:Value} {n:Nd} (h:NodeFp W S (some v0) (some v1) (some v2) (some v3) (some v4) n) :
  ∃ k nm tx sa sl sc na nl nc,v0=.int .u8 k∧v1=.string nm∧v2=.string tx∧v3=.slice sa sl sc∧v4=.slice na nl nc:=by
 cases n with
 | mk k nm tx set subs =>
  rw [NodeFp] at h
  obtain ⟨hk,h1,h2,h3,h4,h5,⟨a,cap,h6,h6',h7⟩,a',cap',h8,h8',h9⟩:=h
  exact ⟨k,nm,tx,a,_,cap,a',_,cap',Option.some.inj h3,Option.some.inj h4,Option.some.inj h5,Option.some.inj h6,Option.some.inj h8⟩
def rgF (x:Int × Int):List Value:=[.int .i32 x.1,.int .i32 x.2]
def rgVs (l:List (Int × Int)):List Value:=l.flatMap rgF
theorem rgF_len (x:Int × Int):(rgF x).length=2:=rfl
theorem rgVs_len (l:List (Int × Int)):(rgVs l).length=l.length * 2:=fmap_len _ _ rgF_len l
theorem rgVs_one (l:List (Int × Int)):∀ u∈rgVs l,u.oneCell'=true:=by
 intro u hu
 obtain ⟨e,_,he⟩:=List.mem_flatMap.1 hu
 simp only [rgF,List.mem_cons,List.not_mem_nil,or_false] at he
 rcases he with rfl | rfl<;>rfl
theorem RangesAt.getS {W:World} {lim:Nat} {a:Option Addr}:∀ {l:List (Int × Int)} {i k:Nat} (_:RangesAt W lim a i l) (hk:k < l.length),
  ∃ b off,a=some ⟨b,off,none⟩∧b < lim∧W.cell? ⟨b,off+(i+k) * 2,none⟩=some (.int .i32 l[k].1)∧W.cell? ⟨b,off+(i+k) * 2+1,none⟩=some (.int .i32 l[k].2)
 | [],_,_,_,hk=>absurd hk (by simp)
 | n::r,i,0,h,_=>by rw [RangesAt] at h;simpa using h.1
 | n::r,i,k+1,h,hk=>by
  rw [RangesAt] at h
  obtain ⟨b,off,h1,h2,h3⟩:=RangesAt.getS (k:=k) h.2 (by simpa using hk)
  refine ⟨b,off,h1,h2,?_⟩
  have e:i+1+k=i+(k+1):=by omega
  rw [e] at h3
  simpa using h3
theorem cellsIn_rg {W:World} {lim:Nat} {l:List (Int × Int)} {ad:Addr} (h:RangesAt W lim (some ad) 0 l):CellsIn W lim ad (rgVs l):=by
 intro p u hp
 obtain ⟨i,j,x,rfl,hj,hx,hu⟩:=fmap_cut _ _ rgF_len l hp
 obtain ⟨hlt,rfl⟩:=List.getElem?_eq_some_iff.1 hx
 obtain ⟨b,off,e,h1,h2,h3⟩:=h.getS hlt
 obtain rfl:=Option.some.inj e
 rw [Nat.zero_add] at h2 h3
 refine ⟨h1,?_⟩
 rw [padd_off]
 match j,hj with
 | 0,_=>simp only [rgF,List.getElem?_cons_zero,Option.some.injEq] at hu;subst hu;exact h2
 | 1,_=>simp only [rgF,List.getElem?_cons_succ,List.getElem?_cons_zero,Option.some.injEq] at hu;subst hu;rw [← Nat.add_assoc];exact h3
theorem row_ranges {W:World} {base:Nat} {l:List (Int × Int)} {v:Value} (h:looseRow W base 107 2 v l.length (rgVs l)):∃ a c,v=.slice a l.length c∧RangesFp W (fun b=>v.ownBlock=some b) a 0 l:=by
 rcases h.2 with ⟨rfl,h0⟩ | ⟨g,cap,cur,rfl,h2,h3,h4,h5⟩
 ·cases l with
  | nil=>exact ⟨_,_,rfl,trivial⟩
  | cons x r=>simp at h0
 ·refine ⟨_,_,rfl,?_⟩
  have hcell:=looseRow_cells h (g:=g) rfl
  have key:∀ (m:List (Int × Int)) (i:Nat),l.drop i=m→RangesFp W (fun b=>Value.ownBlock (.slice (some ⟨g,0,none⟩) l.length cap)=some b) (some ⟨g,0,none⟩) i m:=by
   intro m
   induction m with
   | nil=>intro i _;exact trivial
   | cons x r ih =>
    intro i hd
    have hlt:i < l.length:=by
     rcases Nat.lt_or_ge i l.length with h | h
     ·exact h
     ·rw [List.drop_of_length_le h] at hd;cases hd
    rw [List.drop_eq_getElem_cons hlt] at hd
    have hx:=(List.cons.inj hd).1
    refine ⟨⟨g,0,rfl,rfl,?_,?_⟩,ih (i+1) (List.cons.inj hd).2⟩
    ·rw [Nat.zero_add]
     refine hcell _ _ ?_
     have:=fmap_get rgF 2 rgF_len l i 0 (by omega)
     rw [Nat.add_zero] at this
     unfold rgVs
     rw [this,List.getElem?_eq_getElem hlt,hx]
     rfl
    ·rw [Nat.zero_add]
     refine hcell _ _ ?_
     have:=fmap_get rgF 2 rgF_len l i 1 (by omega)
     unfold rgVs
     rw [this,List.getElem?_eq_getElem hlt,hx]
     rfl
  exact key l 0 rfl
theorem info_range:(Tryz.prog.info? 107).map (fun i=>(i.zero,i.size,i.bytes))=some (some (.agg #[.int .i32 0,.int .i32 0]),2,8):=by kernel_rfl
theorem info_node:(Tryz.prog.info? 80).map (fun i=>(i.zero,i.size,i.bytes))=some (some (.agg #[.int .u8 0,.string { data:=#[] },.string { data:=#[] },.slice none 0 0,.slice none 0 0]),5,88):=by kernel_rfl
set_option maxHeartbeats 2000000 in
set_option maxRecDepth 20000 in
theorem cloneRg_cells (n c:Nat) (cs:List Value) (hl:cs.length=n * 2) (h1:∀ u∈cs,u.oneCell'=true) (hn:n≤1048576) (W:World) (a:Addr) (hc:CellsIn W W.heap.size a cs) :
  Calls Tryz.prog 48 #[.slice (some a) n c] W (Cloned W 107 2 n cs):=by
 obtain ⟨i0,hi,hz0,hz1,hz2⟩:=info_parts info_range
 have q:∀ (w:World) (a:Option Addr) (n c n' c':Nat),(binOp .eql 78 (.slice a n c) (.slice none n' c')).run Tryz.prog w=.ok (.bool a.isNone) w:=fun w a n c n' c'=>Lib.run_eql_slice_nil w _ _ a n c n' c' Tryz.underlying78
 have HCS:=hid hc
 have HL:=hid hl
 have H1:=hid h1
 clear hc hl h1
 go_enter Tryz.func48,Tryz.ntmps48
 go_wp2_with (at_builtin;refine wpList_append_own _ rfl _ _ 78 rfl W.heap.size 107 i0 (.agg #[.int .i32 0,.int .i32 0]) 2 8 Tryz.underlying78 hi hz0 hz1 hz2 rfl (by decide) _ _ _ rfl (World.ownsRow_made W #[] 0 (Nat.le_refl _) (Nat.zero_le _) rfl) a n c cs rfl ?qc1 ?qc2 ?qc3 ?qc4 ?qc5 ?qc6 ?_)
 case qc1=>exact HL.out
 case qc2 =>
  intro j u hj
  exact Lib.cell?_alloc_some _ (HCS.out j u hj).2
 case qc3=>exact H1.out
 case qc4=>unfold maxLen;omega
 case qc5=>omega
 case qc6=>simp
 intro v' w1 hown hgrow hnil
 go_wp2_with fail
 go_ret
 refine ⟨v',rfl,looseRow_of (by simpa using hown),?_⟩
 exact ((Below.refl _ W).alloc (Nat.le_refl _) _).grown hgrow (by simp) (by intro k hk;simp [Value.ownBlock] at hk;omega)
theorem cloneRg_nil (n c:Nat) (W:World):Calls Tryz.prog 48 #[.slice none n c] W fun e W'=>e=.returned (.slice none 0 0)∧W'=W:=by
 have q:∀ (w:World) (a:Option Addr) (n c n' c':Nat),(binOp .eql 78 (.slice a n c) (.slice none n' c')).run Tryz.prog w=.ok (.bool a.isNone) w:=fun w a n c n' c'=>Lib.run_eql_slice_nil w _ _ a n c n' c' Tryz.underlying78
 go_enter Tryz.func48,Tryz.ntmps48
 go_wp2
 go_ret
 exact ⟨rfl,rfl⟩
theorem cloneRg_ok (l:List (Int × Int)) (W:World) (a:Option Addr) (c:Nat) (hl:l.length≤1000000) (hA:RangesAt W W.heap.size a 0 l):Calls Tryz.prog 48 #[.slice a l.length c] W (Cloned W 107 2 l.length (rgVs l)):=by
 cases a with
 | none =>
  have hz:l=[]:=by
   cases l with
   | nil=>rfl
   | cons x r=>obtain ⟨⟨b,o,e,-⟩,-⟩:=hA;cases e
  subst hz
  refine (cloneRg_nil _ _ W).mono ?_
  rintro e W' ⟨rfl,rfl⟩
  exact ⟨_,rfl,⟨rfl,.inl ⟨rfl,rfl⟩⟩,Grew.refl _⟩
 | some ad=>exact cloneRg_cells _ _ _ (rgVs_len l) (rgVs_one l) (by omega) W ad (cellsIn_rg hA)
theorem clipRg_ok (W:World) (base n:Nat) (v:Value) (us:List Value) (h:looseRow W base 107 2 v n us) :
  Calls Tryz.prog 47 #[v] W fun e W'=>(∃ u,e=.returned u∧looseRow W base 107 2 u n us∧u.ownBlock=v.ownBlock)∧W=W':=by
 rcases h.2 with ⟨rfl,rfl⟩ | ⟨b,cap,cur,rfl,h1,h2,h3,h4,h5,h6⟩
 ·have HL:=hid h
  clear h
  go_enter Tryz.func47,Tryz.ntmps47
  go_wp2
  go_ret
  exact ⟨⟨_,rfl,HL.out,rfl⟩,rfl⟩
 ·have HL:Hid (looseRow W base 107 2 (.slice (some ⟨b,0,none⟩) n n) n us):=⟨h.1,.inr ⟨b,_,cur,rfl,h1,h2,Nat.le_refl _,Nat.le_trans h3 h4,Nat.le_trans (Nat.mul_le_mul_right _ h3) h5,h6⟩⟩
  unfold maxLen at h4
  clear h h2 h5 h6
  go_enter Tryz.func47,Tryz.ntmps47
  go_wp2
  go_ret
  exact ⟨⟨_,rfl,HL.out,rfl⟩,rfl⟩
theorem clipNd_ok (W:World) (base n:Nat) (v:Value) (us:List Value) (h:looseRow W base 80 5 v n us) :
  Calls Tryz.prog 49 #[v] W fun e W'=>(∃ u,e=.returned u∧looseRow W base 80 5 u n us∧u.ownBlock=v.ownBlock)∧W=W':=by
 rcases h.2 with ⟨rfl,rfl⟩ | ⟨b,cap,cur,rfl,h1,h2,h3,h4,h5,h6⟩
 ·have HL:=hid h
  clear h
  go_enter Tryz.func49,Tryz.ntmps49
  go_wp2
  go_ret
  exact ⟨⟨_,rfl,HL.out,rfl⟩,rfl⟩
 ·have HL:Hid (looseRow W base 80 5 (.slice (some ⟨b,0,none⟩) n n) n us):=⟨h.1,.inr ⟨b,_,cur,rfl,h1,h2,Nat.le_refl _,Nat.le_trans h3 h4,Nat.le_trans (Nat.mul_le_mul_right _ h3) h5,h6⟩⟩
  unfold maxLen at h4
  clear h h2 h5 h6
  go_enter Tryz.func49,Tryz.ntmps49
  go_wp2
  go_ret
  exact ⟨⟨_,rfl,HL.out,rfl⟩,rfl⟩
abbrev V5:=Value × Value × Value × Value × Value
def v5 (u:V5):List Value:=[u.1,u.2.1,u.2.2.1,u.2.2.2.1,u.2.2.2.2]
theorem v5_len (u:V5):(v5 u).length=5:=rfl
def SubsFp (W:World) (S:Nat→Prop) (base:Nat) (v:Value) (l:List Nd):Prop :=
 ∃ us:List V5,us.length=l.length∧looseRow W base 80 5 v l.length (us.flatMap v5)∧∀ (i:Nat) u n,us[i]? = some u→l[i]? = some n→NodeFp W S (some u.1) (some u.2.1) (some u.2.2.1) (some u.2.2.2.1) (some u.2.2.2.2) n
theorem SubsFp.nil (W:World) (S:Nat→Prop) (base:Nat):SubsFp W S base (.slice none 0 0) []:=⟨[],rfl,⟨rfl,.inl ⟨rfl,rfl⟩⟩,fun i u n h=>by simp at h⟩
theorem SubsFp.keep {W W':World} {S T:Nat→Prop} {base:Nat} {v:Value} {l:List Nd} (h:SubsFp W S base v l) (hb:∀ b,S b→T b∧W'.heap[b]? = W.heap[b]?) (hv:∀ b,v.ownBlock=some b→W'.heap[b]? = W.heap[b]?):SubsFp W' T base v l:=by
 obtain ⟨us,h1,h2,h3⟩:=h
 refine ⟨us,h1,⟨h2.1,h2.2.imp id ?_⟩,fun i u n hu hn=>(h3 i u n hu hn).keep hb⟩
 rintro ⟨g,cap,cur,rfl,k2,k3,k4⟩
 exact ⟨g,cap,cur,rfl,k2,by rw [hv g rfl];exact k3,k4⟩
theorem SubsFp.nodes {W:World} {S:Nat→Prop} {base:Nat} {v:Value} {l:List Nd} (h:SubsFp W S base v l) {T:Nat→Prop} (hS:∀ b,S b→T b) (hv:∀ b,v.ownBlock=some b→T b):∃ a c,v=.slice a l.length c∧l.length≤c∧NodesFp W T a 0 l:=by
 obtain ⟨us,h1,h2,h3⟩:=h
 rcases h2.2 with ⟨rfl,h0⟩ | ⟨g,cap,cur,rfl,k2,k3,k4,k5⟩
 ·cases l with
  | nil=>exact ⟨_,_,rfl,Nat.le_refl _,by rw [NodesFp];trivial⟩
  | cons x r=>simp at h0
 ·refine ⟨_,_,rfl,k4,?_⟩
  have hcell:=looseRow_cells h2 (g:=g) rfl
  have key:∀ (m:List Nd) (i:Nat),l.drop i=m→NodesFp W T (some ⟨g,0,none⟩) i m:=by
   intro m
   induction m with
   | nil=>intro i _;rw [NodesFp];trivial
   | cons x r ih =>
    intro i hd
    have hlt:i < l.length:=by
     rcases Nat.lt_or_ge i l.length with h | h
     ·exact h
     ·rw [List.drop_of_length_le h] at hd;cases hd
    rw [List.drop_eq_getElem_cons hlt] at hd
    have hx:=(List.cons.inj hd).1
    have hlt':i < us.length:=by omega
    have hc:∀ j (hj:j < 5),W.cell? ⟨g,i * 5+j,none⟩=(v5 us[i])[j]?:=by
     intro j hj
     have e:=fmap_get v5 5 v5_len us i j hj
     rw [List.getElem?_eq_getElem hlt'] at e
     have hj':j < (v5 us[i]).length:=by rw [v5_len];exact hj
     rw [List.getElem?_eq_getElem hj']
     refine hcell _ _ ?_
     rw [e]
     exact List.getElem?_eq_getElem hj'
    rw [NodesFp]
    refine ⟨⟨g,0,rfl,hv g rfl,?_⟩,ih (i+1) (List.cons.inj hd).2⟩
    rw [Nat.zero_add]
    have c0:=hc 0 (by omega)
    rw [Nat.add_zero] at c0
    rw [c0,hc 1 (by omega),hc 2 (by omega),hc 3 (by omega),hc 4 (by omega)]
    rw [← hx]
    exact (h3 i us[i] l[i] (List.getElem?_eq_getElem hlt') (List.getElem?_eq_getElem hlt)).keep (W':=W) fun b hb=>⟨hS b hb,rfl⟩
  exact key l 0 rfl
end Go.Proofs.YtppjmdanckdobaaGreatDoor
