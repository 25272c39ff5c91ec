import Derived.Test.YtjimcmcffjibmaaGreatG3
import Derived.Test.YtjimcmcffjibmaaGreatChecked
import Derived.RangeFuncLeaves
import Derived.WalkKit
import Derived.OwnWalkIn
import Derived.TacticsInMore
import Derived.LoopNIn
import Derived.LoopIn
import Derived.Shelf.Slices.In.SortNone
import Derived.Test.YtjimcmcffjibmaaGreatG5
set_option linter.all false
set_option maxHeartbeats 4000000
open List renaming getElem?_eq_getElem → Qa,mem_of_getElem? → Qb,getElem?_of_mem → Qf,flatten_nil → Qg,getD_eq_getElem?_getD → Qh,not_any_eq_all_not → Ql,flatten_cons → Qm,any_eq_true → Qo,map_cons → Qp,length_take → Qq,getElem?_take → Qs,headD_eq_head?_getD → Qu,any_eq_false → Qw,all_eq_true → Qx,map_append → Qy,flatten_append → Qz,mem_range → Q0,drop_eq_getElem_cons → Q1,length_cons → Q2,take_length → Q3,map_nil → Q5,head?_drop → Q6,take_append_drop → Q7,map_congr_left → Q9,length_append → Za,all_eq_false → Zc,cons_append → Zd,range → Ze
open Nat renaming le_refl → Qk,mul_one → Qr,zero_add → Q4
open Bool renaming and_eq_true → Qi,or_eq_false_iff → Qj,true_and → Qn,false_or → Qv,and_eq_false_iff → Q8,false_eq_true → Zb,xor_false → Zf
open Int renaming natCast_one → Qc,natCast_zero → Qd,natCast_add → Qe
open And renaming intro → Qt
namespace Go.C06
open Go.Fam
structure Span where
 low : Int
 high : Int
 deriving DecidableEq
def eI (n : Int) : List V := [.i n]
def eSpan (s : Span) : List V := [.i s.low,.i s.high]
def gI : V → Int | .i n => n | _ => 0
def gR : V → List (List V) | .sl _ r => r | _ => []
def dI (r : List V) : Int := gI (r.headD .u)
def Qas (n : Int) : dI (eI n) = n := rfl
def fnG {A B : Type} (e : A → List V) (d : List V → A) (ok : A → Prop) (g : A → B) (eb : B → V) : List V → Prop × V := fun vs => (e (d vs) = vs ∧ ok (d vs),eb (g (d vs)))
def Qa7 {P : Program} {A B : Type} {e : A → List V} {d : List V → A} {ok : A → Prop} {g : A → B} {eb : B → V} {f : Nat} (h : ∀ a,ok a → Qa1 P f (e a) (eb (g a))) (vs : List V) (hv : (fnG e d ok g eb vs).1) :
  Qa1 P f vs (fnG e d ok g eb vs).2 := by
 have := h (d vs) hv.2
 rw [hv.1] at this
 exact this
def Qap {A B : Type} {e : A → List V} {d : List V → A} {ok : A → Prop} {g : A → B} {eb : B → V} (a : A) (h : d (e a) = a) : fnG e d ok g eb (e a) = (ok a,eb (g a)) := by
 simp [fnG,h]
def Qa3 (n lo hi : Int) : Bool := decide (lo ≤ n) && decide (n ≤ hi)
def Qa4 {α : Type} {l : List α} {i : Nat} {x : α} (h : l[i]? = some x) : l.take (i + 1) = l.take i ++ [x] := by
 rw [List.take_add_one,h]; rfl
def idxOf {α : Type} (p : α → Bool) (l : List α) : Int := if l.any p then (l.findIdx p : Int) else -1
def Qah {α : Type} {p : α → Bool} {l : List α} {i : Nat} {x : α} (hx : l[i]? = some x) (e : p x = true) (hc : ∀ j x,j < i → l[j]? = some x → p x = false) : idxOf p l = i := by
 have h1 : l.any p = true := Qo.2 ⟨x,Qb hx,e⟩
 have hl := Qag hx
 have h2 : l[i] = x := by have := Qa hl; rw [this] at hx; exact Option.some.inj hx
 have h3 : l.findIdx p = i := (List.findIdx_eq hl).2 ⟨by rw [h2]; exact e,fun j hj => hc j _ hj (Qa (by omega))⟩
 simp [idxOf,h1,h3]
def Qaa {α : Type} {p : α → Bool} {l : List α} (h : ∀ x ∈ l,p x = false) : idxOf p l = -1 := by
 have : l.any p = false := by simpa using h
 simp [idxOf,this]
def Qab {α : Type} (p : α → Bool) (l : List α) : decide (0 ≤ idxOf p l) = l.any p := by
 unfold idxOf
 cases h : l.any p <;> simp
def Qaf {α : Type} {e : α → List V} {k : Nat} (h : ∀ x,(e x).length = k) : ∀ l : List α,((l.map e).flatten).length = l.length * k
 | [] => by simp
 | x :: l => by rw [Qp,Qm,Za,h,Qaf h l,Q2,Nat.succ_mul]; omega
mutual
theorem Qn7 (hp : List Blk) (n : Nat) : ∀ v : V,Qan v = false → cutV hp n v = v
 | .u,_ | .b _,_ | .i _,_ | .z _,_ | .sl _ _,_ | .sx _ _,_ | .pa _,_ | .pn,_ | .yl _,_ | .w _ _,_ | .pm _ _ _,_ | .fb _ _,_ => by simp [cutV]
 | .ag cs,h | .tp cs,h => by simp only [Qan] at h; simp only [cutV,Qa0 hp n cs h]
 | .fn f cs,h => by simp only [Qan] at h; simp only [cutV,Qa0 hp n cs h]
 | .gv q v,h => by simp only [Qan] at h; simp only [cutV,Qn7 hp n v h]
 | .ad _ _ _,h | .rf _ _ _ _ _,h | .mp _ _,h | .it _ _,h => by simp [Qan] at h
theorem Qa0 (hp : List Blk) (n : Nat) : ∀ vs : List V,Qa8 vs = false → cutL hp n vs = vs
 | [],_ => rfl
 | v :: vs,h => by
  simp only [Qa8,Qj] at h
  simp only [cutL,Qn7 hp n v h.1,Qa0 hp n vs h.2]
end
def Qa2 : ∀ (a b : List V),Qa8 (a ++ b) = (Qa8 a || Qa8 b)
 | [],b => by simp [Qa8]
 | v :: a,b => by simp only [Zd,Qa8,Qa2 a b,Bool.or_assoc]
mutual
theorem Qqk (n : Nat) : ∀ v : V,Qan v = false → upV n v = v
 | .u,_ | .b _,_ | .i _,_ | .z _,_ | .sl _ _,_ | .sx _ _,_ | .pa _,_ | .pn,_ | .yl _,_ | .w _ _,_ | .pm _ _ _,_ | .fb _ _,_ => by simp [upV]
 | .ag cs,h | .tp cs,h => by simp only [Qan] at h; simp only [upV,Qae n cs h]
 | .fn f cs,h => by simp only [Qan] at h; simp only [upV,Qae n cs h]
 | .gv q v,h => by simp only [Qan] at h; simp only [upV,Qqk n v h]
 | .ad _ _ _,h | .rf _ _ _ _ _,h | .mp _ _,h | .it _ _,h => by simp [Qan] at h
theorem Qae (n : Nat) : ∀ vs : List V,Qa8 vs = false → upL n vs = vs
 | [],_ => rfl
 | v :: vs,h => by
  simp only [Qa8,Qj] at h
  simp only [upL,Qqk n v h.1,Qae n vs h.2]
end
def Qa5 {α : Type} {e : α → List V} (h : ∀ x,Qa8 (e x) = false) : ∀ l : List α,Qa8 (l.map e).flatten = false
 | [] => rfl
 | x :: l => by simp only [Qp,Qm,Qa2,h,Qa5 h l,Bool.or_false]
def Qa9 {α : Type} {e : α → List V} {k : Nat} (h : ∀ x,(e x).length = k) : ∀ (l : List α),Qbi k ((l.map e).flatten) 0 l.length = l.map e
 | [] => by simp [Qbi]
 | x :: l => by
  rw [Q2,Qn4,Qp,Qm,Q4,List.drop_zero]
  have e1 : (e x ++ (l.map e).flatten).take k = e x := by rw [List.take_append_of_le_length (by rw [h]; exact Qk _),List.take_of_length_le (by rw [h]; exact Qk _)]
  rw [e1]
  congr 1
  have ih := Qa9 h l
  unfold Qbi at ih ⊢
  conv => rhs; rw [← ih]
  apply Q9
  intro j _
  congr 1
  have e2 : k + j * k = (e x).length + j * k := by rw [h]
  rw [e2,List.drop_append,Q4]
  simp
def Qa6 {α : Type} {e : α → List V} (hp : List Blk) (n : Nat) (h : ∀ x,(e x).map (vw hp n) = e x) (l : List α) : (l.map e).map (fun r => r.map (vw hp n)) = l.map e := by
 rw [List.map_map]
 exact Q9 fun x _ => h x
def Qad {α : Type} {l : List α} {k : Nat} {x : α} (h : l[k]? = some x) : l.drop k = x :: l.drop (k + 1) := by
 have hl := Qag h
 rw [Q1 hl]
 rw [Qa hl] at h
 rw [Option.some.inj h]
def Qal (l : List Int) : Qbi 1 ((l.map eI).flatten) 0 l.length = l.map eI := Qa9 (e := eI) (k := 1) (fun _ => rfl) l
def Qaz (l : List Int) : ((l.map eI).flatten).length = l.length * 1 := Qaf (e := eI) (k := 1) (fun _ => rfl) l
def vw_I (hp : List Blk) (n : Nat) (l : List Int) : (l.map eI).map (fun r => r.map (vw hp (n + 1))) = l.map eI := Qa6 (e := eI) hp (n + 1) (fun _ => rfl) l
def Qaj (l : List Int) : Qa8 ((l.map eI).flatten) = false := Qa5 (e := eI) (fun _ => rfl) l
def Qac {Γ : Gam} {E : TypeId → Nat → Prop} {Q : Exit → St → Prop} {σ : St} {α : Type} {l : List Nat} {d : Option Nat} {a : RC} (n : Nat) (S : Nat → α → St) (C : Nat → α → Prop) (x0 : α) (h0 : kp l d σ = S 0 x0) (c0 : C 0 x0)
  (hs : ∀ i x,i < n → C i x → wpR Γ E a (Qfw (fun σ'' => ∃ y,C (i + 1) y ∧ kp l d σ'' = S (i + 1) y) Q) (S i x)) (hn : ∀ x,C n x → wpR Γ E a (Qfw (fun _ => False) Q) (S n x)) : wpR Γ E (.loop l d a) Q σ := by
 refine Qjt (fun k σ => ∃ (i : Nat) (x : α),i ≤ n ∧ k = n - i ∧ C i x ∧ σ = S i x) ⟨n,0,x0,Nat.zero_le _,rfl,c0,h0⟩ ?_
 rintro k _ ⟨i,x,hi,rfl,hc,rfl⟩
 rcases Nat.lt_or_ge i n with h | h
 ·refine Qfk _ _ _ _ (fun e σ he => ?_) (hs i x h hc)
  cases e <;> first | exact he | skip
  obtain ⟨y,hc',hk⟩ := he
  exact ⟨n - (i + 1),by omega,i + 1,y,h,rfl,hc',hk⟩
 ·have : i = n := by omega
  subst this
  refine Qfk _ _ _ _ (fun e σ he => ?_) (hn x hc)
  cases e <;> first | exact he | exact he.elim
end Go.C06
namespace Go.C06
open Go.Fam Go.Proofs
def hmix : Tryz.prog.follows .mixedOrders = true := by kernel_rfl
structure Bent where
 bend : Int
 back : Span
 deriving DecidableEq
structure Cane where
 spring : Span
 bents : List Bent
 wrong : Int
 limit : Int
 tire : Int
 deriving DecidableEq
def eLI (a : List Int × Int) : List V := [.sl 1 (a.1.map eI),.i a.2]
def dLI : List V → List Int × Int | [.sl _ l,.i n] => (l.map dI,n) | _ => ([],0)
def Qb1 (a : List Int × Int) : dLI (eLI a) = a := by obtain ⟨s,n⟩ := a; simp [dLI,eLI,Function.comp_def,Qas]
end Go.C06
namespace Go.C06
open Go.Fam Go.Proofs
variable {Γ : Gam}
end Go.C06
namespace Go.C06
open Go.Fam Go.Proofs
variable {Γ : Gam}
def Zem (c : Cane) (i : Int) : Int := min 90 (c.limit - c.tire * i)
end Go.C06
namespace Go.C06
open Go.Fam Go.Proofs
variable {Γ : Gam}
end Go.C06
namespace Go.C06
open Go.Fam Go.Proofs
variable {Γ : Gam}
end Go.C06
namespace Go.C06
open Go.Fam Go.Proofs
def Poss (c : Cane) (l : List Int) : Prop := ∀ i : Nat,i < l.length → 1 ≤ l.getD i 0 ∧ l.getD i 0 ≤ Zem c i
def Zen (c : Cane) (i : Int) : Zem c i ≤ 90 := by unfold Zem; omega
def Poss.in_ {c : Cane} {l : List Int} (h : Poss c l) : ∀ n ∈ l,1 ≤ n ∧ n ≤ 90 := by
 intro n hn
 obtain ⟨i,hi,rfl⟩ := List.mem_iff_getElem.1 hn
 have := h i hi
 rw [Qh,Qa hi] at this
 have h2 := Zen c i
 simp only [Option.getD_some] at this
 omega
end Go.C06
namespace Go.C06
open Go.Fam Go.Proofs
variable {Γ : Gam}
end Go.C06
namespace Go.C06
open Go.Fam Go.Proofs
variable {Γ : Gam}
end Go.C06
namespace Go.C06
open Go.Fam Go.Proofs
variable {Γ : Gam}
def RIt (al : List V → Prop) (xs : List V) (r : V) (hp : List Blk) : Prop :=
 ∃ (b : Bool) (bv : List V) (rest : List (List V)) (tl : List Blk),hp = .gh xs (some ((.b b :: bv) :: rest)) :: (bv.map vB ++ tl) ∧ (b = true → rest = []) ∧ al bv
end Go.C06
namespace Go.C06
open Go.Fam Go.Proofs
variable {Γ : Gam}
end Go.C06
namespace Go.C06
open Go.Fam Go.Proofs
variable {Γ : Gam}
end Go.C06
namespace Go.C06
open Go.Fam Go.Proofs
variable {Γ : Gam}
def flat_I (l : List Int) : (l.map eI).flatten = l.map V.i := by
 induction l with
 | nil => rfl
 | cons x l ih => simp [eI] at ih ⊢; exact ih
def hdD (l : List Int) (k : Nat) (h : k < l.length) : ((l.map V.i).drop k).headD .u = .i (l.getD k 0) := by
 rw [Qu,Q6,List.getElem?_map,Qa h,Qh,Qa h]; rfl
def putI (l : List Int) (k : Nat) (x : Int) (h : k < l.length) : (l.map V.i).take k ++ [V.i x] ++ (l.map V.i).drop (k + 1) = (l.set k x).map V.i := by
 have := Qx0 k (.i x) (l.map V.i) (by simpa using h)
 rw [List.map_set,← this]; rfl
def chunkI (l : List Int) : Qbi 1 (l.map V.i) 0 l.length = l.map eI := by rw [← flat_I]; exact Qal l
def noref_Is (l : List Int) : Qa8 (l.map V.i) = false := by rw [← flat_I]; exact Qaj l
end Go.C06
namespace Go.C06
open Go.Fam Go.Proofs
variable {Γ : Gam}
end Go.C06
namespace Go.C06
open Go.Fam Go.Proofs
variable {Γ : Gam}
end Go.C06
namespace Go.C06
open Go.Fam Go.Proofs
variable {Γ : Gam}
end Go.C06
namespace Go.C06
open Go.Fam Go.Proofs
end Go.C06
namespace Go.C06
open Go.Fam Go.Proofs
variable {Γ : Gam}
end Go.C06
namespace Go.C06
open Go.Fam Go.Proofs
variable {Γ : Gam}
end Go.C06
namespace Go.C06
open Go.Fam Go.Proofs
end Go.C06
namespace Go.C06
open Go.Fam Go.Proofs Go.RowKit
end Go.C06
namespace Go.C06
open Go.Fam Go.Proofs
variable {Γ : Gam}
end Go.C06
namespace Go.C06
open Go.Fam Go.Proofs
variable {Γ : Gam}
structure IsOrd (n : Nat) (l : List Int) : Prop where
 len : l.length = n
 in_ : ∀ x ∈ l,0 ≤ x ∧ x < n
 nodup : l.Nodup
instance (n : Nat) (l : List Int) : Decidable (IsOrd n l) := decidable_of_iff (l.length = n ∧ (∀ x ∈ l,0 ≤ x ∧ x < n) ∧ l.Nodup) ⟨fun h => ⟨h.1,h.2.1,h.2.2⟩,fun h => ⟨h.1,h.2,h.3⟩⟩
end Go.C06
namespace Go.C06
open Go.Fam Go.Proofs
variable {Γ : Gam}
end Go.C06
namespace Go.C06
open Go.Fam Go.Proofs
end Go.C06
noncomputable section
namespace Go.CS
open Go.Fam Go.Proofs
open Go.Proofs.Tryz
open Go.Proofs.Tryz renaming prog → TP
open Go.C06 (fnG Qap Span eI eSpan gI gR dI Qas Qa7 Qa3 Qa4 idxOf Qah Qaa Qab Qaf Qa9 Qa6 Qa5 Qad Qal Qaz vw_I Qaj hmix eLI dLI Qb1 Qac Qa0 Qa2 Qae)
variable {Γ : Gam}
set_option maxRecDepth 100000
def pc {pu : List Nat} (hG : GOk TP Γ) {f : FuncId} {fn : Func} {rc : RC} {rs : List RV} (hf : TP.funcs[f]? = some fn) {args : List V} {r : V} (c : CF TP fn pu 0 1 rc rs args.length) (h : wpR Γ (Qar TP) rc (endQ rs r) ⟨lkp (zipA 0 args),[]⟩) : Qa1 TP f args r := pb hG Go.C06.hmix hf c h
def kx (K : Gam) (f : Nat) {Γ : Gam} {A B : Type} {e : A → List V} {d : List V → A} {ok : A → Prop} {g : A → B} {eb : B → V} {a : A} (h : d (e a) = a) (hK : K = Γ.ext f (fnG e d ok g eb)) : K f (e a) = (ok a,eb (g a)) := by
 rw [hK,Qna]
 exact Qap a h
def ky (K : Gam) (f : Nat) {Γ : Gam} {f' : Nat} {r : List V → Prop × V} {A B : Type} {e : A → List V} {d : List V → A} {ok : A → Prop} {g : A → B} {eb : B → V} {a : A} (h : d (e a) = a) (hK : K = (Γ.ext f (fnG e d ok g eb)).ext f' r) (hn : f ≠ f') : K f (e a) = (ok a,eb (g a)) := by
 rw [hK,Qcm hn,Qna]
 exact Qap a h
def lft (K : Gam) {G : Gam} {f : Nat} {l : List V} {p : Prop × V} (h : G f l = p) (e : K f = G f) : K f l = p := by rw [e]; exact h
structure Spare where
 kind : Int
 sect : Int
 len : Span
 deriving DecidableEq
structure Slot where
 kind : Int
 secs : List Int
 len : Span
 deriving DecidableEq
structure Trial where
 spare : Int
 make : Int
 slot : Int
 fits : Int
 deriving DecidableEq
structure Work where
 spares : List Spare
 makes : List (List Slot)
 cut : Int
 table : List Trial
 deriving DecidableEq
structure Piece where
 color : Int
 size : Int
 letter : Int
 make : Int
 broken : List Int
 deriving DecidableEq
structure Wish where
 colors : List Int
 size : Span
 letter : Int
 due : Int
 price : Int
 deriving DecidableEq
structure Del where
 day : Int
 spare : Int
 many : Int
 deriving DecidableEq
structure Shop where
 work : Work
 stock : List Int
 pieces : List Piece
 wishes : List Wish
 dels : List Del
 carve : Int
 deriving DecidableEq
def eSpare (s : Spare) : List V := [.i s.kind,.i s.sect,.i s.len.low,.i s.len.high]
def eSlot (t : Slot) : List V := [.i t.kind,.sl 1 (t.secs.map eI),.i t.len.low,.i t.len.high]
def eMake (m : List Slot) : List V := [.sl 4 (m.map eSlot)]
def eTrial (t : Trial) : List V := [.i t.spare,.i t.make,.i t.slot,.i t.fits]
def Qai (w : Work) : List V := [.sl 4 (w.spares.map eSpare),.sl 1 (w.makes.map eMake),.i w.cut,.sl 4 (w.table.map eTrial)]
def ePiece (p : Piece) : List V := [.i p.color,.i p.size,.i p.letter,.i p.make,.sl 1 (p.broken.map eI)]
def eWish (x : Wish) : List V := [.sl 1 (x.colors.map eI),.i x.size.low,.i x.size.high,.i x.letter,.i x.due,.i x.price]
def eDel (d : Del) : List V := [.i d.day,.i d.spare,.i d.many]
def Qat (s : Shop) : List V := [.sl 4 (s.work.spares.map eSpare),.sl 1 (s.work.makes.map eMake),.i s.work.cut,.sl 4 (s.work.table.map eTrial),.sl 1 (s.stock.map eI),.sl 5 (s.pieces.map ePiece),.sl 6 (s.wishes.map eWish),.sl 3 (s.dels.map eDel),.i s.carve]
def Zpc : List V → Span | [a,b] => ⟨gI a,gI b⟩ | _ => ⟨0,0⟩
def Ql6 : List V → Spare | [a,b,c,d] => ⟨gI a,gI b,⟨gI c,gI d⟩⟩ | _ => ⟨0,0,⟨0,0⟩⟩
def Qmq : List V → Slot | [a,b,c,d] => ⟨gI a,(gR b).map dI,⟨gI c,gI d⟩⟩ | _ => ⟨0,[],⟨0,0⟩⟩
def Qqs : List V → List Slot | [a] => (gR a).map Qmq | _ => []
def Qe2 : List V → Trial | [a,b,c,d] => ⟨gI a,gI b,gI c,gI d⟩ | _ => ⟨0,0,0,0⟩
def Qc0 : List V → Work | [a,b,c,d] => ⟨(gR a).map Ql6,(gR b).map Qqs,gI c,(gR d).map Qe2⟩ | _ => ⟨[],[],0,[]⟩
def Qep : List V → Piece | [a,b,c,d,e] => ⟨gI a,gI b,gI c,gI d,(gR e).map dI⟩ | _ => ⟨0,0,0,0,[]⟩
def Qpa : List V → Wish | [a,b,c,d,e,f] => ⟨(gR a).map dI,⟨gI b,gI c⟩,gI d,gI e,gI f⟩ | _ => ⟨[],⟨0,0⟩,0,0,0⟩
def dDel : List V → Del | [a,b,c] => ⟨gI a,gI b,gI c⟩ | _ => ⟨0,0,0⟩
def Qh0 : List V → Shop | [a,b,c,d,e,f,g,h,i] => ⟨⟨(gR a).map Ql6,(gR b).map Qqs,gI c,(gR d).map Qe2⟩,(gR e).map dI,(gR f).map Qep,(gR g).map Qpa,(gR h).map dDel,gI i⟩ | _ => ⟨⟨[],[],0,[]⟩,[],[],[],[],0⟩
def Qi2 (s : Spare) : Ql6 (eSpare s) = s := rfl
def Qdl (s : Trial) : Qe2 (eTrial s) = s := rfl
def Qv7 (s : Del) : dDel (eDel s) = s := rfl
def Qja (s : Slot) : Qmq (eSlot s) = s := by simp [Qmq,eSlot,gI,gR,Function.comp_def,Qas]
def Qj9 (s : List Slot) : Qqs (eMake s) = s := by simp [Qqs,eMake,gR,Function.comp_def,Qja]
def Qc3 (s : Work) : Qc0 (Qai s) = s := by simp [Qc0,Qai,gI,gR,Function.comp_def,Qi2,Qj9,Qdl]
def Qf7 (s : Piece) : Qep (ePiece s) = s := by simp [Qep,ePiece,gI,gR,Function.comp_def,Qas]
def Qo1 (s : Wish) : Qpa (eWish s) = s := by simp [Qpa,eWish,gI,gR,Function.comp_def,Qas]
def Qhj (s : Shop) : Qh0 (Qat s) = s := by simp [Qh0,Qat,gI,gR,Function.comp_def,Qi2,Qj9,Qdl,Qas,Qf7,Qo1,Qv7]
def eS1 (s : Span) : List V := [.ag (eSpan s)]
def dS1 : List V → Span | [.ag s] => Zpc s | _ => ⟨0,0⟩
def Zhr (s : Span) : dS1 (eS1 s) = s := rfl
def eL1 (l : List Int) : List V := [.sl 1 (l.map eI)]
def dL1 : List V → List Int | [.sl _ l] => l.map dI | _ => []
def Zhp (l : List Int) : dL1 (eL1 l) = l := by simp [dL1,eL1,Function.comp_def,Qas]
def eT1 (t : Slot) : List V := [.ag (eSlot t)]
def dT1 : List V → Slot | [.ag s] => Qmq s | _ => Qmq []
def Zpd (t : Slot) : dT1 (eT1 t) = t := by simp [dT1,eT1,Qja]
def eW1 (w : Work) : List V := [.ag (Qai w)]
def dW1 : List V → Work | [.ag s] => Qc0 s | _ => Qc0 []
def Ql7 (w : Work) : dW1 (eW1 w) = w := by simp [dW1,eW1,Qc3]
def eWI (a : Work × Int) : List V := [.ag (Qai a.1),.i a.2]
def dWI : List V → Work × Int | [.ag s,.i n] => (Qc0 s,n) | _ => (Qc0 [],0)
def Qva (a : Work × Int) : dWI (eWI a) = a := by obtain ⟨w,n⟩ := a; simp [dWI,eWI,Qc3]
def eWII (a : Work × Int × Int) : List V := [.ag (Qai a.1),.i a.2.1,.i a.2.2]
def dWII : List V → Work × Int × Int | [.ag s,.i n,.i m] => (Qc0 s,n,m) | _ => (Qc0 [],0,0)
def Qv9 (a : Work × Int × Int) : dWII (eWII a) = a := by obtain ⟨w,n,m⟩ := a; simp [dWII,eWII,Qc3]
def eH1 (s : Shop) : List V := [.ag (Qat s)]
def dH1 : List V → Shop | [.ag s] => Qh0 s | _ => Qh0 []
def Qqr (s : Shop) : dH1 (eH1 s) = s := by simp [dH1,eH1,Qhj]
def ascB : List Int → Bool
 | x :: y :: r => decide (x < y) && ascB (y :: r)
 | _ => true
def Qdk : ∀ l : List Int,ascB l = true ↔ ∀ j x y,l[j]? = some x → l[j + 1]? = some y → x < y
 | [] => by simp [ascB]
 | [a] => by
  simp only [ascB,true_iff]
  intro j x y h1 h2; simp at h2
 | a :: b :: r => by
  have ih := Qdk (b :: r)
  simp only [ascB,Qi,decide_eq_true_eq]
  constructor
  ·rintro ⟨h1,h2⟩ j x y hx hy
   cases j with
   | zero => simp at hx hy; omega
   | succ j => exact ih.1 h2 j x y (by simpa using hx) (by simpa using hy)
  ·intro h
   exact ⟨h 0 a b rfl rfl,ih.2 fun j x y hx hy => h (j + 1) x y (by simpa using hx) (by simpa using hy)⟩
def Zdr (s : Span) : eSpan s = [.i s.low,.i s.high] := rfl
def BL := Qt BU2 (Qt @eI.eq_1 (Qt @Zdr (Qt @eSpare.eq_1 (Qt @eSlot.eq_1 (Qt @eMake.eq_1 (Qt @eTrial.eq_1 (Qt @Qai.eq_1 (Qt @ePiece.eq_1 (Qt @eWish.eq_1 (Qt @eDel.eq_1 @Qat.eq_1))))))))))
def W87 (n lo hi : Int) : Qa1 TP 90 [.i n,.i lo,.i hi] (.b (Qa3 n lo hi)) := by
 refine pc Zic func90 cf90 ?_
 simp only [rc90,rs90,BU2,simprocAttr]
 by_cases h : lo ≤ n <;> simp [h,Qa3]
def sWi : List V → Prop × V | [.i n,.i lo,.i hi] => (True,.b (Qa3 n lo hi)) | _ => (False,.u)
def Qt5 {f : Nat} (hf : ∀ n lo hi : Int,Qa1 TP f [.i n,.i lo,.i hi] (.b (Qa3 n lo hi))) (vs : List V) (h : (sWi vs).1) : Qa1 TP f vs (sWi vs).2 := by
 unfold sWi at h ⊢
 split at h
 ·exact hf _ _ _
 ·exact h.elim
def K1 := Γ0.ext 90 sWi
def okK1 : GOk TP K1 := Zic.ext (f := 90) (r := sWi) (fun a w => call90 a w) (Qt5 W87)
def h87 (n lo hi : Int) : K1 90 [.i n,.i lo,.i hi] = (True,.b (Qa3 n lo hi)) := rfl
def Qgf (s : Span) : Bool := Qa3 s.low 0 s.high && decide (s.high ≤ 999)
def W88 (s : Span) : Qa1 TP 91 [.ag (eSpan s)] (.b (Qgf s)) := by
 refine pc okK1 func91 cf91 ?_
 simp only [rc91,rs91,h87,BL,simprocAttr]
 by_cases h : Qa3 s.low 0 s.high = true <;> simp [h,Qgf]
def W123 (l : List Int) (hl : l.length ≤ 1000000) : Qa1 TP 126 [.sl 1 (l.map eI)] (.b (ascB l)) := by
 refine pc okK1 func126 Zna ?_
 simp only [rc126,rs126,BU2,simprocAttr]
 refine Qao (l.length - 1) (fun k => ⟨lkp [(0,.sl 1 (l.map eI)),(3,.i ((k + 1 : Nat) : Int))],[]⟩) (fun k => ∀ j x y,j < k → l[j]? = some x → l[j + 1]? = some y → x < y) ?_ ?_ ?_ ?_
 ·simp only [BU2,simprocAttr]
 ·intro j x y h; omega
 ·intro k hk hc
  obtain ⟨x,hx⟩ : ∃ x,l[k]? = some x := ⟨_,Qa (by omega)⟩
  obtain ⟨y,hy⟩ : ∃ y,l[k + 1]? = some y := ⟨_,Qa (by omega)⟩
  have hlt : ((k + 1 : Nat) : Int) < l.length := by omega
  have e1 : ((k + 1 : Nat) : Int) - 1 = (k : Int) := by omega
  have h3 : inI ((k + 1 + 1 : Nat) : Int) ∧ inI (k : Int) := by unfold inI; omega
  have e2 : ((k + 1 : Nat) : Int) + 1 = ((k + 1 + 1 : Nat) : Int) := by omega
  have vV : (k : Int) < l.length := by omega
  simp only [hx,hy,hlt,e1,h3,e2,vV,BL,simprocAttr]
  refine ⟨fun e => ?_,fun e => ?_⟩
  ·have : ¬ ascB l = true := fun ha => by have := (Qdk l).1 ha k x y hx hy; omega
   simp at this; exact this.symm
  ·intro j a b hj ha hb
   by_cases u6 : j < k
   ·exact hc j a b u6 ha hb
   ·have : j = k := by omega
    subst this
    rw [hx] at ha; rw [hy] at hb; cases ha; cases hb; omega
 ·intro hc
  have hn : ¬ (((l.length - 1 + 1 : Nat) : Int) < l.length) := by omega
  simp only [hn,BU2,simprocAttr]
  exact ((Qdk l).2 fun j x y hx hy => hc j x y (by have := Qag hy; omega) hx hy).symm
def K2 := (K1.ext 91 (fnG eS1 dS1 (fun _ => True) Qgf .b)).ext 126 (fnG eL1 dL1 (fun l => l.length ≤ 1000000) ascB .b)
def okK2 : GOk TP K2 := (okK1.ext call91 (Qa7 (e := eS1) (d := dS1) (ok := fun _ => True) (g := Qgf) (eb := .b) fun s _ => W88 s)).ext call126 (Qa7 fun s h => W123 s h)
def h88 (s : Span) : K2 91 [.ag (eSpan s)] = (True,.b (Qgf s)) := (ky K2 91 (Zhr s) rfl (by decide) :)
def h123 (l : List Int) : K2 126 [.sl 1 (l.map eI)] = (l.length ≤ 1000000,.b (ascB l)) := (kx K2 126 (Zhp l) rfl :)
def Qur (n lo hi : Int)  := lft K2 (h87 n lo hi) rfl
def okSlot (t : Slot) : Bool := (t.secs.all fun n => Qa3 n 0 9) && Qa3 t.kind 0 9 && decide ((t.secs.length : Int) ≤ 4) && ascB t.secs && Qgf t.len
def W89 (t : Slot) (hl : t.secs.length ≤ 1000000) : Qa1 TP 92 [.ag (eSlot t)] (.b (okSlot t)) := by
 refine pc okK2 func92 cf92 ?_
 simp only [rc92,rs92,BL,simprocAttr]
 refine Qao t.secs.length (fun i => ⟨lkp [(1,.pa (eSlot t)),(3,.i i)],[]⟩) (fun i => ∀ j x,j < i → t.secs[j]? = some x → Qa3 x 0 9 = true) ?_ ?_ ?_ ?_
 ·simp only [Qd,BL,simprocAttr]
 ·intro j x h; omega
 ·intro i hi hc
  obtain ⟨x,hx⟩ : ∃ x,t.secs[i]? = some x := ⟨_,Qa hi⟩
  have hlt : (i : Int) < t.secs.length := by omega
  have h4 : inI ((i : Int) + 1) := by unfold inI; omega
  have jX : Qa3 x 0 9 = false → okSlot t = false := fun e => by
   have : (t.secs.all fun n => Qa3 n 0 9) = false := by rw [Zc]; exact ⟨x,Qb hx,by rw [e]; simp⟩
   unfold okSlot; rw [this]; rfl
  cases hs : Qa3 x 0 9 with
  | false => simp only [hx,hlt,Qur,hs,jX hs,BL,simprocAttr]
  | true =>
   simp only [hx,hlt,Qur,hs,h4,Qe,Qc,BL,simprocAttr]
   intro j y hj hy
   by_cases xE : j < i
   ·exact hc j y xE hy
   ·have : j = i := by omega
    subst this
    rw [hx] at hy; cases hy; exact hs
 ·intro hc
  have hlt : ¬ ((t.secs.length : Int) < t.secs.length) := by omega
  have ha : (t.secs.all fun n => Qa3 n 0 9) = true := by
   rw [Qx]
   intro x hx
   obtain ⟨j,hj⟩ := Qf hx
   exact hc j x (Qag hj) hj
  have g := h88 t.len
  unfold eSpan at g
  simp only [hlt,Qur,g,h123,BL,simprocAttr]
  unfold okSlot
  rw [ha]
  by_cases h1 : Qa3 t.kind 0 9 = true
  ·by_cases h2 : (t.secs.length : Int) ≤ 4
   ·by_cases h3 : ascB t.secs = true
    ·simp [h1,h2,h3,hl]
    ·simp [h1,h2,h3,hl]
   ·simp [h1,h2]
  ·simp [h1]
def W90 (w : Work) (n : Int) (hl : w.spares.length ≤ 1000000) : Qa1 TP 93 [.ag (Qai w),.i n] (.b (Qa3 n 0 (w.spares.length - 1))) := by
 refine pc okK2 func93 cf93 ?_
 have h1 : inI ((w.spares.length : Int) - 1) := by unfold inI; omega
 simp only [rc93,rs93,Qur,h1,BL,simprocAttr]
def W124 (w : Work) (n : Int) (hl : w.makes.length ≤ 1000000) : Qa1 TP 127 [.ag (Qai w),.i n] (.b (Qa3 n 0 (w.makes.length - 1))) := by
 refine pc okK2 func127 Znb ?_
 have h1 : inI ((w.makes.length : Int) - 1) := by unfold inI; omega
 simp only [rc127,rs127,Qur,h1,BL,simprocAttr]
def K3 := ((K2.ext 92 (fnG eT1 dT1 (fun t => t.secs.length ≤ 1000000) okSlot .b)).ext 93 (fnG eWI dWI (fun a => a.1.spares.length ≤ 1000000) (fun a => Qa3 a.2 0 (a.1.spares.length - 1)) .b)).ext 127 (fnG eWI dWI (fun a => a.1.makes.length ≤ 1000000) (fun a => Qa3 a.2 0 (a.1.makes.length - 1)) .b)
def okK3 : GOk TP K3 := by
 have k1 := okK2.ext call92 (Qa7 (e := eT1) (d := dT1) (ok := fun t => t.secs.length ≤ 1000000) (g := okSlot) (eb := .b) fun t h => W89 t h)
 have k2 := k1.ext call93 (Qa7 (e := eWI) (d := dWI) (ok := fun a => a.1.spares.length ≤ 1000000) (g := fun a => Qa3 a.2 0 (a.1.spares.length - 1)) (eb := .b) fun a h => W90 a.1 a.2 h)
 exact k2.ext call127 (Qa7 (e := eWI) (d := dWI) (ok := fun a => a.1.makes.length ≤ 1000000) (g := fun a => Qa3 a.2 0 (a.1.makes.length - 1)) (eb := .b) fun a h => W124 a.1 a.2 h)
def h89 (t : Slot) : K3 92 [.ag (eSlot t)] = (t.secs.length ≤ 1000000,.b (okSlot t)) := (show K3 92 _ = fnG eT1 dT1 (fun t => t.secs.length ≤ 1000000) okSlot .b (eT1 t) from rfl).trans (Qap _ (Zpd _))
def h90 (w : Work) (n : Int) : K3 93 [.ag (Qai w),.i n] = (w.spares.length ≤ 1000000,.b (Qa3 n 0 (w.spares.length - 1))) := (show K3 93 _ = fnG eWI dWI (fun a => a.1.spares.length ≤ 1000000) (fun a => Qa3 a.2 0 (a.1.spares.length - 1)) .b (eWI (w,n)) from rfl).trans (Qap _ (Qva _))
def h124 (w : Work) (n : Int) : K3 127 [.ag (Qai w),.i n] = (w.makes.length ≤ 1000000,.b (Qa3 n 0 (w.makes.length - 1))) := (kx K3 127 (Qva (w,n)) rfl :)
def Zm4 (n lo hi : Int)  := lft K3 (h87 n lo hi) rfl
def Qav (w : Work) (m : Int) : List Slot := w.makes.getD m.toNat []
def Qay (w : Work) (m k : Int) : Bool := Qa3 m 0 (w.makes.length - 1) && Qa3 k 0 ((Qav w m).length - 1)
structure SmallW (w : Work) : Prop where
 spares : w.spares.length ≤ 1000000
 makes : w.makes.length ≤ 1000000
 slots : ∀ m ∈ w.makes,m.length ≤ 1000000
 secs : ∀ m ∈ w.makes,∀ t ∈ m,t.secs.length ≤ 1000000
 table : w.table.length ≤ 1000000
def Qdo {w : Work} {m : Int} (h : Qa3 m 0 (w.makes.length - 1) = true) : 0 ≤ m ∧ m < w.makes.length ∧ w.makes[m.toNat]? = some (Qav w m) := by
 simp only [Qa3,Qi,decide_eq_true_eq] at h
 refine ⟨h.1,by omega,?_⟩
 unfold Qav
 rw [Qh,Qa (by omega)]; rfl
def W91 (w : Work) (m k : Int) (hw : SmallW w) : Qa1 TP 94 [.ag (Qai w),.i m,.i k] (.b (Qay w m k)) := by
 refine pc okK3 func94 cf94 ?_
 have g1 := h124 w m
 unfold Qai at g1
 cases h : Qa3 m 0 (w.makes.length - 1) with
 | false =>
  simp only [rc94,rs94,g1,h,hw.makes,BL,simprocAttr]
  unfold Qay; rw [h]; rfl
 | true =>
  obtain ⟨h1,h2,h3⟩ := Qdo h
  have h4 := hw.slots _ (Qb h3)
  have h5 : inI (((Qav w m).length : Int) - 1) := by unfold inI; omega
  simp only [rc94,rs94,g1,h,hw.makes,h1,h2,h3,h5,Zm4,BL,simprocAttr]
  unfold Qay; rw [h]; rfl
def Qbw {α : Type} {l : List α} {p : α → Bool} {i : Nat} {x : α} (hx : l[i]? = some x) (e : p x = true) (hc : ∀ j y,j < i → l[j]? = some y → p y = true) : ∀ j y,j < i + 1 → l[j]? = some y → p y = true := by
 intro j y hj hy
 by_cases xE : j < i
 ·exact hc j y xE hy
 ·have : j = i := by omega
  subst this
  rw [hx] at hy; cases hy; exact e
def Qen {α : Type} {l : List α} {p : α → Bool} {i : Nat} {x : α} (hx : l[i]? = some x) (e : p x = false) : l.all p = false := by
 rw [Zc]; exact ⟨x,Qb hx,by rw [e]; simp⟩
def Qde {α : Type} {l : List α} {p : α → Bool} (hc : ∀ j y,j < l.length → l[j]? = some y → p y = true) : l.all p = true := by
 rw [Qx]
 intro x hx
 obtain ⟨j,hj⟩ := Qf hx
 exact hc j x (Qag hj) hj
def K4 := K3.ext 94 (fnG eWII dWII (fun a => SmallW a.1) (fun a => Qay a.1 a.2.1 a.2.2) .b)
def okK4 : GOk TP K4 := okK3.ext call94 (Qa7 fun a h => W91 a.1 a.2.1 a.2.2 h)
def h91 (w : Work) (m k : Int) : K4 94 [.ag (Qai w),.i m,.i k] = (SmallW w,.b (Qay w m k)) := (kx K4 94 (Qv9 (w,m,k)) rfl :)
def Qky (n lo hi : Int)  := lft K4 (h87 n lo hi) rfl
def Zm5 (s : Span)  := lft K4 (h88 s) rfl
def Zm6 (t : Slot)  := lft K4 (h89 t) rfl
def Zm7 (w : Work) (n : Int)  := lft K4 (h90 w n) rfl
def okSpare (s : Spare) : Bool := Qa3 s.kind 0 9 && Qa3 s.sect 0 9 && Qgf s.len
def okMake (m : List Slot) : Bool := decide ((m.length : Int) ≤ 4) && m.all okSlot
def Qbl (w : Work) (t : Trial) : Bool := Qa3 t.spare 0 (w.spares.length - 1) && Qay w t.make t.slot && Qa3 t.fits 0 1
def Qdd (w : Work) : Bool := decide ((w.spares.length : Int) ≤ 10) && decide ((w.makes.length : Int) ≤ 6) && Qa3 w.cut 0 99 && decide ((w.table.length : Int) ≤ 30) && w.spares.all okSpare && w.makes.all okMake && w.table.all (Qbl w)
def W68 (w : Work) (hw : SmallW w) : Qa1 TP 61 [.ag (Qai w)] (.b (Qdd w)) := by
 refine pc okK4 func61 cf61 ?_
 have hE : Qdd w = (decide ((w.spares.length : Int) ≤ 10) && decide ((w.makes.length : Int) ≤ 6) && Qa3 w.cut 0 99 && decide ((w.table.length : Int) ≤ 30) && w.spares.all okSpare && w.makes.all okMake && w.table.all (Qbl w)) := rfl
 generalize Qdd w = res at hE
 by_cases a1 : (10 : Int) < w.spares.length
 ·have n1 : ¬ (w.spares.length : Int) ≤ 10 := by omega
  simp only [rc61,rs61,Qky,a1,BL,simprocAttr]; simp [hE,n1]
 have b1 : (w.spares.length : Int) ≤ 10 := by omega
 by_cases a2 : (6 : Int) < w.makes.length
 ·have n2 : ¬ (w.makes.length : Int) ≤ 6 := by omega
  simp only [rc61,rs61,Qky,a1,a2,BL,simprocAttr]; simp [hE,n2]
 have b2 : (w.makes.length : Int) ≤ 6 := by omega
 cases a3 : Qa3 w.cut 0 99 with
 | false => simp only [rc61,rs61,Qky,a1,a2,a3,BL,simprocAttr]; simp [hE,a3]
 | true =>
 by_cases a4 : (30 : Int) < w.table.length
 ·have n4 : ¬ (w.table.length : Int) ≤ 30 := by omega
  simp only [rc61,rs61,Qky,a1,a2,a3,a4,BL,simprocAttr]; simp [hE,n4]
 have b4 : (w.table.length : Int) ≤ 30 := by omega
 simp only [b1,b2,a3,b4,decide_true,Qn] at hE
 simp only [rc61,rs61,Qky,a1,a2,a3,a4,BL,simprocAttr]
 refine Qao w.spares.length (fun i => ⟨lkp [(1,.pa (Qai w)),(3,.i i)],[]⟩) (fun i => ∀ j x,j < i → w.spares[j]? = some x → okSpare x = true) ?_ ?_ ?_ ?_
 ·simp only [Qd,BL,simprocAttr]
 ·intro j x h; omega
 ·intro i hi hc
  obtain ⟨x,hx⟩ : ∃ x,w.spares[i]? = some x := ⟨_,Qa hi⟩
  have hlt : (i : Int) < w.spares.length := by omega
  have h4 : inI ((i : Int) + 1) := by unfold inI; omega
  have g := Zm5 x.len
  unfold eSpan at g
  have jX : okSpare x = false → res = false := fun e => by rw [hE,Qen hx e]; rfl
  unfold okSpare at jX
  cases s1 : Qa3 x.kind 0 9 with
  | false =>
   have q := jX (by rw [s1]; rfl)
   simp only [hx,hlt,Qky,s1,q,BL,simprocAttr]
  | true =>
  cases s2 : Qa3 x.sect 0 9 with
  | false =>
   have q := jX (by rw [s1,s2]; rfl)
   simp only [hx,hlt,Qky,s1,s2,q,BL,simprocAttr]
  | true =>
  cases s3 : Qgf x.len with
  | false =>
   have q := jX (by rw [s1,s2,s3]; rfl)
   simp only [hx,hlt,Qky,s1,s2,g,s3,q,BL,simprocAttr]
  | true =>
   simp only [hx,hlt,Qky,s1,s2,g,s3,h4,Qe,Qc,BL,simprocAttr]
   exact Qbw hx (by unfold okSpare; rw [s1,s2,s3]; rfl) hc
 intro hc
 have hlt : ¬ ((w.spares.length : Int) < w.spares.length) := by omega
 rw [Qde hc,Qn] at hE
 simp only [hlt,BL,simprocAttr]
 refine Qao w.makes.length (fun i => ⟨lkp [(1,.pa (Qai w)),(5,.i i)],[]⟩) (fun i => ∀ j x,j < i → w.makes[j]? = some x → okMake x = true) ?_ ?_ ?_ ?_
 ·simp only [Qd,BL,simprocAttr]
 ·intro j x h; omega
 ·intro i hi hc
  obtain ⟨m,hm⟩ : ∃ m,w.makes[i]? = some m := ⟨_,Qa hi⟩
  have hlt : (i : Int) < w.makes.length := by omega
  have h4 : inI ((i : Int) + 1) := by unfold inI; omega
  have jX : okMake m = false → res = false := fun e => by rw [hE,Qen hm e]; rfl
  by_cases c1 : (4 : Int) < m.length
  ·have n1 : ¬ (m.length : Int) ≤ 4 := by omega
   have q := jX (by unfold okMake; simp [n1])
   simp only [hm,hlt,c1,q,BL,simprocAttr]
  have d1 : (m.length : Int) ≤ 4 := by omega
  simp only [hm,hlt,c1,BL,simprocAttr]
  refine Qao m.length (fun k => ⟨lkp [(1,.pa (Qai w)),(5,.i i),(6,.i k)],[]⟩) (fun k => ∀ j x,j < k → m[j]? = some x → okSlot x = true) ?_ ?_ ?_ ?_
  ·simp only [Qd,BL,simprocAttr]
  ·intro j x h; omega
  ·intro k hk vV
   obtain ⟨t,ht⟩ : ∃ t,m[k]? = some t := ⟨_,Qa hk⟩
   have vG : (k : Int) < m.length := by omega
   have h5 : inI ((k : Int) + 1) := by unfold inI; omega
   have hs := hw.secs m (Qb hm) t (Qb ht)
   have g := Zm6 t
   unfold eSlot at g
   cases s1 : okSlot t with
   | false =>
    have q := jX (by unfold okMake; rw [Qen ht s1]; simp)
    simp only [hm,hlt,ht,vG,g,hs,s1,q,BL,simprocAttr]
   | true =>
    simp only [hm,hlt,ht,vG,g,hs,s1,h5,Qe,Qc,BL,simprocAttr]
    exact Qbw ht s1 vV
  ·intro vV
   have vG : ¬ ((m.length : Int) < m.length) := by omega
   simp only [hm,hlt,vG,h4,Qe,Qc,BL,simprocAttr]
   exact Qbw hm (by unfold okMake; rw [Qde vV]; simp [d1]) hc
 intro vO
 have xI : ¬ ((w.makes.length : Int) < w.makes.length) := by omega
 rw [Qde vO,Qn] at hE
 simp only [xI,BL,simprocAttr]
 refine Qao w.table.length (fun i => ⟨lkp [(1,.pa (Qai w)),(7,.i i)],[]⟩) (fun i => ∀ j x,j < i → w.table[j]? = some x → Qbl w x = true) ?_ ?_ ?_ ?_
 ·simp only [Qd,BL,simprocAttr]
 ·intro j x h; omega
 ·intro i hi hc
  obtain ⟨x,hx⟩ : ∃ x,w.table[i]? = some x := ⟨_,Qa hi⟩
  have hlt : (i : Int) < w.table.length := by omega
  have h4 : inI ((i : Int) + 1) := by unfold inI; omega
  have g1 := Zm7 w x.spare
  have g2 := h91 w x.make x.slot
  unfold Qai at g1 g2
  have jX : Qbl w x = false → res = false := fun e => by rw [hE,Qen hx e]
  unfold Qbl at jX
  cases s1 : Qa3 x.spare 0 (w.spares.length - 1) with
  | false =>
   have q := jX (by rw [s1]; rfl)
   simp only [hx,hlt,g1,hw.spares,s1,q,BL,simprocAttr]
  | true =>
  cases s2 : Qay w x.make x.slot with
  | false =>
   have q := jX (by rw [s1,s2]; rfl)
   simp only [hx,hlt,g1,g2,hw,hw.spares,s1,s2,q,BL,simprocAttr]
  | true =>
  cases s3 : Qa3 x.fits 0 1 with
  | false =>
   have q := jX (by rw [s1,s2,s3]; rfl)
   simp only [hx,hlt,g1,g2,hw,hw.spares,Qky,s1,s2,s3,q,BL,simprocAttr]
  | true =>
   simp only [hx,hlt,g1,g2,hw,hw.spares,Qky,s1,s2,s3,h4,Qe,Qc,BL,simprocAttr]
   exact Qbw hx (by unfold Qbl; rw [s1,s2,s3]; rfl) hc
 intro uZ
 have bW : ¬ ((w.table.length : Int) < w.table.length) := by omega
 rw [Qde uZ] at hE
 simp only [bW,hE,BL,simprocAttr]
def K5 := K4.ext 61 (fnG eW1 dW1 SmallW Qdd .b)
def okK5 : GOk TP K5 := okK4.ext call61 (Qa7 fun a h => W68 a h)
def h68 (w : Work) : K5 61 [.ag (Qai w)] = (SmallW w,.b (Qdd w)) := (kx K5 61 (Ql7 w) rfl :)
def Qdu (a b : Trial) : Bool := decide (a.spare = b.spare) && decide (a.make = b.make) && decide (a.slot = b.slot) && !decide (a.fits = b.fits)
def conB (t : List Trial) : Bool := (Ze t.length).any fun i => (t.take i).any fun a => Qdu a (t.getD i ⟨0,0,0,0⟩)
def Qkk {t : List Trial} : conB t = true ↔ ∃ (k i : Nat) (a b : Trial),k < i ∧ t[k]? = some a ∧ t[i]? = some b ∧ Qdu a b = true := by
 unfold conB
 rw [Qo]
 constructor
 ·rintro ⟨i,hi,h⟩
  obtain ⟨a,ha,hc⟩ := Qo.1 h
  obtain ⟨k,hk⟩ := Qf ha
  have xB := Qag hk
  rw [Qq] at xB
  have hi' := Q0.1 hi
  refine ⟨k,i,a,t[i],by omega,?_,Qa hi',?_⟩
  ·rw [Qs,if_pos (by omega)] at hk; exact hk
  ·rw [Qh,Qa hi'] at hc; exact hc
 ·rintro ⟨k,i,a,b,zW,ha,hb,hc⟩
  refine ⟨i,Q0.2 (Qag hb),Qo.2 ⟨a,?_,?_⟩⟩
  ·refine Qb (i := k) ?_
   rw [Qs,if_pos zW]; exact ha
  ·rw [Qh,hb]; exact hc
def Qco (w : Work) : Int := if Qdd w = true then (if conB w.table = true then 71 else 0) else 70
def Qqf {w : Work} (h : Qdd w = true) : w.table.length ≤ 30 := by
 unfold Qdd at h
 simp only [Qi,decide_eq_true_eq] at h
 omega
def W42 (w : Work) (hw : SmallW w) : Qa1 TP 30 [.ag (Qai w)] (.i (Qco w)) := by
 refine pc okK5 func30 cf30 ?_
 have g := h68 w
 unfold Qai at g
 cases h0 : Qdd w with
 | false => simp only [rc30,rs30,g,hw,h0,BL,simprocAttr]; simp [Qco,h0]
 | true =>
 have hl := Qqf h0
 have hE : Qco w = if conB w.table = true then 71 else 0 := by unfold Qco; rw [h0]; rfl
 simp only [rc30,rs30,g,hw,h0,BL,simprocAttr]
 refine Qao w.table.length (fun i => ⟨lkp [(1,.pa (Qai w)),(3,.i i)],[]⟩) (fun i => ∀ k j a b,k < j → j < i → w.table[k]? = some a → w.table[j]? = some b → Qdu a b = false) ?_ ?_ ?_ ?_
 ·simp only [Qd,BL,simprocAttr]
 ·intro k j a b _ h; omega
 ·intro i hi hc
  obtain ⟨b,hb⟩ : ∃ b,w.table[i]? = some b := ⟨_,Qa hi⟩
  have hlt : (i : Int) < w.table.length := by omega
  have h4 : inI ((i : Int) + 1) := by unfold inI; omega
  simp only [hlt,BL,simprocAttr]
  refine Qao i (fun k => ⟨lkp [(1,.pa (Qai w)),(3,.i i),(4,.i k)],[]⟩) (fun k => ∀ j a,j < k → w.table[j]? = some a → Qdu a b = false) ?_ ?_ ?_ ?_
  ·simp only [Qd,BL,simprocAttr]
  ·intro j x h; omega
  ·intro k hk vV
   obtain ⟨a,ha⟩ : ∃ a,w.table[k]? = some a := ⟨_,Qa (by omega)⟩
   have vG : (k : Int) < i := by omega
   have xB : (k : Int) < w.table.length := by omega
   have h5 : inI ((k : Int) + 1) := by unfold inI; omega
   have vS : Qdu a b = false → ∀ j x,j < k + 1 → w.table[j]? = some x → Qdu x b = false := fun e j x hj hx => by
    by_cases xE : j < k
    ·exact vV j x xE hx
    ·have : j = k := by omega
     subst this
     rw [ha] at hx; cases hx; exact e
   have bX : Qdu a b = true → Qco w = 71 := fun e => by rw [hE,Qkk.2 ⟨k,i,a,b,hk,ha,hb,e⟩]; rfl
   by_cases e1 : a.spare = b.spare
   rotate_left
   ·simp only [ha,hb,hlt,vG,xB,e1,h5,Qe,Qc,BL,simprocAttr]; exact vS (by simp [Qdu,e1])
   by_cases e2 : a.make = b.make
   rotate_left
   ·simp only [ha,hb,hlt,vG,xB,e1,e2,h5,Qe,Qc,BL,simprocAttr]; exact vS (by simp [Qdu,e2])
   by_cases e3 : a.slot = b.slot
   rotate_left
   ·simp only [ha,hb,hlt,vG,xB,e1,e2,e3,h5,Qe,Qc,BL,simprocAttr]; exact vS (by simp [Qdu,e3])
   by_cases e4 : a.fits = b.fits
   ·simp only [ha,hb,hlt,vG,xB,e1,e2,e3,e4,h5,Qe,Qc,BL,simprocAttr]; exact vS (by simp [Qdu,e4])
   ·have q := bX (by simp [Qdu,e1,e2,e3,e4])
    simp only [ha,hb,hlt,vG,xB,e1,e2,e3,e4,q,BL,simprocAttr]
  ·intro vV
   have vG : ¬ ((i : Int) < i) := by omega
   simp only [vG,h4,Qe,Qc,BL,simprocAttr]
   intro k j x y fF hj hx hy
   by_cases xE : j < i
   ·exact hc k j x y fF xE hx hy
   ·have : j = i := by omega
    subst this
    rw [hb] at hy; cases hy
    exact vV k x fF hx
 ·intro hc
  have hlt : ¬ ((w.table.length : Int) < w.table.length) := by omega
  have : conB w.table = false := by
   cases h : conB w.table with
   | false => rfl
   | true =>
    obtain ⟨k,i,a,b,zW,ha,hb,e⟩ := Qkk.1 h
    rw [hc k i a b zW (Qag hb) ha hb] at e; cases e
  have q : Qco w = 0 := by rw [hE,this]; rfl
  simp only [hlt,q,BL,simprocAttr]
def W159 (l : List Int) (n : Int) (hl : l.length ≤ 1000000) : Qa1 TP 15 [.sl 1 (l.map eI),.i n] (.b (decide (n ∈ l))) := by
 refine pc okK5 func15 cf15 ?_
 simp only [rc15,rs15,BU2,simprocAttr]
 refine Qao l.length (fun k => ⟨lkp [(0,.sl 1 (l.map eI)),(1,.i n),(5,.i k)],[]⟩) (fun k => ∀ j x,j < k → l[j]? = some x → x ≠ n) ?_ ?_ ?_ ?_
 ·simp only [Qd,BU2,simprocAttr]
 ·intro j x h; omega
 ·intro k hk hc
  obtain ⟨x,hx⟩ : ∃ x,l[k]? = some x := ⟨_,Qa hk⟩
  have hlt : (k : Int) < l.length := by omega
  have h4 : inI ((k : Int) + 1) := by unfold inI; omega
  by_cases e : x = n
  ·have : n ∈ l := e ▸ Qb hx
   simp only [hx,hlt,e,this,BL,simprocAttr]
  ·simp only [hx,hlt,e,h4,Qe,Qc,BL,simprocAttr]
   intro j y hj hy
   by_cases u6 : j < k
   ·exact hc j y u6 hy
   ·have : j = k := by omega
    subst this
    rw [hx] at hy; cases hy; exact e
 ·intro hc
  have hlt : ¬ ((l.length : Int) < l.length) := by omega
  have : n ∉ l := fun hm => by
   obtain ⟨j,hj⟩ := Qf hm
   exact hc j n (Qag hj) hj rfl
  simp only [hlt,this,BU2,simprocAttr]
def K6 := (K5.ext 15 (fnG eLI dLI (fun a => a.1.length ≤ 1000000) (fun a => decide (a.2 ∈ a.1)) .b)).ext 30 (fnG eW1 dW1 SmallW Qco .i)
def okK6 : GOk TP K6 := (okK5.ext call15 (Qa7 (e := eLI) (d := dLI) (ok := fun a => a.1.length ≤ 1000000) (g := fun a => decide (a.2 ∈ a.1)) (eb := .b) fun a h => W159 a.1 a.2 h)).ext call30 (Qa7 fun a h => W42 a h)
def h159 (l : List Int) (n : Int) : K6 15 [.sl 1 (l.map eI),.i n] = (l.length ≤ 1000000,.b (decide (n ∈ l))) := (ky K6 15 (Qb1 (l,n)) rfl (by decide) :)
def h42 (w : Work) : K6 30 [.ag (Qai w)] = (SmallW w,.i (Qco w)) := (kx K6 30 (Ql7 w) rfl :)
def Zfx (n lo hi : Int)  := lft K6 (h87 n lo hi) rfl
def Qbn (w : Work) (i : Int) : Spare := w.spares.getD i.toNat ⟨0,0,⟨0,0⟩⟩
def Qfu (w : Work) (m k : Int) : Slot := (Qav w m).getD k.toNat ⟨0,[],⟨0,0⟩⟩
def Qcn (w : Work) (i n m k : Int) : Bool := decide ((Qbn w i).kind = (Qfu w m k).kind) && decide ((Qbn w i).sect ∈ (Qfu w m k).secs) && Qa3 n (Qfu w m k).len.low ((Qfu w m k).len.high + w.cut)
structure OkW (w : Work) : Prop where
 nsp : w.spares.length ≤ 10
 nmk : w.makes.length ≤ 6
 cut : 0 ≤ w.cut ∧ w.cut ≤ 99
 ntb : w.table.length ≤ 30
 spare : ∀ s ∈ w.spares,okSpare s = true
 make : ∀ m ∈ w.makes,m.length ≤ 4 ∧ ∀ t ∈ m,okSlot t = true
 trial : ∀ t ∈ w.table,Qbl w t = true
def Qak {n a b : Int} : Qa3 n a b = true ↔ a ≤ n ∧ n ≤ b := by simp [Qa3]
def Qnn {w : Work} (h : Qdd w = true) : OkW w := by
 unfold Qdd at h
 simp only [Qi,decide_eq_true_eq,Qx,Qak] at h
 obtain ⟨⟨⟨⟨⟨⟨h1,h2⟩,h3⟩,h4⟩,h5⟩,h6⟩,h7⟩ := h
 refine ⟨by omega,by omega,h3,by omega,h5,fun m hm => ?_,h7⟩
 have := h6 m hm
 unfold okMake at this
 simp only [Qi,decide_eq_true_eq,Qx] at this
 exact ⟨by omega,this.2⟩
def Qpy {s : Span} : Qgf s = true ↔ 0 ≤ s.low ∧ s.low ≤ s.high ∧ s.high ≤ 999 := by
 simp [Qgf,Qa3,and_assoc]
def Qfe {s : Spare} (h : okSpare s = true) : 0 ≤ s.len.low ∧ s.len.low ≤ s.len.high ∧ s.len.high ≤ 999 := by
 unfold okSpare at h
 simp only [Qi] at h
 exact Qpy.1 h.2
def Qpz {t : Slot} (h : okSlot t = true) : t.secs.length ≤ 4 ∧ 0 ≤ t.len.low ∧ t.len.low ≤ t.len.high ∧ t.len.high ≤ 999 := by
 unfold okSlot at h
 simp only [Qi,decide_eq_true_eq] at h
 have := Qpy.1 h.2
 exact ⟨by omega,this⟩
def Qf2 {w : Work} {i : Int} (h : 0 ≤ i ∧ i < w.spares.length) : w.spares[i.toNat]? = some (Qbn w i) := by
 unfold Qbn
 rw [Qh,Qa (by omega)]; rfl
def Qt7 {w : Work} {m k : Int} (h : Qay w m k = true) : (0 ≤ m ∧ m < w.makes.length) ∧ w.makes[m.toNat]? = some (Qav w m) ∧ (0 ≤ k ∧ k < (Qav w m).length) ∧ (Qav w m)[k.toNat]? = some (Qfu w m k) := by
 unfold Qay at h
 rw [Qi] at h
 obtain ⟨h1,h2,h3⟩ := Qdo h.1
 have h4 := Qak.1 h.2
 refine ⟨⟨h1,h2⟩,h3,⟨h4.1,by omega⟩,?_⟩
 unfold Qfu
 rw [Qh,Qa (by omega)]; rfl
structure OkF (w : Work) (i m k : Int) : Prop where
 ok : OkW w
 sp : 0 ≤ i ∧ i < w.spares.length
 sl : Qay w m k = true
def W150 (w : Work) (i n m k : Int) (h : OkF w i m k) : Qa1 TP 128 [.ag (Qai w),.i i,.i n,.i m,.i k] (.b (Qcn w i n m k)) := by
 refine pc okK6 func128 Znc ?_
 obtain ⟨hw,k7,hsl⟩ := h
 have hs := Qf2 k7
 obtain ⟨yC,uT,kY,vV⟩ := Qt7 hsl
 have hS := hw.spare _ (Qb hs)
 have hT := Qpz ((hw.make _ (Qb uT)).2 _ (Qb vV))
 have hc := hw.cut
 have hl : (Qfu w m k).secs.length ≤ 1000000 := by omega
 have hi : inI ((Qfu w m k).len.high + w.cut) := by unfold inI; omega
 unfold Qcn
 generalize Qbn w i = s at *
 generalize Qfu w m k = t at *
 generalize Qav w m = mk at *
 by_cases e1 : s.kind = t.kind
 ·by_cases e2 : s.sect ∈ t.secs
  ·simp only [rc128,rs128,hs,k7,yC,uT,kY,vV,e1,h159,hl,e2,Zfx,hi,BL,simprocAttr]
  ·simp only [rc128,rs128,hs,k7,yC,uT,kY,vV,e1,h159,hl,e2,Zfx,hi,BL,simprocAttr]
 ·simp only [rc128,rs128,hs,k7,yC,uT,kY,vV,e1,BL,simprocAttr]
def eWF (a : Work × Int × Int × Int × Int) : List V := [.ag (Qai a.1),.i a.2.1,.i a.2.2.1,.i a.2.2.2.1,.i a.2.2.2.2]
def dWF : List V → Work × Int × Int × Int × Int | [.ag s,.i a,.i b,.i c,.i d] => (Qc0 s,a,b,c,d) | _ => (Qc0 [],0,0,0,0)
def Zhy (a : Work × Int × Int × Int × Int) : dWF (eWF a) = a := by obtain ⟨w,n,m,k,l⟩ := a; simp [dWF,eWF,Qc3]
def K7 := K6.ext 128 (fnG eWF dWF (fun a => OkF a.1 a.2.1 a.2.2.2.1 a.2.2.2.2) (fun a => Qcn a.1 a.2.1 a.2.2.1 a.2.2.2.1 a.2.2.2.2) .b)
def okK7 : GOk TP K7 := okK6.ext call128 (Qa7 fun a h => W150 a.1 a.2.1 a.2.2.1 a.2.2.2.1 a.2.2.2.2 h)
def h150 (w : Work) (i n m k : Int) : K7 128 [.ag (Qai w),.i i,.i n,.i m,.i k] = (OkF w i m k,.b (Qcn w i n m k)) := (kx K7 128 (Zhy (w,i,n,m,k)) rfl :)
def Zm8 (n lo hi : Int)  := lft K7 (h87 n lo hi) rfl
def soB (w : Work) (i n : Int) (t : Trial) : Bool := !(decide (t.spare = i)) || (Qcn w i n t.make t.slot == decide (t.fits = 1))
def canB (w : Work) (i n : Int) : Bool := w.table.all (soB w i n) && Qa3 n (Qbn w i).len.low (Qbn w i).len.high
structure OkI (w : Work) (i : Int) : Prop where
 ok : OkW w
 sp : 0 ≤ i ∧ i < w.spares.length
def OkI.fits {w : Work} {t : Trial} {i : Int} (h : OkI w i) (ht : t ∈ w.table) : OkF w i t.make t.slot := by
 have := h.ok.trial t ht
 unfold Qbl at this
 simp only [Qi] at this
 exact ⟨h.ok,h.sp,this.1.2⟩
def W131 (w : Work) (i n : Int) (h : OkI w i) : Qa1 TP 95 [.ag (Qai w),.i i,.i n] (.b (canB w i n)) := by
 refine pc okK7 func95 cf95 ?_
 have hs := Qf2 h.sp
 have k7 := h.sp
 have hT := h.ok.ntb
 simp only [rc95,rs95,BL,simprocAttr]
 refine Qao w.table.length (fun k => ⟨lkp [(1,.i i),(2,.i n),(3,.pa (Qai w)),(7,.i k)],[]⟩) (fun k => ∀ j x,j < k → w.table[j]? = some x → soB w i n x = true) ?_ ?_ ?_ ?_
 ·simp only [Qd,BL,simprocAttr]
 ·intro j x h; omega
 ·intro k hk hc
  obtain ⟨x,hx⟩ : ∃ x,w.table[k]? = some x := ⟨_,Qa hk⟩
  have hlt : (k : Int) < w.table.length := by omega
  have h4 : inI ((k : Int) + 1) := by unfold inI; omega
  have hF := h.fits (Qb hx)
  have jX : soB w i n x = false → canB w i n = false := fun e => by unfold canB; rw [Qen hx e]; rfl
  by_cases e1 : x.spare = i
  ·have g := h150 w i n x.make x.slot
   unfold Qai at g
   by_cases e2 : x.fits = 1
   ·cases e3 : Qcn w i n x.make x.slot with
    | false =>
     have q := jX (by simp [soB,e1,e2,e3])
     simp only [hx,hlt,e1,e2,g,hF,e3,q,Zf,BL,simprocAttr]
    | true =>
     simp only [hx,hlt,e1,e2,g,hF,e3,h4,Qe,Qc,BL,simprocAttr]
     exact Qbw hx (by simp [soB,e2,e3]) hc
   ·cases e3 : Qcn w i n x.make x.slot with
    | true =>
     have q := jX (by simp [soB,e1,e2,e3])
     simp only [hx,hlt,e1,e2,g,hF,e3,q,Zf,BL,simprocAttr]
    | false =>
     simp only [hx,hlt,e1,e2,g,hF,e3,h4,Qe,Qc,BL,simprocAttr]
     exact Qbw hx (by simp [soB,e2,e3]) hc
  ·simp only [hx,hlt,e1,h4,Qe,Qc,BL,simprocAttr]
   exact Qbw hx (by simp [soB,e1]) hc
 ·intro hc
  have hlt : ¬ ((w.table.length : Int) < w.table.length) := by omega
  simp only [hlt,hs,k7,Zm8,BL,simprocAttr]
  unfold canB
  rw [Qde hc,Qn]
def K8 := K7.ext 95 (fnG eWII dWII (fun a => OkI a.1 a.2.1) (fun a => canB a.1 a.2.1 a.2.2) .b)
def okK8 : GOk TP K8 := okK7.ext call95 (Qa7 fun a h => W131 a.1 a.2.1 a.2.2 h)
def h131 (w : Work) (i n : Int) : K8 95 [.ag (Qai w),.i i,.i n] = (OkI w i,.b (canB w i n)) := (kx K8 95 (Qv9 (w,i,n)) rfl :)
def Qjn (w : Work) (i : Int) (k : Nat) : List Int := ((Ze k).map fun (j : Nat) => (Qbn w i).len.low + (j : Int)).filter (canB w i)
def Qcx (w : Work) (i : Int) : List Int := Qjn w i ((Qbn w i).len.high + 1 - (Qbn w i).len.low).toNat
def Qpu (w : Work) (i : Int) (k : Nat) : Qjn w i (k + 1) = if canB w i ((Qbn w i).len.low + k) = true then Qjn w i k ++ [(Qbn w i).len.low + (k : Int)] else Qjn w i k := by
 unfold Qjn
 rw [List.range_succ,Qy,List.filter_append]
 by_cases h : canB w i ((Qbn w i).len.low + k) = true
 ·rw [if_pos h]; simp [h]
 ·rw [if_neg h]; simp [h]
def Qof (w : Work) (i : Int) (k : Nat) : (Qjn w i k).length ≤ k := by
 unfold Qjn
 refine Nat.le_trans (List.length_filter_le _ _) ?_
 simp
def W103 (w : Work) (i : Int) (h : OkI w i) : Qa1 TP 63 [.ag (Qai w),.i i] (.sl 1 ((Qcx w i).map eI)) := by
 refine pc okK8 func63 cf63 ?_
 have hs := Qf2 h.sp
 have k7 := h.sp
 have hS := Qfe (h.ok.spare _ (Qb hs))
 have hN : Qcx w i = Qjn w i ((Qbn w i).len.high + 1 - (Qbn w i).len.low).toNat := rfl
 have g := fun n => h131 w i n
 unfold Qai at g
 have jN := Qpu w i
 have kA := Qof w i
 have e0 : Qjn w i 0 = [] := rfl
 generalize Qcx w i = res at *
 generalize Qjn w i = L at *
 generalize Qbn w i = s at *
 simp only [rc63,rs63,hs,k7,BL,simprocAttr]
 refine Qaq (s.len.high + 1 - s.len.low).toNat (fun k => ⟨lkp [(1,.i i),(2,.pa (Qai w)),(5,.rf 0 (L k).length 0 (L k).length 1),(6,.i (s.len.low + (k : Int)))],[.cells (L k).length ((L k).map eI).flatten]⟩) ?_ ?_ ?_
 ·simp only [Qd,e0,Qg,Int.add_zero,BL,simprocAttr]
 ·intro k hk
  have hlt : s.len.low + (k : Int) ≤ s.len.high := by omega
  have h3 : inI (s.len.low + (k : Int) + 1) ∧ inI (s.len.low + ((k : Int) + 1)) := by unfold inI; omega
  have u7 := kA k
  have xM : Qam ((L k).length + 1) := by unfold Qam; omega
  have zH := jN k
  cases ha : canB w i (s.len.low + (k : Int)) with
  | false =>
   rw [ha] at zH
   simp only [Zb,if_false] at zH
   simp only [hs,k7,hlt,g,h,ha,zH,h3,Qe,Qc,Int.add_assoc,BL,simprocAttr]
  | true =>
   rw [ha] at zH
   simp only [if_true] at zH
   have cL : Qa8 (((L k).map eI).flatten ++ [V.i (s.len.low + (k : Int))]) = false := by rw [Qa2,Qaj]; rfl
   simp only [hs,k7,hlt,g,h,ha,zH,h3,Qaz,Qr,xM,Za,Qy,Qz,Qm,Qg,Qe,Qc,Int.add_assoc,BL,simprocAttr]
 ·have hlt : ¬ (s.len.low + (((s.len.high + 1 - s.len.low).toNat : Nat) : Int) ≤ s.len.high) := by omega
  simp only [hs,k7,hlt,← hN,Qaz,Qr,Qk,Qal,vw_I,BL,simprocAttr]
def W43 (n lo hi : Int) : Qa1 TP 31 [.i n,.i lo,.i hi] (.b (Qa3 n lo hi)) := by
 refine pc okK8 func31 cf31 ?_
 simp only [rc31,rs31,BU2,simprocAttr]
 by_cases h : lo ≤ n <;> simp [h,Qa3]
def K9 := (K8.ext 63 (fnG eWI dWI (fun a => OkI a.1 a.2) (fun a => Qcx a.1 a.2) fun l => .sl 1 (l.map eI))).ext 31 sWi
def okK9 : GOk TP K9 := (okK8.ext call63 (Qa7 (e := eWI) (d := dWI) (ok := fun a => OkI a.1 a.2) (g := fun a => Qcx a.1 a.2) (eb := fun l => .sl 1 (l.map eI)) fun a h => W103 a.1 a.2 h)).ext (f := 31) (r := sWi) (fun a w => call31 a w) (Qt5 W43)
def h103 (w : Work) (i : Int) : K9 63 [.ag (Qai w),.i i] = (OkI w i,.sl 1 ((Qcx w i).map eI)) := (ky K9 63 (Qva (w,i)) rfl (by decide) :)
def h43 (n lo hi : Int) : K9 31 [.i n,.i lo,.i hi] = (True,.b (Qa3 n lo hi)) := rfl
def Zma (w : Work)  := lft K9 (h42 w) rfl
def Qcu (w : Work) : Bool := (Ze w.spares.length).any fun i => (Qcx w (i : Int)).isEmpty
def Qb5 (w : Work) (is : Bool) : Int := if Qco w ≠ 0 then Qco w else if is = false then 1 else if Qcu w = true then 3 else 0
def Qjw {w : Work} (h : Qco w = 0) : Qdd w = true := by
 unfold Qco at h
 split at h
 ·assumption
 ·omega
def eWB (a : Work × Bool) : List V := [.ag (Qai a.1),.b a.2]
def dWB : List V → Work × Bool | [.ag s,.b n] => (Qc0 s,n) | _ => (Qc0 [],false)
def Zhv (a : Work × Bool) : dWB (eWB a) = a := by obtain ⟨w,n⟩ := a; simp [dWB,eWB,Qc3]
def W76 (w : Work) (is : Bool) (hw : SmallW w) : Qa1 TP 34 [.ag (Qai w),.b is] (.i (Qb5 w is)) := by
 refine pc okK9 func34 cf34 ?_
 have g := Zma w
 unfold Qai at g
 by_cases h0 : Qco w = 0
 rotate_left
 ·simp only [rc34,rs34,g,hw,h0,BL,simprocAttr]; simp [Qb5,h0]
 cases is with
 | false => simp only [rc34,rs34,g,hw,h0,BL,simprocAttr]; simp [Qb5,h0]
 | true =>
 have hO := Qnn (Qjw h0)
 have hn := hO.nsp
 have hE : Qb5 w true = if Qcu w = true then 3 else 0 := by simp [Qb5,h0]
 simp only [rc34,rs34,g,hw,h0,BL,simprocAttr]
 refine Qao w.spares.length (fun k => ⟨lkp [(2,.pa (Qai w)),(6,.i k)],[]⟩) (fun k => ∀ j : Nat,j < k → (Qcx w (j : Int)).isEmpty = false) ?_ ?_ ?_ ?_
 ·simp only [Qd,BL,simprocAttr]
 ·intro j h; omega
 ·intro k hk hc
  have hlt : (k : Int) < w.spares.length := by omega
  have h4 : inI ((k : Int) + 1) := by unfold inI; omega
  have hI : OkI w k := ⟨hO,by omega⟩
  have g2 := h103 w k
  unfold Qai at g2
  cases hl : (Qcx w (k : Int)) with
  | nil =>
   have hb : Qcu w = true := Qo.2 ⟨k,Q0.2 hk,by rw [hl]; rfl⟩
   rw [hb] at hE
   simp only [if_true] at hE
   rw [hl] at g2
   simp only [Q5] at g2
   simp only [hlt,g2,hI,hE,Qd,BL,simprocAttr]
  | cons a l =>
   rw [hl] at g2
   have j7 : ¬ ((((a :: l).map eI).length : Nat) : Int) = 0 := by simp; omega
   rw [List.length_map] at j7
   obtain ⟨q,hq⟩ : ∃ q,q = a :: l := ⟨_,rfl⟩
   rw [← hq] at g2 j7
   simp only [hlt,g2,hI,j7,h4,Qe,Qc,BL,simprocAttr]
   intro j hj
   by_cases u6 : j < k
   ·exact hc j u6
   ·have : j = k := by omega
    subst this
    rw [hl]; rfl
 ·intro hc
  have hlt : ¬ ((w.spares.length : Int) < w.spares.length) := by omega
  have hb : Qcu w = false := by
   unfold Qcu
   rw [Qw]
   intro i hi
   rw [hc i (Q0.1 hi)]; simp
  rw [hb] at hE
  simp only [Zb,if_false] at hE
  simp only [hlt,hE,BL,simprocAttr]
def K10 := K9.ext 34 (fnG eWB dWB (fun a => SmallW a.1) (fun a => Qb5 a.1 a.2) .i)
def Zer : GOk TP K10 := okK9.ext call34 (Qa7 fun a h => W76 a.1 a.2 h)
def h76 (w : Work) (is : Bool) : K10 34 [.ag (Qai w),.b is] = (SmallW w,.i (Qb5 w is)) := (kx K10 34 (Zhv (w,is)) rfl :)
def W55 (w : Work) (hw : SmallW w) : Qa1 TP 14 [.ag (Qai w)] (.i (Qb5 w true)) := by
 refine pc Zer func14 cf14 ?_
 have g := h76 w true
 unfold Qai at g
 simp only [rc14,rs14,g,hw,BL,simprocAttr]
def risB (l : List Int) (most : Int) : Bool := (l.all fun x => Qa3 x 0 most) && ascB l
def W69 (l : List Int) (m : Int) (hl : l.length ≤ 1000000) : Qa1 TP 62 [.sl 1 (l.map eI),.i m] (.b (risB l m)) := by
 refine pc Zer func62 cf62 ?_
 simp only [rc62,rs62,BU2,simprocAttr]
 refine Qao l.length (fun k => ⟨lkp [(0,.sl 1 (l.map eI)),(1,.i m),(5,.i k)],[]⟩) (fun k => (∀ j x,j < k → l[j]? = some x → Qa3 x 0 m = true) ∧ ∀ j x y,j + 1 < k → l[j]? = some x → l[j + 1]? = some y → x < y) ?_ ?_ ?_ ?_
 ·simp only [Qd,BU2,simprocAttr]
 ·exact ⟨fun j x h => by omega,fun j x y h => by omega⟩
 ·rintro k hk ⟨hc,hd⟩
  obtain ⟨x,hx⟩ : ∃ x,l[k]? = some x := ⟨_,Qa hk⟩
  have hlt : (k : Int) < l.length := by omega
  have h4 : inI ((k : Int) + 1) := by unfold inI; omega
  have jX : Qa3 x 0 m = false → risB l m = false := fun e => by unfold risB; rw [Qen hx e]; rfl
  by_cases e1 : x < 0
  ·have q := jX (by simp [Qa3]; omega)
   simp only [hx,hlt,e1,q,BL,simprocAttr]
  by_cases e2 : m < x
  ·have q := jX (by simp [Qa3]; omega)
   simp only [hx,hlt,e1,e2,q,BL,simprocAttr]
  have hin : Qa3 x 0 m = true := by simp [Qa3]; omega
  cases k with
  | zero =>
   have hz : (0 : Int) < l.length := by omega
   have h5 : inI 1 := by unfold inI; omega
   simp only [hx,hz,e1,e2,h5,Qc,Qd,BL,simprocAttr]
   exact ⟨Qbw hx hin hc,fun j x y h => by omega⟩
  | succ k =>
   obtain ⟨y,hy⟩ : ∃ y,l[k]? = some y := ⟨_,Qa (by omega)⟩
   have i1 : (0 : Int) < ((k + 1 : Nat) : Int) := by omega
   have i2 : ((k + 1 : Nat) : Int) - 1 = (k : Int) := by omega
   have i3 : inI (k : Int) ∧ (k : Int) < l.length := by unfold inI; omega
   have i4 : ((k + 1 : Nat) : Int) + 1 = ((k + 1 + 1 : Nat) : Int) := by omega
   rw [i4] at h4
   by_cases e3 : x ≤ y
   ·have q : risB l m = false := by
     cases h : risB l m with
     | false => rfl
     | true =>
      unfold risB at h
      rw [Qi] at h
      have := (Qdk l).1 h.2 k y x hy hx
      omega
    simp only [hx,hy,hlt,e1,e2,i1,i2,i3,e3,q,BL,simprocAttr]
   ·simp only [hx,hy,hlt,e1,e2,i1,i2,i3,e3,i4,h4,BL,simprocAttr]
    refine ⟨Qbw hx hin hc,fun j a b hj ha hb => ?_⟩
    by_cases u6 : j + 1 < k + 1
    ·exact hd j a b u6 ha hb
    ·have : j = k := by omega
     subst this
     rw [hy] at ha; rw [hx] at hb; cases ha; cases hb; omega
 ·rintro ⟨hc,hd⟩
  have hlt : ¬ ((l.length : Int) < l.length) := by omega
  have q : risB l m = true := by
   unfold risB
   rw [Qde hc,Qn]
   exact (Qdk l).2 fun j x y hx hy => hd j x y (Qag hy) hx hy
  simp only [hlt,q,BU2,simprocAttr]
def K11 := (K10.ext 62 (fnG eLI dLI (fun a => a.1.length ≤ 1000000) (fun a => risB a.1 a.2) .b)).ext 14 (fnG eW1 dW1 SmallW (fun w => Qb5 w true) .i)
def Zes : GOk TP K11 := (Zer.ext call62 (Qa7 (e := eLI) (d := dLI) (ok := fun a => a.1.length ≤ 1000000) (g := fun a => risB a.1 a.2) (eb := .b) fun a h => W69 a.1 a.2 h)).ext call14 (Qa7 fun a h => W55 a h)
def h69 (l : List Int) (m : Int) : K11 62 [.sl 1 (l.map eI),.i m] = (l.length ≤ 1000000,.b (risB l m)) := (ky K11 62 (Qb1 (l,m)) rfl (by decide) :)
def Qem (n lo hi : Int)  := lft K11 (h43 n lo hi) rfl
def Qc7 (s : Shop) (p : Piece) : Bool := Qa3 p.color 0 99 && Qa3 p.size 0 99 && Qa3 p.letter 0 99 && Qa3 p.make 0 (s.work.makes.length - 1) && risB p.broken ((Qav s.work p.make).length - 1)
def okWish (x : Wish) : Bool := Qa3 x.colors.length 1 8 && risB x.colors 99 && decide (0 ≤ x.size.low) && decide (x.size.low ≤ x.size.high) && decide (x.size.high ≤ 99) && Qa3 x.letter 0 99 && Qa3 x.due 0 99 && Qa3 x.price 0 100000
def Qge (s : Shop) (d : Del) : Bool := Qa3 d.day 0 99 && Qa3 d.spare 0 (s.work.spares.length - 1) && Qa3 d.many 1 10
def Qex (s : Shop) : Bool := decide (s.stock.length = s.work.spares.length) && decide ((s.pieces.length : Int) ≤ 8) && decide ((s.wishes.length : Int) ≤ 6) && decide ((s.dels.length : Int) ≤ 8) && Qa3 s.carve 0 99 && (s.stock.all fun n => Qa3 n 0 10) && s.pieces.all (Qc7 s) && s.wishes.all okWish && s.dels.all (Qge s)
def Qcl (s : Shop) : Int := if Qco s.work ≠ 0 then Qco s.work else if Qex s = true then 0 else 80
def eHP (a : Shop × Piece) : List V := [.ag (Qat a.1),.ag (ePiece a.2)]
def dHP : List V → Shop × Piece | [.ag s,.ag n] => (Qh0 s,Qep n) | _ => (Qh0 [],Qep [])
def Zp1 (a : Shop × Piece) : dHP (eHP a) = a := by obtain ⟨w,n⟩ := a; simp [dHP,eHP,Qhj,Qf7]
def eX1 (s : Wish) : List V := [.ag (eWish s)]
def dX1 : List V → Wish | [.ag s] => Qpa s | _ => Qpa []
def Zi3 (s : Wish) : dX1 (eX1 s) = s := by simp [dX1,eX1,Qo1]
def OkP (s : Shop) (p : Piece) : Prop := SmallW s.work ∧ p.broken.length ≤ 1000000
def W44 (s : Shop) (p : Piece) (h : OkP s p) : Qa1 TP 32 [.ag (Qat s),.ag (ePiece p)] (.b (Qc7 s p)) := by
 refine pc Zes func32 cf32 ?_
 obtain ⟨hw,hb⟩ := h
 have hm := hw.makes
 have i1 : inI ((s.work.makes.length : Int) - 1) := by unfold inI; omega
 unfold Qc7
 cases e1 : Qa3 p.color 0 99 with
 | false => simp only [rc32,rs32,Qem,e1,BL,simprocAttr]
 | true =>
 cases e2 : Qa3 p.size 0 99 with
 | false => simp only [rc32,rs32,Qem,e1,e2,BL,simprocAttr]
 | true =>
 cases e3 : Qa3 p.letter 0 99 with
 | false => simp only [rc32,rs32,Qem,e1,e2,e3,BL,simprocAttr]
 | true =>
 cases e4 : Qa3 p.make 0 (s.work.makes.length - 1) with
 | false => simp only [rc32,rs32,Qem,e1,e2,e3,e4,i1,BL,simprocAttr]
 | true =>
  obtain ⟨h1,h2,h3⟩ := Qdo e4
  have h4 := hw.slots _ (Qb h3)
  have i2 : inI (((Qav s.work p.make).length : Int) - 1) := by unfold inI; omega
  simp only [rc32,rs32,Qem,e1,e2,e3,e4,i1,h1,h2,h3,i2,h69,hb,BL,simprocAttr]
def W45 (x : Wish) (h : x.colors.length ≤ 1000000) : Qa1 TP 33 [.ag (eWish x)] (.b (okWish x)) := by
 refine pc Zes func33 cf33 ?_
 unfold okWish
 cases e1 : Qa3 x.colors.length 1 8 with
 | false => simp only [rc33,rs33,Qem,e1,BL,simprocAttr]
 | true =>
 cases e2 : risB x.colors 99 with
 | false => simp only [rc33,rs33,Qem,e1,h69,h,e2,BL,simprocAttr]
 | true =>
 by_cases e3 : 0 ≤ x.size.low
 rotate_left
 ·simp only [rc33,rs33,Qem,e1,h69,h,e2,e3,BL,simprocAttr]
 by_cases e4 : x.size.low ≤ x.size.high
 rotate_left
 ·simp only [rc33,rs33,Qem,e1,h69,h,e2,e3,e4,BL,simprocAttr]
 by_cases e5 : x.size.high ≤ 99
 rotate_left
 ·simp only [rc33,rs33,Qem,e1,h69,h,e2,e3,e4,e5,BL,simprocAttr]
 cases e6 : Qa3 x.letter 0 99 with
 | false => simp only [rc33,rs33,Qem,e1,h69,h,e2,e3,e4,e5,e6,BL,simprocAttr]
 | true =>
 cases e7 : Qa3 x.due 0 99 with
 | false => simp only [rc33,rs33,Qem,e1,h69,h,e2,e3,e4,e5,e6,e7,BL,simprocAttr]
 | true => simp only [rc33,rs33,Qem,e1,h69,h,e2,e3,e4,e5,e6,e7,BL,simprocAttr]
def K12 := (K11.ext 32 (fnG eHP dHP (fun a => OkP a.1 a.2) (fun a => Qc7 a.1 a.2) .b)).ext 33 (fnG eX1 dX1 (fun x => x.colors.length ≤ 1000000) okWish .b)
def Zj1 : GOk TP K12 := (Zes.ext call32 (Qa7 (e := eHP) (d := dHP) (ok := fun a => OkP a.1 a.2) (g := fun a => Qc7 a.1 a.2) (eb := .b) fun a h => W44 a.1 a.2 h)).ext call33 (Qa7 fun a h => W45 a h)
def h44 (s : Shop) (p : Piece) : K12 32 [.ag (Qat s),.ag (ePiece p)] = (OkP s p,.b (Qc7 s p)) := (ky K12 32 (Zp1 (s,p)) rfl (by decide) :)
def h45 (x : Wish) : K12 33 [.ag (eWish x)] = (x.colors.length ≤ 1000000,.b (okWish x)) := (kx K12 33 (Zi3 x) rfl :)
def Qk0 (n lo hi : Int)  := lft K12 (h43 n lo hi) rfl
def Zfs (w : Work)  := lft K12 (h42 w) rfl
structure SmallS (s : Shop) : Prop where
 work : SmallW s.work
 broken : ∀ p ∈ s.pieces,p.broken.length ≤ 1000000
 colors : ∀ x ∈ s.wishes,x.colors.length ≤ 1000000
def W19 (s : Shop) (hs : SmallS s) : Qa1 TP 13 [.ag (Qat s)] (.i (Qcl s)) := by
 refine pc Zj1 func13 cf13 ?_
 have g := Zfs s.work
 unfold Qai at g
 have hw := hs.work
 by_cases h0 : Qco s.work = 0
 rotate_left
 ·simp only [rc13,rs13,g,hw,h0,BL,simprocAttr]; simp [Qcl,h0]
 have hO := Qnn (Qjw h0)
 have hn := hO.nsp
 have hE : Qcl s = if Qex s = true then 0 else 80 := by simp [Qcl,h0]
 have hR : Qex s = (decide (s.stock.length = s.work.spares.length) && decide ((s.pieces.length : Int) ≤ 8) && decide ((s.wishes.length : Int) ≤ 6) && decide ((s.dels.length : Int) ≤ 8) && Qa3 s.carve 0 99 && (s.stock.all fun n => Qa3 n 0 10) && s.pieces.all (Qc7 s) && s.wishes.all okWish && s.dels.all (Qge s)) := rfl
 have no : Qex s = false → Qcl s = 80 := fun e => by rw [hE,e]; rfl
 have yes : Qex s = true → Qcl s = 0 := fun e => by rw [hE,e]; rfl
 generalize Qcl s = res at *
 generalize Qex s = ok at *
 by_cases a1 : s.stock.length = s.work.spares.length
 rotate_left
 ·have n1 : ¬ (s.stock.length : Int) = s.work.spares.length := by omega
  have q := no (by rw [hR]; simp [a1])
  simp only [rc13,rs13,g,hw,h0,n1,q,BL,simprocAttr]
 have b1 : (s.stock.length : Int) = s.work.spares.length := by omega
 by_cases a2 : (8 : Int) < s.pieces.length
 ·have n2 : ¬ (s.pieces.length : Int) ≤ 8 := by omega
  have q := no (by rw [hR]; simp [n2])
  simp only [rc13,rs13,g,hw,h0,b1,a2,q,BL,simprocAttr]
 have b2 : (s.pieces.length : Int) ≤ 8 := by omega
 by_cases a3 : (6 : Int) < s.wishes.length
 ·have n3 : ¬ (s.wishes.length : Int) ≤ 6 := by omega
  have q := no (by rw [hR]; simp [n3])
  simp only [rc13,rs13,g,hw,h0,b1,a2,a3,q,BL,simprocAttr]
 have b3 : (s.wishes.length : Int) ≤ 6 := by omega
 by_cases a4 : (8 : Int) < s.dels.length
 ·have n4 : ¬ (s.dels.length : Int) ≤ 8 := by omega
  have q := no (by rw [hR]; simp [n4])
  simp only [rc13,rs13,g,hw,h0,b1,a2,a3,a4,q,BL,simprocAttr]
 have b4 : (s.dels.length : Int) ≤ 8 := by omega
 cases a5 : Qa3 s.carve 0 99 with
 | false =>
  have q := no (by rw [hR]; simp [a5])
  simp only [rc13,rs13,g,hw,h0,b1,a2,a3,a4,Qk0,a5,q,BL,simprocAttr]
 | true =>
 simp only [a1,b2,b3,b4,a5,decide_true,Qn] at hR
 simp only [rc13,rs13,g,hw,h0,b1,a2,a3,a4,Qk0,a5,BL,simprocAttr]
 refine Qao s.stock.length (fun i => ⟨lkp [(1,.pa (Qat s)),(4,.i i)],[]⟩) (fun i => ∀ j x,j < i → s.stock[j]? = some x → Qa3 x 0 10 = true) ?_ ?_ ?_ ?_
 ·simp only [Qd,BL,simprocAttr]
 ·intro j x h; omega
 ·intro i hi hc
  obtain ⟨x,hx⟩ : ∃ x,s.stock[i]? = some x := ⟨_,Qa hi⟩
  have hlt : (i : Int) < s.stock.length := by omega
  rw [b1] at hlt
  have h4 : inI ((i : Int) + 1) := by unfold inI; omega
  cases e : Qa3 x 0 10 with
  | false =>
   have q := no (by rw [hR,Qen (p := fun n => Qa3 n 0 10) hx e]; rfl)
   simp only [hx,b1,hlt,Qk0,e,q,BL,simprocAttr]
  | true =>
   simp only [hx,b1,hlt,Qk0,e,h4,Qe,Qc,BL,simprocAttr]
   exact Qbw (p := fun n => Qa3 n 0 10) hx e hc
 intro hc
 have hlt : ¬ ((s.stock.length : Int) < s.stock.length) := by omega
 rw [Qde (p := fun n => Qa3 n 0 10) hc,Qn] at hR
 simp only [hlt,BL,simprocAttr]
 refine Qao s.pieces.length (fun i => ⟨lkp [(1,.pa (Qat s)),(5,.i i)],[]⟩) (fun i => ∀ j x,j < i → s.pieces[j]? = some x → Qc7 s x = true) ?_ ?_ ?_ ?_
 ·simp only [Qd,BL,simprocAttr]
 ·intro j x h; omega
 ·intro i hi hc
  obtain ⟨x,hx⟩ : ∃ x,s.pieces[i]? = some x := ⟨_,Qa hi⟩
  have hlt : (i : Int) < s.pieces.length := by omega
  have h4 : inI ((i : Int) + 1) := by unfold inI; omega
  have g1 := h44 s x
  simp only [Qat,ePiece] at g1
  have hP : OkP s x := ⟨hw,hs.broken x (Qb hx)⟩
  cases e : Qc7 s x with
  | false =>
   have q := no (by rw [hR,Qen hx e]; rfl)
   simp only [hx,hlt,g1,hP,e,q,BL,simprocAttr]
  | true =>
   simp only [hx,hlt,g1,hP,e,h4,Qe,Qc,BL,simprocAttr]
   exact Qbw hx e hc
 intro vO
 have xI : ¬ ((s.pieces.length : Int) < s.pieces.length) := by omega
 rw [Qde vO,Qn] at hR
 simp only [xI,BL,simprocAttr]
 refine Qao s.wishes.length (fun i => ⟨lkp [(1,.pa (Qat s)),(6,.i i)],[]⟩) (fun i => ∀ j x,j < i → s.wishes[j]? = some x → okWish x = true) ?_ ?_ ?_ ?_
 ·simp only [Qd,BL,simprocAttr]
 ·intro j x h; omega
 ·intro i hi hc
  obtain ⟨x,hx⟩ : ∃ x,s.wishes[i]? = some x := ⟨_,Qa hi⟩
  have hlt : (i : Int) < s.wishes.length := by omega
  have h4 : inI ((i : Int) + 1) := by unfold inI; omega
  have g1 := h45 x
  unfold eWish at g1
  have hP := hs.colors x (Qb hx)
  cases e : okWish x with
  | false =>
   have q := no (by rw [hR,Qen hx e]; rfl)
   simp only [hx,hlt,g1,hP,e,q,BL,simprocAttr]
  | true =>
   simp only [hx,hlt,g1,hP,e,h4,Qe,Qc,BL,simprocAttr]
   exact Qbw hx e hc
 intro uZ
 have bW : ¬ ((s.wishes.length : Int) < s.wishes.length) := by omega
 rw [Qde uZ,Qn] at hR
 simp only [bW,BL,simprocAttr]
 refine Qao s.dels.length (fun i => ⟨lkp [(1,.pa (Qat s)),(7,.i i)],[]⟩) (fun i => ∀ j x,j < i → s.dels[j]? = some x → Qge s x = true) ?_ ?_ ?_ ?_
 ·simp only [Qd,BL,simprocAttr]
 ·intro j x h; omega
 ·intro i hi hc
  obtain ⟨x,hx⟩ : ∃ x,s.dels[i]? = some x := ⟨_,Qa hi⟩
  have hlt : (i : Int) < s.dels.length := by omega
  have h4 : inI ((i : Int) + 1) := by unfold inI; omega
  have i1 : inI ((s.work.spares.length : Int) - 1) := by unfold inI; omega
  have jX : Qge s x = false → res = 80 := fun e => no (by rw [hR,Qen hx e])
  unfold Qge at jX
  cases s1 : Qa3 x.day 0 99 with
  | false =>
   have q := jX (by rw [s1]; rfl)
   simp only [hx,hlt,Qk0,s1,q,BL,simprocAttr]
  | true =>
  cases s2 : Qa3 x.spare 0 (s.work.spares.length - 1) with
  | false =>
   have q := jX (by rw [s1,s2]; rfl)
   simp only [hx,hlt,Qk0,s1,s2,i1,q,BL,simprocAttr]
  | true =>
  cases s3 : Qa3 x.many 1 10 with
  | false =>
   have q := jX (by rw [s1,s2,s3]; rfl)
   simp only [hx,hlt,Qk0,s1,s2,s3,i1,q,BL,simprocAttr]
  | true =>
   simp only [hx,hlt,Qk0,s1,s2,s3,i1,h4,Qe,Qc,BL,simprocAttr]
   exact Qbw hx (by unfold Qge; rw [s1,s2,s3]; rfl) hc
 intro wB
 have lX : ¬ ((s.dels.length : Int) < s.dels.length) := by omega
 rw [Qde wB] at hR
 have q := yes hR
 simp only [lX,q,BL,simprocAttr]
def K13 := K12.ext 13 (fnG eH1 dH1 SmallS Qcl .i)
def Zpw : GOk TP K13 := Zj1.ext call13 (Qa7 fun a h => W19 a h)
def h19 (s : Shop) : K13 13 [.ag (Qat s)] = (SmallS s,.i (Qcl s)) := (kx K13 13 (Qqr s) rfl :)
def Qd7 (s : Shop) (is : Bool) : Int := if Qcl s ≠ 0 then Qcl s else if is = false then 1 else Qb5 s.work true
def eHB (a : Shop × Bool) : List V := [.ag (Qat a.1),.b a.2]
def dHB : List V → Shop × Bool | [.ag s,.b n] => (Qh0 s,n) | _ => (Qh0 [],false)
def Zhn (a : Shop × Bool) : dHB (eHB a) = a := by obtain ⟨w,n⟩ := a; simp [dHB,eHB,Qhj]
def K14 := K13
def Zpx : GOk TP K14 := Zpw
def K15 := K14
def Zj5 : GOk TP K15 := Zpx
def Zft (w : Work)  := lft K15 (h42 w) rfl
def Qbd {α : Type} {l : List α} {p : α → Bool} {i : Nat} {x : α} (hx : l[i]? = some x) (e : p x = false) (hc : ∀ j y,j < i → l[j]? = some y → p y = false) : ∀ j y,j < i + 1 → l[j]? = some y → p y = false := by
 intro j y hj hy
 by_cases xE : j < i
 ·exact hc j y xE hy
 ·have : j = i := by omega
  subst this
  rw [hx] at hy; cases hy; exact e
def Qn1 {α : Type} {l : List α} {p : α → Bool} {i : Nat} {x : α} (hx : l[i]? = some x) (e : p x = true) : l.any p = true := Qo.2 ⟨x,Qb hx,e⟩
def Qkz {α : Type} {l : List α} {p : α → Bool} (hc : ∀ j y,j < l.length → l[j]? = some y → p y = false) : l.any p = false := by
 rw [Qw]
 intro x hx
 obtain ⟨j,hj⟩ := Qf hx
 rw [hc j x (Qag hj) hj]; simp
def Qnw {α : Type} {l : List α} {p : α → Bool} (h : l.any p = false) {x : α} (hx : x ∈ l) : p x = false := by
 have := Qw.1 h x hx
 simpa using this
def bigT (t : Slot) : Bool := decide ((20 : Int) < t.secs.length)
def bigM (m : List Slot) : Bool := decide ((20 : Int) < m.length) || m.any bigT
def bigW (w : Work) : Bool := decide ((40 : Int) < w.spares.length) || decide ((40 : Int) < w.makes.length) || decide ((60 : Int) < w.table.length) || w.makes.any bigM
def Qt8 {w : Work} (h : bigW w = false) : SmallW w := by
 unfold bigW at h
 simp only [Qj,decide_eq_false_iff_not] at h
 obtain ⟨⟨⟨h1,h2⟩,h3⟩,h4⟩ := h
 have hm : ∀ m ∈ w.makes,m.length ≤ 20 ∧ ∀ t ∈ m,t.secs.length ≤ 20 := fun m hm => by
  have := Qnw h4 hm
  unfold bigM at this
  simp only [Qj,decide_eq_false_iff_not] at this
  refine ⟨by omega,fun t ht => ?_⟩
  have := Qnw this.2 ht
  unfold bigT at this
  simp only [decide_eq_false_iff_not] at this
  omega
 exact ⟨by omega,by omega,fun m h => by have := (hm m h).1; omega,fun m h t ht => by have := (hm m h).2 t ht; omega,by omega⟩
def Qxn (s : Spare) : Bool := decide ((50 : Int) ≤ s.len.high - s.len.low)
def Zee (w : Work) : Bool := w.spares.any Qxn || (decide ((6 : Int) < w.spares.length) || decide ((4 : Int) < w.makes.length) || decide ((10 : Int) < w.table.length))
def farW (w : Work) : Bool := bigW w || (decide (Qco w = 0) && Zee w)
def W18 (w : Work) : Qa1 TP 29 [.ag (Qai w)] (.b (farW w)) := by
 refine pc Zj5 func29 cf29 ?_
 have yes : bigW w = true → farW w = true := fun e => by unfold farW; rw [e]; rfl
 have hB : bigW w = (decide ((40 : Int) < w.spares.length) || decide ((40 : Int) < w.makes.length) || decide ((60 : Int) < w.table.length) || w.makes.any bigM) := rfl
 by_cases a1 : (40 : Int) < w.spares.length
 ·have q := yes (by rw [hB]; simp [a1])
  simp only [rc29,rs29,a1,q,BL,simprocAttr]
 by_cases a2 : (40 : Int) < w.makes.length
 ·have q := yes (by rw [hB]; simp [a2])
  simp only [rc29,rs29,a1,a2,q,BL,simprocAttr]
 by_cases a3 : (60 : Int) < w.table.length
 ·have q := yes (by rw [hB]; simp [a3])
  simp only [rc29,rs29,a1,a2,a3,q,BL,simprocAttr]
 simp only [a1,a2,a3,decide_false,Qv] at hB
 simp only [rc29,rs29,a1,a2,a3,BL,simprocAttr]
 refine Qao w.makes.length (fun i => ⟨lkp [(1,.pa (Qai w)),(3,.i i)],[]⟩) (fun i => ∀ j x,j < i → w.makes[j]? = some x → bigM x = false) ?_ ?_ ?_ ?_
 ·simp only [Qd,BL,simprocAttr]
 ·intro j x h; omega
 ·intro i hi hc
  obtain ⟨m,hm⟩ : ∃ m,w.makes[i]? = some m := ⟨_,Qa hi⟩
  have hlt : (i : Int) < w.makes.length := by omega
  have h4 : inI ((i : Int) + 1) := by unfold inI; omega
  by_cases c1 : (20 : Int) < m.length
  ·have q := yes (by rw [hB]; exact Qn1 hm (by simp [bigM,c1]))
   simp only [hm,hlt,c1,q,BL,simprocAttr]
  simp only [hm,hlt,c1,BL,simprocAttr]
  refine Qao m.length (fun k => ⟨lkp [(1,.pa (Qai w)),(3,.i i),(4,.i k)],[]⟩) (fun k => ∀ j x,j < k → m[j]? = some x → bigT x = false) ?_ ?_ ?_ ?_
  ·simp only [Qd,BL,simprocAttr]
  ·intro j x h; omega
  ·intro k hk vV
   obtain ⟨t,ht⟩ : ∃ t,m[k]? = some t := ⟨_,Qa hk⟩
   have vG : (k : Int) < m.length := by omega
   have h5 : inI ((k : Int) + 1) := by unfold inI; omega
   by_cases d1 : (20 : Int) < t.secs.length
   ·have hb : m.any bigT = true := Qn1 ht (by simp [bigT,d1])
    have q := yes (by rw [hB]; exact Qn1 hm (by simp [bigM,hb]))
    simp only [hm,hlt,ht,vG,d1,q,BL,simprocAttr]
   ·simp only [hm,hlt,ht,vG,d1,h5,Qe,Qc,BL,simprocAttr]
    exact Qbd ht (by simp [bigT,d1]) vV
  ·intro vV
   have vG : ¬ ((m.length : Int) < m.length) := by omega
   simp only [hm,hlt,vG,h4,Qe,Qc,BL,simprocAttr]
   exact Qbd hm (by unfold bigM; rw [Qkz vV]; simp [c1]) hc
 intro hc
 have hlt : ¬ ((w.makes.length : Int) < w.makes.length) := by omega
 rw [Qkz hc] at hB
 have hw := Qt8 hB
 have g := Zft w
 unfold Qai at g
 have hF : farW w = (decide (Qco w = 0) && Zee w) := by unfold farW; rw [hB]; rfl
 by_cases h0 : Qco w = 0
 rotate_left
 ·have q : farW w = false := by rw [hF]; simp [h0]
  simp only [hlt,g,hw,h0,q,BL,simprocAttr]
 have hO := Qnn (Qjw h0)
 have hF2 : farW w = (w.spares.any Qxn || (decide ((6 : Int) < w.spares.length) || decide ((4 : Int) < w.makes.length) || decide ((10 : Int) < w.table.length))) := by rw [hF,h0]; simp [Zee]
 simp only [hlt,g,hw,h0,BL,simprocAttr]
 refine Qao w.spares.length (fun i => ⟨lkp [(1,.pa (Qai w)),(5,.i i)],[]⟩) (fun i => ∀ j x,j < i → w.spares[j]? = some x → Qxn x = false) ?_ ?_ ?_ ?_
 ·simp only [Qd,BL,simprocAttr]
 ·intro j x h; omega
 ·intro i hi vO
  obtain ⟨x,hx⟩ : ∃ x,w.spares[i]? = some x := ⟨_,Qa hi⟩
  have hlt : (i : Int) < w.spares.length := by omega
  have hS := Qfe (hO.spare _ (Qb hx))
  have h4 : inI ((i : Int) + 1) ∧ inI (x.len.high - x.len.low) := by unfold inI; omega
  by_cases d1 : (50 : Int) ≤ x.len.high - x.len.low
  ·have q : farW w = true := by rw [hF2,Qn1 hx (by simp [Qxn,d1])]; rfl
   simp only [hx,hlt,h4,d1,q,BL,simprocAttr]
  ·simp only [hx,hlt,h4,d1,Qe,Qc,BL,simprocAttr]
   exact Qbd hx (by simp [Qxn,d1]) vO
 ·intro vO
  have hlt : ¬ ((w.spares.length : Int) < w.spares.length) := by omega
  rw [Qkz vO,Qv] at hF2
  by_cases d1 : (6 : Int) < w.spares.length
  ·simp [d1] at hF2
   simp only [hlt,d1,hF2,BL,simprocAttr]
  by_cases d2 : (4 : Int) < w.makes.length
  ·simp [d1,d2] at hF2
   simp only [hlt,d1,d2,hF2,BL,simprocAttr]
  simp only [d1,d2,decide_false,Qv] at hF2
  simp only [hlt,d1,d2,hF2,BL,simprocAttr]
def K16 := K15.ext 29 (fnG eW1 dW1 (fun _ => True) farW .b)
def Qwq : GOk TP K16 := Zj5.ext call29 (Qa7 fun a _ => W18 a)
def h18 (w : Work) : K16 29 [.ag (Qai w)] = (True,.b (farW w)) := (kx K16 29 (Ql7 w) rfl :)
def Zfu (s : Shop)  := lft K16 (h19 s) rfl
def bigP (p : Piece) : Bool := decide ((40 : Int) < p.broken.length)
def bigX (x : Wish) : Bool := decide ((40 : Int) < x.colors.length)
def bigS (s : Shop) : Bool := farW s.work || decide ((40 : Int) < s.stock.length) || decide ((40 : Int) < s.pieces.length) || decide ((40 : Int) < s.wishes.length) || decide ((40 : Int) < s.dels.length) || (s.pieces.any bigP || s.wishes.any bigX)
def Qcv (l : List Piece) : Int := (l.map fun p => (p.broken.length : Int)).sum
def Zed (s : Shop) : Bool := decide ((3 : Int) < s.wishes.length) || decide ((4 : Int) < s.pieces.length) || decide ((3 : Int) < s.dels.length) || decide (4 < Qcv s.pieces)
def farS (s : Shop) : Bool := bigS s || (decide (Qcl s = 0) && Zed s)
def Qit {s : Shop} (h : bigS s = false) : SmallS s ∧ s.stock.length ≤ 40 ∧ s.pieces.length ≤ 40 ∧ s.wishes.length ≤ 40 ∧ s.dels.length ≤ 40 ∧ (∀ p ∈ s.pieces,p.broken.length ≤ 40) ∧ ∀ x ∈ s.wishes,x.colors.length ≤ 40 := by
 unfold bigS at h
 simp only [Qj,decide_eq_false_iff_not] at h
 obtain ⟨⟨⟨⟨⟨h1,h2⟩,h3⟩,h4⟩,h5⟩,h6,h7⟩ := h
 have hw : bigW s.work = false := by
  unfold farW at h1
  rw [Qj] at h1
  exact h1.1
 have hb : ∀ p ∈ s.pieces,p.broken.length ≤ 40 := fun p hp => by
  have := Qnw h6 hp
  unfold bigP at this
  simp only [decide_eq_false_iff_not] at this
  omega
 have hx : ∀ x ∈ s.wishes,x.colors.length ≤ 40 := fun p hp => by
  have := Qnw h7 hp
  unfold bigX at this
  simp only [decide_eq_false_iff_not] at this
  omega
 exact ⟨⟨Qt8 hw,fun p hp => by have := hb p hp; omega,fun p hp => by have := hx p hp; omega⟩,by omega,by omega,by omega,by omega,hb,hx⟩
def Qqq {l : List Piece} {i : Nat} {x : Piece} (h : l[i]? = some x) : Qcv (l.take (i + 1)) = Qcv (l.take i) + x.broken.length := by
 rw [Qa4 h]; simp [Qcv]
def Qux {l : List Piece} (h : ∀ p ∈ l,p.broken.length ≤ 40) : 0 ≤ Qcv l ∧ Qcv l ≤ 40 * l.length := by
 induction l with
 | nil => simp [Qcv]
 | cons a l ih =>
  have := ih fun p hp => h p (by simp [hp])
  have h2 := h a (by simp)
  have e : Qcv (a :: l) = a.broken.length + Qcv l := by simp [Qcv]
  rw [e]; simp only [Q2]; omega
def W4 (s : Shop) : Qa1 TP 12 [.ag (Qat s)] (.b (farS s)) := by
 refine pc Qwq func12 cf12 ?_
 have g1 := h18 s.work
 simp only [Qai] at g1
 have yes : bigS s = true → farS s = true := fun e => by unfold farS; rw [e]; rfl
 have hB : bigS s = (farW s.work || decide ((40 : Int) < s.stock.length) || decide ((40 : Int) < s.pieces.length) || decide ((40 : Int) < s.wishes.length) || decide ((40 : Int) < s.dels.length) || (s.pieces.any bigP || s.wishes.any bigX)) := rfl
 cases a0 : farW s.work with
 | true =>
  have q := yes (by rw [hB]; simp [a0])
  simp only [rc12,rs12,g1,a0,q,BL,simprocAttr]
 | false =>
 by_cases a1 : (40 : Int) < s.stock.length
 ·have q := yes (by rw [hB]; simp [a1])
  simp only [rc12,rs12,g1,a0,a1,q,BL,simprocAttr]
 by_cases a2 : (40 : Int) < s.pieces.length
 ·have q := yes (by rw [hB]; simp [a2])
  simp only [rc12,rs12,g1,a0,a1,a2,q,BL,simprocAttr]
 by_cases a3 : (40 : Int) < s.wishes.length
 ·have q := yes (by rw [hB]; simp [a3])
  simp only [rc12,rs12,g1,a0,a1,a2,a3,q,BL,simprocAttr]
 by_cases a4 : (40 : Int) < s.dels.length
 ·have q := yes (by rw [hB]; simp [a4])
  simp only [rc12,rs12,g1,a0,a1,a2,a3,a4,q,BL,simprocAttr]
 simp only [a0,a1,a2,a3,a4,decide_false,Qv] at hB
 simp only [rc12,rs12,g1,a0,a1,a2,a3,a4,BL,simprocAttr]
 refine Qao s.pieces.length (fun i => ⟨lkp [(1,.pa (Qat s)),(3,.i i)],[]⟩) (fun i => ∀ j x,j < i → s.pieces[j]? = some x → bigP x = false) ?_ ?_ ?_ ?_
 ·simp only [Qd,BL,simprocAttr]
 ·intro j x h; omega
 ·intro i hi hc
  obtain ⟨x,hx⟩ : ∃ x,s.pieces[i]? = some x := ⟨_,Qa hi⟩
  have hlt : (i : Int) < s.pieces.length := by omega
  have h4 : inI ((i : Int) + 1) := by unfold inI; omega
  by_cases d1 : (40 : Int) < x.broken.length
  ·have q := yes (by rw [hB,Qn1 hx (by simp [bigP,d1])]; rfl)
   simp only [hx,hlt,d1,q,BL,simprocAttr]
  ·simp only [hx,hlt,d1,h4,Qe,Qc,BL,simprocAttr]
   exact Qbd hx (by simp [bigP,d1]) hc
 intro hc
 have hlt : ¬ ((s.pieces.length : Int) < s.pieces.length) := by omega
 rw [Qkz hc,Qv] at hB
 simp only [hlt,BL,simprocAttr]
 refine Qao s.wishes.length (fun i => ⟨lkp [(1,.pa (Qat s)),(4,.i i)],[]⟩) (fun i => ∀ j x,j < i → s.wishes[j]? = some x → bigX x = false) ?_ ?_ ?_ ?_
 ·simp only [Qd,BL,simprocAttr]
 ·intro j x h; omega
 ·intro i hi hc
  obtain ⟨x,hx⟩ : ∃ x,s.wishes[i]? = some x := ⟨_,Qa hi⟩
  have hlt : (i : Int) < s.wishes.length := by omega
  have h4 : inI ((i : Int) + 1) := by unfold inI; omega
  by_cases d1 : (40 : Int) < x.colors.length
  ·have q := yes (by rw [hB,Qn1 hx (by simp [bigX,d1])])
   simp only [hx,hlt,d1,q,BL,simprocAttr]
  ·simp only [hx,hlt,d1,h4,Qe,Qc,BL,simprocAttr]
   exact Qbd hx (by simp [bigX,d1]) hc
 intro vO
 have xI : ¬ ((s.wishes.length : Int) < s.wishes.length) := by omega
 rw [Qkz vO] at hB
 obtain ⟨hs,_,xL,_,_,lP,_⟩ := Qit hB
 have g2 := Zfu s
 simp only [Qat] at g2
 have hF : farS s = (decide (Qcl s = 0) && Zed s) := by unfold farS; rw [hB]; rfl
 by_cases h0 : Qcl s = 0
 rotate_left
 ·have q : farS s = false := by rw [hF]; simp [h0]
  simp only [xI,g2,hs,h0,q,BL,simprocAttr]
 have hF2 : farS s = (decide ((3 : Int) < s.wishes.length) || decide ((4 : Int) < s.pieces.length) || decide ((3 : Int) < s.dels.length) || decide (4 < Qcv s.pieces)) := by rw [hF,h0]; simp [Zed]
 simp only [xI,g2,hs,h0,BL,simprocAttr]
 refine Qaq s.pieces.length (fun i => ⟨lkp [(1,.pa (Qat s)),(5,.i (Qcv (s.pieces.take i))),(6,.i i)],[]⟩) ?_ ?_ ?_
 ·have e0 : Qcv [] = 0 := rfl
  simp only [Qd,e0,BL,simprocAttr]
 ·intro i hi
  obtain ⟨x,hx⟩ : ∃ x,s.pieces[i]? = some x := ⟨_,Qa hi⟩
  have hlt : (i : Int) < s.pieces.length := by omega
  have jN := Qqq hx
  have hb := Qux (l := s.pieces.take (i + 1)) fun p hp => lP p (List.mem_of_mem_take hp)
  rw [Qq] at hb
  rw [jN] at hb
  have h4 : inI ((i : Int) + 1) ∧ inI (Qcv (s.pieces.take i) + x.broken.length) := by unfold inI; omega
  generalize Qcv (s.pieces.take i) = B at *
  simp only [hx,hlt,h4,jN,Qe,Qc,BL,simprocAttr]
 ·have hlt : ¬ ((s.pieces.length : Int) < s.pieces.length) := by omega
  rw [Q3]
  by_cases d1 : (3 : Int) < s.wishes.length
  ·simp [d1] at hF2
   simp only [hlt,d1,hF2,BL,simprocAttr]
  by_cases d2 : (4 : Int) < s.pieces.length
  ·simp [d1,d2] at hF2
   simp only [hlt,d1,d2,hF2,BL,simprocAttr]
  by_cases d3 : (3 : Int) < s.dels.length
  ·simp [d1,d2,d3] at hF2
   simp only [hlt,d1,d2,d3,hF2,BL,simprocAttr]
  simp only [d1,d2,d3,decide_false,Qv] at hF2
  simp only [hlt,d1,d2,d3,hF2,BL,simprocAttr]
def Zan (l : List Spare) : ((l.map eSpare).flatten).length = l.length * 4 := Qaf (e := eSpare) (k := 4) (fun _ => rfl) l
def Zao (l : List Trial) : ((l.map eTrial).flatten).length = l.length * 4 := Qaf (e := eTrial) (k := 4) (fun _ => rfl) l
def Qsm (l : List Slot) : ((l.map eSlot).flatten).length = l.length * 4 := Qaf (e := eSlot) (k := 4) (fun _ => rfl) l
def Qsk (l : List (List Slot)) : ((l.map eMake).flatten).length = l.length * 1 := Qaf (e := eMake) (k := 1) (fun _ => rfl) l
def Qe9 (l : List Spare) : Qa8 ((l.map eSpare).flatten) = false := Qa5 (e := eSpare) (fun _ => rfl) l
def Qea (l : List Trial) : Qa8 ((l.map eTrial).flatten) = false := Qa5 (e := eTrial) (fun _ => rfl) l
def Qgu (l : List Slot) : Qa8 ((l.map eSlot).flatten) = false := Qa5 (e := eSlot) (fun _ => rfl) l
def Qgt (l : List (List Slot)) : Qa8 ((l.map eMake).flatten) = false := Qa5 (e := eMake) (fun _ => rfl) l
def Qrx (l : List Spare) : Qbi 4 ((l.map eSpare).flatten) 0 l.length = l.map eSpare := Qa9 (e := eSpare) (k := 4) (fun _ => rfl) l
def Qrz (l : List Trial) : Qbi 4 ((l.map eTrial).flatten) 0 l.length = l.map eTrial := Qa9 (e := eTrial) (k := 4) (fun _ => rfl) l
def Qrw (l : List Slot) : Qbi 4 ((l.map eSlot).flatten) 0 l.length = l.map eSlot := Qa9 (e := eSlot) (k := 4) (fun _ => rfl) l
def Qru (l : List (List Slot)) : Qbi 1 ((l.map eMake).flatten) 0 l.length = l.map eMake := Qa9 (e := eMake) (k := 1) (fun _ => rfl) l
def Zfp (hp : List Blk) (n : Nat) (l : List Spare) : (l.map eSpare).map (fun r => r.map (vw hp (n + 1))) = l.map eSpare := Qa6 (e := eSpare) hp (n + 1) (fun _ => rfl) l
def Zfq (hp : List Blk) (n : Nat) (l : List Trial) : (l.map eTrial).map (fun r => r.map (vw hp (n + 1))) = l.map eTrial := Qa6 (e := eTrial) hp (n + 1) (fun _ => rfl) l
def Zlv (hp : List Blk) (n : Nat) (l : List Slot) : (l.map eSlot).map (fun r => r.map (vw hp (n + 1))) = l.map eSlot := Qa6 (e := eSlot) hp (n + 1) (fun _ => rfl) l
def Zfo (hp : List Blk) (n : Nat) (l : List (List Slot)) : (l.map eMake).map (fun r => r.map (vw hp (n + 1))) = l.map eMake := Qa6 (e := eMake) hp (n + 1) (fun _ => rfl) l
def Qkn {α : Type} {e : α → List V} {k o : Nat} (hk : ∀ x,(e x).length = k) (ho : o < k) : ∀ (l : List α) (i : Nat) (x : α),l[i]? = some x → ((l.map e).flatten)[i * k + o]? = (e x)[o]?
 | [],i,x,h => by cases h
 | a :: l,0,x,h => by
  cases h
  rw [Qp,Qm,List.getElem?_append_left (by rw [hk]; omega),Nat.zero_mul,Q4]
 | a :: l,i + 1,x,h => by
  have e2 : (i + 1) * k + o = k + (i * k + o) := by rw [Nat.add_mul]; omega
  rw [Qp,Qm,e2,List.getElem?_append_right (by rw [hk]; omega),hk,Nat.add_sub_cancel_left]
  exact Qkn hk ho l i x (by simpa using h)
def Qzm {α : Type} {l : List α} {k : Nat} {x : α} (h : l[k]? = some x) : l.take k ++ [x] ++ l.drop (k + 1) = l := by
 obtain ⟨hk,rfl⟩ := List.getElem?_eq_some_iff.1 h
 rw [List.append_assoc,List.singleton_append,← Q1 hk,Q7]
def Qi0 (hp : List Blk) (n : Nat) : ∀ (a b : List V),cutL hp n (a ++ b) = cutL hp n a ++ cutL hp n b
 | [],b => rfl
 | v :: a,b => by simp only [Zd,cutL,Qi0 hp n a b]
def Qnm {l : List V} (h : Qa8 l = false) (k : Nat) : Qa8 (l.take k) = false ∧ Qa8 (l.drop k) = false := by
 have := h
 rw [← Q7 k l,Qa2,Qj] at this
 exact this
def Qj7 {α : Type} {e : α → List V} {k o : Nat} (hk : ∀ x,(e x).length = k) (ho : o < k) (hr : ∀ x,Qa8 (e x) = false) {hp : List Blk} {n i : Nat} {l : List α} {x : α} {v v0 : V} (hx : l[i]? = some x) (h0 : (e x)[o]? = some v0) (hv : cutV hp n v = v0) :
  cutL hp n (((l.map e).flatten).take (i * k + o) ++ [v] ++ ((l.map e).flatten).drop (i * k + o + 1)) = (l.map e).flatten := by
 have hn := Qa5 hr l
 have h1 := Qnm hn (i * k + o)
 have h2 := Qnm hn (i * k + o + 1)
 rw [Qi0,Qi0,Qa0 _ _ _ h1.1,Qa0 _ _ _ h2.2]
 have e1 : cutL hp n [v] = [v0] := by simp only [cutL,hv]
 rw [e1]
 exact Qzm (by rw [Qkn hk ho l i x hx,h0])
def cut9 (a b c d e f g h i : Blk) (l : List Int) : cutV [a,b,c,d,e,f,g,h,i,.cells 1 (l.map eI).flatten,.hole] 9 (.rf 9 1 0 l.length 1) = .sl 1 (l.map eI) := by
 have h1 := Qal l
 simp only [Qaz,Qr,Qk,h1,vw_I,hpF,upB,Qae _ _ (Qaj _),BU2,simprocAttr]
def W31 (w : Work) (h : SmallW w) : Qa1 TP 11 [.ag (Qai w)] (.ag (Qai w)) := by
 refine pc Qwq func11 cf11 ?_
 have f1 : Qam w.spares.length ∧ Qam (0 + w.spares.length) := by have := h.spares; unfold Qam; omega
 have f2 : Qam w.table.length ∧ Qam (0 + w.table.length) := by have := h.table; unfold Qam; omega
 simp only [rc11,rs11,Qg,f1,f2,Qk,BL,simprocAttr]
 refine Qaq w.makes.length (fun i => ⟨lkp [(1,.pa (Qai w)),(2,.ad 0 0 0),(3,.ad 1 0 0),(4,.i i)],[.cells 0 [.z 4,.z 1,.i 0,.z 4],.cells 0 [.rf 2 1 0 w.spares.length 4,.rf 6 i 0 i 1,.i w.cut,.rf 4 1 0 w.table.length 4],.cells 1 (w.spares.map eSpare).flatten,.hole,.cells 1 (w.table.map eTrial).flatten,.hole,.cells i ((w.makes.take i).map eMake).flatten]⟩) ?_ ?_ ?_
 ·simp only [Qd,Qg,Qa0 _ _ _ (Qe9 _),Qa0 _ _ _ (Qea _),BL,simprocAttr]
 ·intro i hi
  obtain ⟨m,hm⟩ : ∃ m,w.makes[i]? = some m := ⟨_,Qa hi⟩
  have hlt : (i : Int) < w.makes.length := by omega
  have h4 : inI ((i : Int) + 1) := by have := h.makes; unfold inI; omega
  have xR := h.slots m (Qb hm)
  have f3 : Qam m.length ∧ Qam (0 + m.length) := by unfold Qam; omega
  simp only [hm,hlt,f3,Qg,BL,simprocAttr]
  refine Qaq m.length (fun k => ⟨lkp [(1,.pa (Qai w)),(2,.ad 0 0 0),(3,.ad 1 0 0),(4,.i i),(5,.ad 8 0 0),(6,.i k)],[.cells 0 [.z 4,.z 1,.i 0,.z 4],.cells 0 [.rf 2 1 0 w.spares.length 4,.rf 6 i 0 i 1,.i w.cut,.rf 4 1 0 w.table.length 4],.cells 1 (w.spares.map eSpare).flatten,.hole,.cells 1 (w.table.map eTrial).flatten,.hole,.cells i ((w.makes.take i).map eMake).flatten,.cells 1 (m.map eSlot).flatten,.cells 0 [.rf 7 1 0 m.length 4]]⟩) ?_ ?_ ?_
  ·simp only [Qd,Qa0 _ _ _ (Qe9 _),Qa0 _ _ _ (Qea _),Qa0 _ _ _ (Qgu _),Qa0 _ _ _ (Qgt _),BL,simprocAttr]
  ·intro k hk
   obtain ⟨t,ht⟩ : ∃ t,m[k]? = some t := ⟨_,Qa hk⟩
   have vG : (k : Int) < m.length := by omega
   have h5 : inI ((k : Int) + 1) := by unfold inI; omega
   have hs := h.secs m (Qb hm) t (Qb ht)
   have f4 : Qam t.secs.length ∧ Qam (0 + t.secs.length) := by unfold Qam; omega
   have uU : k * 4 + 1 + 1 ≤ ((m.map eSlot).flatten).length := by rw [Qsm]; omega
   have hd : (((m.map eSlot).flatten).drop (k * 4 + 1)).headD .u = .sl 1 (t.secs.map eI) := by
    have := Qkn (e := eSlot) (k := 4) (o := 1) (fun _ => rfl) (by omega) m k t ht
    rw [Qu,Q6,this]; rfl
   simp only [vG,h5,f4,uU,hd,Qg,Qe,Qc,Qa0 _ _ _ (Qe9 _),Qa0 _ _ _ (Qea _),Qa0 _ _ _ (Qgt _),↓BU3,BL,simprocAttr]
   simp only [Qj7 (e := eSlot) (k := 4) (o := 1) (fun _ => rfl) (by omega) (fun _ => rfl) ht rfl (cut9 _ _ _ _ _ _ _ _ _ _),Qa0 _ _ _ (Qgu _)]
  ·have h78 : ¬ ((m.length : Int) < m.length) := by omega
   have bY : (((w.makes.take i).map eMake).flatten).length = i := by rw [Qsk,Qq]; omega
   have f5 : Qam (i + 1) := by have := h.makes; unfold Qam; omega
   simp only [h78,bY,f5,Qr,Qe,Qc,Qm,Qg,Qa0 _ _ _ (Qe9 _),Qa0 _ _ _ (Qea _),Qi0,Qa0 _ _ _ (Qgt _),Qa4 hm,Qy,Qz,hpF,upB,Qae _ _ (Qgu _),upL,upV,Qsm,Qrw,Zlv,Qk,h4,↓BU3,BL,simprocAttr]
 ·have bZ : ¬ ((w.makes.length : Int) < w.makes.length) := by omega
  simp only [bZ,Qk,Q3,Zan,Zao,Qsk,Qr,Qrx,Qrz,Qru,Zfp,Zfq,Zfo,BL,simprocAttr]
def K17 := (K16.ext 12 (fnG eH1 dH1 (fun _ => True) farS .b)).ext 11 (fnG eW1 dW1 SmallW (fun w => w) fun w => .ag (Qai w))
def Zet : GOk TP K17 := (Qwq.ext call12 (Qa7 (e := eH1) (d := dH1) (ok := fun _ => True) (g := farS) (eb := .b) fun a _ => W4 a)).ext call11 (Qa7 fun a h => W31 a h)
def h4 (s : Shop) : K17 12 [.ag (Qat s)] = (True,.b (farS s)) := (ky K17 12 (Qqr s) rfl (by decide) :)
def h31 (w : Work) : K17 11 [.ag (Qai w)] = (SmallW w,.ag (Qai w)) := (kx K17 11 (Ql7 w) rfl :)
structure SmallC (s : Shop) : Prop where
 small : SmallS s
 stock : s.stock.length ≤ 1000000
 pieces : s.pieces.length ≤ 1000000
 wishes : s.wishes.length ≤ 1000000
 dels : s.dels.length ≤ 1000000
def Qsl (l : List Piece) : ((l.map ePiece).flatten).length = l.length * 5 := Qaf (e := ePiece) (k := 5) (fun _ => rfl) l
def Qsn (l : List Wish) : ((l.map eWish).flatten).length = l.length * 6 := Qaf (e := eWish) (k := 6) (fun _ => rfl) l
def Zam (l : List Del) : ((l.map eDel).flatten).length = l.length * 3 := Qaf (e := eDel) (k := 3) (fun _ => rfl) l
def Qe8 (l : List Piece) : Qa8 ((l.map ePiece).flatten) = false := Qa5 (e := ePiece) (fun _ => rfl) l
def Qeb (l : List Wish) : Qa8 ((l.map eWish).flatten) = false := Qa5 (e := eWish) (fun _ => rfl) l
def Qe7 (l : List Del) : Qa8 ((l.map eDel).flatten) = false := Qa5 (e := eDel) (fun _ => rfl) l
def Qrv (l : List Piece) : Qbi 5 ((l.map ePiece).flatten) 0 l.length = l.map ePiece := Qa9 (e := ePiece) (k := 5) (fun _ => rfl) l
def Qs0 (l : List Wish) : Qbi 6 ((l.map eWish).flatten) 0 l.length = l.map eWish := Qa9 (e := eWish) (k := 6) (fun _ => rfl) l
def Qrr (l : List Del) : Qbi 3 ((l.map eDel).flatten) 0 l.length = l.map eDel := Qa9 (e := eDel) (k := 3) (fun _ => rfl) l
def Zlu (hp : List Blk) (n : Nat) (l : List Piece) : (l.map ePiece).map (fun r => r.map (vw hp (n + 1))) = l.map ePiece := Qa6 (e := ePiece) hp (n + 1) (fun _ => rfl) l
def Zly (hp : List Blk) (n : Nat) (l : List Wish) : (l.map eWish).map (fun r => r.map (vw hp (n + 1))) = l.map eWish := Qa6 (e := eWish) hp (n + 1) (fun _ => rfl) l
def Zls (hp : List Blk) (n : Nat) (l : List Del) : (l.map eDel).map (fun r => r.map (vw hp (n + 1))) = l.map eDel := Qa6 (e := eDel) hp (n + 1) (fun _ => rfl) l
def W11 (s : Shop) (h : SmallC s) : Qa1 TP 4 [.ag (Qat s)] (.ag (Qat s)) := by
 refine pc Zet func4 cf4 ?_
 have g := h31 s.work
 simp only [Qai] at g
 have hw := h.small.work
 have f1 : Qam s.stock.length ∧ Qam (0 + s.stock.length) := by have := h.stock; unfold Qam; omega
 have f2 : Qam s.pieces.length ∧ Qam (0 + s.pieces.length) := by have := h.pieces; unfold Qam; omega
 have f3 : Qam s.wishes.length ∧ Qam (0 + s.wishes.length) := by have := h.wishes; unfold Qam; omega
 have f4 : Qam s.dels.length ∧ Qam (0 + s.dels.length) := by have := h.dels; unfold Qam; omega
 simp only [rc4,rs4,g,hw,Qg,f1,f2,f3,f4,Qk,BL,simprocAttr]
 refine Qaq s.pieces.length (fun i => ⟨lkp [(1,.pa (Qat s)),(2,.ad 0 0 0),(3,.ad 1 0 0),(4,.i i)],[.cells 0 [.z 4,.z 1,.i 0,.z 4,.z 1,.z 5,.z 6,.z 3,.i 0],.cells 0 [.sl 4 (s.work.spares.map eSpare),.sl 1 (s.work.makes.map eMake),.i s.work.cut,.sl 4 (s.work.table.map eTrial),.rf 2 1 0 s.stock.length 1,.rf 3 1 0 s.pieces.length 5,.rf 5 1 0 s.wishes.length 6,.rf 7 1 0 s.dels.length 3,.i s.carve],.cells 1 (s.stock.map eI).flatten,.cells 1 (s.pieces.map ePiece).flatten,.hole,.cells 1 (s.wishes.map eWish).flatten,.hole,.cells 1 (s.dels.map eDel).flatten,.hole]⟩) ?_ ?_ ?_
 ·simp only [Qd,Qa0 _ _ _ (Qaj _),Qa0 _ _ _ (Qe8 _),Qa0 _ _ _ (Qeb _),Qa0 _ _ _ (Qe7 _),BL,simprocAttr]
 ·intro i hi
  obtain ⟨x,hx⟩ : ∃ x,s.pieces[i]? = some x := ⟨_,Qa hi⟩
  have hlt : (i : Int) < s.pieces.length := by omega
  have h4 : inI ((i : Int) + 1) := by have := h.pieces; unfold inI; omega
  have hb := h.small.broken x (Qb hx)
  have f5 : Qam x.broken.length ∧ Qam (0 + x.broken.length) := by unfold Qam; omega
  have uU : i * 5 + 4 + 1 ≤ ((s.pieces.map ePiece).flatten).length := by rw [Qsl]; omega
  simp only [hx,hlt,h4,f5,uU,Qg,Qe,Qc,Qa0 _ _ _ (Qaj _),Qa0 _ _ _ (Qeb _),Qa0 _ _ _ (Qe7 _),BL,simprocAttr]
  simp only [Qj7 (e := ePiece) (k := 5) (o := 4) (fun _ => rfl) (by omega) (fun _ => rfl) hx rfl (cut9 _ _ _ _ _ _ _ _ _ _),Qa0 _ _ _ (Qe8 _)]
 have bZ : ¬ ((s.pieces.length : Int) < s.pieces.length) := by omega
 simp only [bZ,BL,simprocAttr]
 refine Qaq s.wishes.length (fun i => ⟨lkp [(1,.pa (Qat s)),(2,.ad 0 0 0),(3,.ad 1 0 0),(5,.i i)],[.cells 0 [.z 4,.z 1,.i 0,.z 4,.z 1,.z 5,.z 6,.z 3,.i 0],.cells 0 [.sl 4 (s.work.spares.map eSpare),.sl 1 (s.work.makes.map eMake),.i s.work.cut,.sl 4 (s.work.table.map eTrial),.rf 2 1 0 s.stock.length 1,.rf 3 1 0 s.pieces.length 5,.rf 5 1 0 s.wishes.length 6,.rf 7 1 0 s.dels.length 3,.i s.carve],.cells 1 (s.stock.map eI).flatten,.cells 1 (s.pieces.map ePiece).flatten,.hole,.cells 1 (s.wishes.map eWish).flatten,.hole,.cells 1 (s.dels.map eDel).flatten,.hole]⟩) ?_ ?_ ?_
 ·simp only [Qd,Qa0 _ _ _ (Qaj _),Qa0 _ _ _ (Qe8 _),Qa0 _ _ _ (Qeb _),Qa0 _ _ _ (Qe7 _),BL,simprocAttr]
 ·intro i hi
  obtain ⟨x,hx⟩ : ∃ x,s.wishes[i]? = some x := ⟨_,Qa hi⟩
  have hlt : (i : Int) < s.wishes.length := by omega
  have h4 : inI ((i : Int) + 1) := by have := h.wishes; unfold inI; omega
  have hb := h.small.colors x (Qb hx)
  have f5 : Qam x.colors.length ∧ Qam (0 + x.colors.length) := by unfold Qam; omega
  have uU : i * 6 + 1 ≤ ((s.wishes.map eWish).flatten).length := by rw [Qsn]; omega
  simp only [hx,hlt,h4,f5,uU,Qg,Qe,Qc,Qa0 _ _ _ (Qaj _),Qa0 _ _ _ (Qe8 _),Qa0 _ _ _ (Qe7 _),BL,simprocAttr]
  have hc := fun hp n v hv => Qj7 (e := eWish) (k := 6) (o := 0) (hp := hp) (n := n) (v := v) (fun _ => rfl) (by omega) (fun _ => rfl) hx rfl hv
  simp only [Nat.add_zero] at hc
  simp only [hc _ _ _ (cut9 _ _ _ _ _ _ _ _ _ _),Qa0 _ _ _ (Qeb _)]
 have h78 : ¬ ((s.wishes.length : Int) < s.wishes.length) := by omega
 simp only [h78,Qk,Qaz,Qr,Qsl,Qsn,Zam,Qal,Qrv,Qs0,Qrr,vw_I,Zlu,Zly,Zls,BL,simprocAttr]
def fB {bt n : Nat} (h : n * bt ≤ 140737488355328) (h0 : bt ≠ 0) : Qld bt n ∧ Qld bt (0 + n) := by
 have h1 : n ≤ n * bt := Nat.le_mul_of_pos_right _ (Nat.pos_of_ne_zero h0)
 rw [Q4]
 exact ⟨.inr ⟨by omega,h⟩,.inr ⟨by omega,h⟩⟩
structure BigW (w : Work) : Prop where
 spares : w.spares.length * 32 ≤ 140737488355328
 makes : w.makes.length * 24 ≤ 140737488355328
 slots : ∀ m ∈ w.makes,m.length * 48 ≤ 140737488355328
 secs : ∀ m ∈ w.makes,∀ t ∈ m,t.secs.length * 8 ≤ 140737488355328
 table : w.table.length * 32 ≤ 140737488355328
structure BigS (s : Shop) : Prop where
 work : BigW s.work
 broken : ∀ p ∈ s.pieces,p.broken.length * 8 ≤ 140737488355328
 colors : ∀ x ∈ s.wishes,x.colors.length * 8 ≤ 140737488355328
structure BigC (s : Shop) : Prop where
 small : BigS s
 stock : s.stock.length * 8 ≤ 140737488355328
 pieces : s.pieces.length * 56 ≤ 140737488355328
 wishes : s.wishes.length * 64 ≤ 140737488355328
 dels : s.dels.length * 24 ≤ 140737488355328
def X11b (w : Work) (h : BigW w) : Qa1 TP 11 [.ag (Qai w)] (.ag (Qai w)) := by
 refine pc Qwq func11 cf11 ?_
 have f1 := fB (bt := 32) h.spares (by decide)
 have f2 := fB (bt := 32) h.table (by decide)
 simp only [rc11,rs11,Qg,f1,f2,Qk,BL,simprocAttr]
 refine Qaq w.makes.length (fun i => ⟨lkp [(1,.pa (Qai w)),(2,.ad 0 0 0),(3,.ad 1 0 0),(4,.i i)],[.cells 0 [.z 4,.z 1,.i 0,.z 4],.cells 0 [.rf 2 1 0 w.spares.length 4,.rf 6 i 0 i 1,.i w.cut,.rf 4 1 0 w.table.length 4],.cells 1 (w.spares.map eSpare).flatten,.hole,.cells 1 (w.table.map eTrial).flatten,.hole,.cells i ((w.makes.take i).map eMake).flatten]⟩) ?_ ?_ ?_
 ·simp only [Qd,Qg,Qa0 _ _ _ (Qe9 _),Qa0 _ _ _ (Qea _),BL,simprocAttr]
 ·intro i hi
  obtain ⟨m,hm⟩ : ∃ m,w.makes[i]? = some m := ⟨_,Qa hi⟩
  have hlt : (i : Int) < w.makes.length := by omega
  have h4 : inI ((i : Int) + 1) := by have := h.makes; unfold inI; omega
  have xR := h.slots m (Qb hm)
  have f3 := fB (bt := 48) xR (by decide)
  simp only [hm,hlt,f3,Qg,BL,simprocAttr]
  refine Qaq m.length (fun k => ⟨lkp [(1,.pa (Qai w)),(2,.ad 0 0 0),(3,.ad 1 0 0),(4,.i i),(5,.ad 8 0 0),(6,.i k)],[.cells 0 [.z 4,.z 1,.i 0,.z 4],.cells 0 [.rf 2 1 0 w.spares.length 4,.rf 6 i 0 i 1,.i w.cut,.rf 4 1 0 w.table.length 4],.cells 1 (w.spares.map eSpare).flatten,.hole,.cells 1 (w.table.map eTrial).flatten,.hole,.cells i ((w.makes.take i).map eMake).flatten,.cells 1 (m.map eSlot).flatten,.cells 0 [.rf 7 1 0 m.length 4]]⟩) ?_ ?_ ?_
  ·simp only [Qd,Qa0 _ _ _ (Qe9 _),Qa0 _ _ _ (Qea _),Qa0 _ _ _ (Qgu _),Qa0 _ _ _ (Qgt _),BL,simprocAttr]
  ·intro k hk
   obtain ⟨t,ht⟩ : ∃ t,m[k]? = some t := ⟨_,Qa hk⟩
   have vG : (k : Int) < m.length := by omega
   have h5 : inI ((k : Int) + 1) := by unfold inI; omega
   have hs := h.secs m (Qb hm) t (Qb ht)
   have f4 := fB (bt := 8) hs (by decide)
   have uU : k * 4 + 1 + 1 ≤ ((m.map eSlot).flatten).length := by rw [Qsm]; omega
   have hd : (((m.map eSlot).flatten).drop (k * 4 + 1)).headD .u = .sl 1 (t.secs.map eI) := by
    have := Qkn (e := eSlot) (k := 4) (o := 1) (fun _ => rfl) (by omega) m k t ht
    rw [Qu,Q6,this]; rfl
   simp only [vG,h5,f4,uU,hd,Qg,Qe,Qc,Qa0 _ _ _ (Qe9 _),Qa0 _ _ _ (Qea _),Qa0 _ _ _ (Qgt _),↓BU3,BL,simprocAttr]
   simp only [Qj7 (e := eSlot) (k := 4) (o := 1) (fun _ => rfl) (by omega) (fun _ => rfl) ht rfl (cut9 _ _ _ _ _ _ _ _ _ _),Qa0 _ _ _ (Qgu _)]
  ·have h78 : ¬ ((m.length : Int) < m.length) := by omega
   have bY : (((w.makes.take i).map eMake).flatten).length = i := by rw [Qsk,Qq]; omega
   have f5 := (fB (bt := 24) (n := i + 1) (by have := h.makes; omega) (by decide)).1
   simp only [h78,bY,f5,Qr,Qe,Qc,Qm,Qg,Qa0 _ _ _ (Qe9 _),Qa0 _ _ _ (Qea _),Qi0,Qa0 _ _ _ (Qgt _),Qa4 hm,Qy,Qz,hpF,upB,Qae _ _ (Qgu _),upL,upV,Qsm,Qrw,Zlv,Qk,h4,↓BU3,BL,simprocAttr]
 ·have bZ : ¬ ((w.makes.length : Int) < w.makes.length) := by omega
  simp only [bZ,Qk,Q3,Zan,Zao,Qsk,Qr,Qrx,Qrz,Qru,Zfp,Zfq,Zfo,BL,simprocAttr]
def KB11 := K16.ext 11 (fnG eW1 dW1 BigW (fun w => w) fun w => .ag (Qai w))
def Zkx : GOk TP KB11 := Qwq.ext call11 (Qa7 fun a h => X11b a h)
def h11b (w : Work) : KB11 11 [.ag (Qai w)] = (BigW w,.ag (Qai w)) := (kx KB11 11 (Ql7 w) rfl :)
def X4b (s : Shop) (h : BigC s) : Qa1 TP 4 [.ag (Qat s)] (.ag (Qat s)) := by
 refine pc Zkx func4 cf4 ?_
 have g := h11b s.work
 simp only [Qai] at g
 have hw := h.small.work
 have f1 := fB (bt := 8) h.stock (by decide)
 have f2 := fB (bt := 56) h.pieces (by decide)
 have f3 := fB (bt := 64) h.wishes (by decide)
 have f4 := fB (bt := 24) h.dels (by decide)
 simp only [rc4,rs4,g,hw,Qg,f1,f2,f3,f4,Qk,BL,simprocAttr]
 refine Qaq s.pieces.length (fun i => ⟨lkp [(1,.pa (Qat s)),(2,.ad 0 0 0),(3,.ad 1 0 0),(4,.i i)],[.cells 0 [.z 4,.z 1,.i 0,.z 4,.z 1,.z 5,.z 6,.z 3,.i 0],.cells 0 [.sl 4 (s.work.spares.map eSpare),.sl 1 (s.work.makes.map eMake),.i s.work.cut,.sl 4 (s.work.table.map eTrial),.rf 2 1 0 s.stock.length 1,.rf 3 1 0 s.pieces.length 5,.rf 5 1 0 s.wishes.length 6,.rf 7 1 0 s.dels.length 3,.i s.carve],.cells 1 (s.stock.map eI).flatten,.cells 1 (s.pieces.map ePiece).flatten,.hole,.cells 1 (s.wishes.map eWish).flatten,.hole,.cells 1 (s.dels.map eDel).flatten,.hole]⟩) ?_ ?_ ?_
 ·simp only [Qd,Qa0 _ _ _ (Qaj _),Qa0 _ _ _ (Qe8 _),Qa0 _ _ _ (Qeb _),Qa0 _ _ _ (Qe7 _),BL,simprocAttr]
 ·intro i hi
  obtain ⟨x,hx⟩ : ∃ x,s.pieces[i]? = some x := ⟨_,Qa hi⟩
  have hlt : (i : Int) < s.pieces.length := by omega
  have h4 : inI ((i : Int) + 1) := by have := h.pieces; unfold inI; omega
  have hb := h.small.broken x (Qb hx)
  have f5 := fB (bt := 8) hb (by decide)
  have uU : i * 5 + 4 + 1 ≤ ((s.pieces.map ePiece).flatten).length := by rw [Qsl]; omega
  simp only [hx,hlt,h4,f5,uU,Qg,Qe,Qc,Qa0 _ _ _ (Qaj _),Qa0 _ _ _ (Qeb _),Qa0 _ _ _ (Qe7 _),↓BU3,BL,simprocAttr]
  simp only [Qj7 (e := ePiece) (k := 5) (o := 4) (fun _ => rfl) (by omega) (fun _ => rfl) hx rfl (cut9 _ _ _ _ _ _ _ _ _ _),Qa0 _ _ _ (Qe8 _)]
 have bZ : ¬ ((s.pieces.length : Int) < s.pieces.length) := by omega
 simp only [bZ,BL,simprocAttr]
 refine Qaq s.wishes.length (fun i => ⟨lkp [(1,.pa (Qat s)),(2,.ad 0 0 0),(3,.ad 1 0 0),(5,.i i)],[.cells 0 [.z 4,.z 1,.i 0,.z 4,.z 1,.z 5,.z 6,.z 3,.i 0],.cells 0 [.sl 4 (s.work.spares.map eSpare),.sl 1 (s.work.makes.map eMake),.i s.work.cut,.sl 4 (s.work.table.map eTrial),.rf 2 1 0 s.stock.length 1,.rf 3 1 0 s.pieces.length 5,.rf 5 1 0 s.wishes.length 6,.rf 7 1 0 s.dels.length 3,.i s.carve],.cells 1 (s.stock.map eI).flatten,.cells 1 (s.pieces.map ePiece).flatten,.hole,.cells 1 (s.wishes.map eWish).flatten,.hole,.cells 1 (s.dels.map eDel).flatten,.hole]⟩) ?_ ?_ ?_
 ·simp only [Qd,Qa0 _ _ _ (Qaj _),Qa0 _ _ _ (Qe8 _),Qa0 _ _ _ (Qeb _),Qa0 _ _ _ (Qe7 _),BL,simprocAttr]
 ·intro i hi
  obtain ⟨x,hx⟩ : ∃ x,s.wishes[i]? = some x := ⟨_,Qa hi⟩
  have hlt : (i : Int) < s.wishes.length := by omega
  have h4 : inI ((i : Int) + 1) := by have := h.wishes; unfold inI; omega
  have hb := h.small.colors x (Qb hx)
  have f5 := fB (bt := 8) hb (by decide)
  have uU : i * 6 + 1 ≤ ((s.wishes.map eWish).flatten).length := by rw [Qsn]; omega
  simp only [hx,hlt,h4,f5,uU,Qg,Qe,Qc,Qa0 _ _ _ (Qaj _),Qa0 _ _ _ (Qe8 _),Qa0 _ _ _ (Qe7 _),↓BU3,BL,simprocAttr]
  have hc := fun hp n v hv => Qj7 (e := eWish) (k := 6) (o := 0) (hp := hp) (n := n) (v := v) (fun _ => rfl) (by omega) (fun _ => rfl) hx rfl hv
  simp only [Nat.add_zero] at hc
  simp only [hc _ _ _ (cut9 _ _ _ _ _ _ _ _ _ _),Qa0 _ _ _ (Qeb _)]
 have h78 : ¬ ((s.wishes.length : Int) < s.wishes.length) := by omega
 simp only [h78,Qk,Qaz,Qr,Qsl,Qsn,Zam,Qal,Qrv,Qs0,Qrr,vw_I,Zlu,Zly,Zls,BL,simprocAttr]
end Go.CS
end
namespace Go.CS
open Go.Fam Go.Proofs
open Go.C06 (Span eI eSpan gI gR dI Qas fnG Qa7 Qap Qa3 Qa4 idxOf Qah Qaa Qab Qaf Qa9 Qa6 Qa5 Qad Qal Qaz vw_I Qaj hmix eLI dLI Qb1 Qac Qa0 Qa2 Qae)
variable {Γ : Gam}
open Go.ChangeAt
variable {H : Type} {enc : TypeId × Value → H} {W : World}
def le47 {P : Program} {e : TypeId} {bt n : Nat} (hb : P.bytesOf e = bt) (h : n * P.bytesOf e ≤ reachBytes) : n * bt ≤ 140737488355328 := by
 rw [hb] at h
 exact Nat.le_trans h (by decide)
def uInt : Tryz.prog.underlying 3 = some (.int .i64) := by kernel_rfl
def Qe5 : FamR.Rd enc Tryz.prog W 3 eI inI := FamR.rd_int uInt
def Qq6 : FamR.Rd enc Tryz.prog W 27 (fun l : List Int => [.sl 1 (l.map eI)]) (fun l => l.length * 8 ≤ 140737488355328) :=
 (FamR.rd_slice (el := 3) (es := 1) (by kernel_rfl) (by kernel_rfl) (by decide) Qe5).map id (fun _ => rfl) fun _ h => le47 (by kernel_rfl) h.2
def aInts : FamR.RdV enc Tryz.prog W 27 (fun l : List Int => .sl 1 (l.map eI)) (fun l => l.length * 8 ≤ 140737488355328) := FamR.Rd.one (Qwu (el := 3) (by kernel_rfl)) Qq6
def Qx2 : FamR.Rd enc Tryz.prog W 48 (fun s : Span => [V.i s.low,V.i s.high]) (fun _ => True) :=
 (FamR.RdP.rd (fs := Tryz.prog.fieldsOf 48) (n := 2) (ps := [(3,0),(3,1)]) (by kernel_rfl) (by kernel_rfl) (by kernel_rfl)
  (FamR.rdP_cons (k := 1) (by kernel_rfl) Qe5 (FamR.rdP_cons (k := 1) (by kernel_rfl) Qe5 (FamR.rdP_nil (by decide))))).map (fun p => ⟨p.1,p.2.1⟩) (fun _ => rfl) fun p h => trivial
def Zf8 : FamR.Rd enc Tryz.prog W 97 eSpare (fun _ => True) :=
 (FamR.RdP.rd (fs := Tryz.prog.fieldsOf 97) (n := 4) (ps := [(3,0),(3,1),(48,2)]) (by kernel_rfl) (by kernel_rfl) (by kernel_rfl)
  (FamR.rdP_cons (k := 1) (by kernel_rfl) Qe5 (FamR.rdP_cons (k := 1) (by kernel_rfl) Qe5 (FamR.rdP_cons (k := 2) (by kernel_rfl) Qx2 (FamR.rdP_nil (by decide)))))).map (fun p => ⟨p.1,p.2.1,p.2.2.1⟩) (fun _ => rfl) fun p h => trivial
def Qzb : FamR.Rd enc Tryz.prog W 22 (fun l : List Spare => [.sl 4 (l.map eSpare)]) (fun l => l.length * 32 ≤ 140737488355328) :=
 (FamR.rd_slice (el := 97) (es := 4) (by kernel_rfl) (by kernel_rfl) (by decide) Zf8).map id (fun _ => rfl) fun _ h => le47 (by kernel_rfl) h.2
def Zl3 : FamR.Rd enc Tryz.prog W 83 eSlot (fun t => t.secs.length * 8 ≤ 140737488355328) :=
 (FamR.RdP.rd (fs := Tryz.prog.fieldsOf 83) (n := 4) (ps := [(3,0),(27,1),(48,2)]) (by kernel_rfl) (by kernel_rfl) (by kernel_rfl)
  (FamR.rdP_cons (k := 1) (by kernel_rfl) Qe5 (FamR.rdP_cons (k := 1) (by kernel_rfl) Qq6 (FamR.rdP_cons (k := 2) (by kernel_rfl) Qx2 (FamR.rdP_nil (by decide)))))).map (fun p => ⟨p.1,p.2.1,p.2.2.1⟩) (fun _ => rfl) fun p h => h.2.1
def Zf7 : FamR.Rd enc Tryz.prog W 79 (fun l : List Slot => [.sl 4 (l.map eSlot)]) (fun l => (∀ t ∈ l,t.secs.length * 8 ≤ 140737488355328) ∧ l.length * 48 ≤ 140737488355328) :=
 (FamR.rd_slice (el := 83) (es := 4) (by kernel_rfl) (by kernel_rfl) (by decide) Zl3).map id (fun _ => rfl) fun _ h => ⟨h.1,le47 (by kernel_rfl) h.2⟩
def Zl1 : FamR.Rd enc Tryz.prog W 81 eMake (fun m => (∀ t ∈ m,t.secs.length * 8 ≤ 140737488355328) ∧ m.length * 48 ≤ 140737488355328) :=
 (FamR.RdP.rd (fs := Tryz.prog.fieldsOf 81) (n := 1) (ps := [(79,0)]) (by kernel_rfl) (by kernel_rfl) (by kernel_rfl)
  (FamR.rdP_cons (k := 1) (by kernel_rfl) Zf7 (FamR.rdP_nil (by decide)))).map (fun p => p.1) (fun _ => rfl) fun p h => h.1
def Zf5 : FamR.Rd enc Tryz.prog W 23 (fun l : List (List Slot) => [.sl 1 (l.map eMake)]) (fun l => (∀ m ∈ l,(∀ t ∈ m,t.secs.length * 8 ≤ 140737488355328) ∧ m.length * 48 ≤ 140737488355328) ∧ l.length * 24 ≤ 140737488355328) :=
 (FamR.rd_slice (el := 81) (es := 1) (by kernel_rfl) (by kernel_rfl) (by decide) Zl1).map id (fun _ => rfl) fun _ h => ⟨h.1,le47 (by kernel_rfl) h.2⟩
def Zf9 : FamR.Rd enc Tryz.prog W 99 eTrial (fun _ => True) :=
 (FamR.RdP.rd (fs := Tryz.prog.fieldsOf 99) (n := 4) (ps := [(3,0),(3,1),(3,2),(3,3)]) (by kernel_rfl) (by kernel_rfl) (by kernel_rfl)
  (FamR.rdP_cons (k := 1) (by kernel_rfl) Qe5 (FamR.rdP_cons (k := 1) (by kernel_rfl) Qe5 (FamR.rdP_cons (k := 1) (by kernel_rfl) Qe5 (FamR.rdP_cons (k := 1) (by kernel_rfl) Qe5 (FamR.rdP_nil (by decide))))))).map (fun p => ⟨p.1,p.2.1,p.2.2.1,p.2.2.2.1⟩) (fun _ => rfl) fun p h => trivial
def Qzc : FamR.Rd enc Tryz.prog W 24 (fun l : List Trial => [.sl 4 (l.map eTrial)]) (fun l => l.length * 32 ≤ 140737488355328) :=
 (FamR.rd_slice (el := 99) (es := 4) (by kernel_rfl) (by kernel_rfl) (by decide) Zf9).map id (fun _ => rfl) fun _ h => le47 (by kernel_rfl) h.2
def Zl5 : FamR.Rd enc Tryz.prog W 26 Qai BigW :=
 (FamR.RdP.rd (fs := Tryz.prog.fieldsOf 26) (n := 4) (ps := [(22,0),(23,1),(3,2),(24,3)]) (by kernel_rfl) (by kernel_rfl) (by kernel_rfl)
  (FamR.rdP_cons (k := 1) (by kernel_rfl) Qzb (FamR.rdP_cons (k := 1) (by kernel_rfl) Zf5 (FamR.rdP_cons (k := 1) (by kernel_rfl) Qe5 (FamR.rdP_cons (k := 1) (by kernel_rfl) Qzc (FamR.rdP_nil (by decide))))))).map (fun p => ⟨p.1,p.2.1,p.2.2.1,p.2.2.2.1⟩) (fun _ => rfl) fun p h => ⟨h.1,h.2.1.2,fun m hm => (h.2.1.1 m hm).2,fun m hm => (h.2.1.1 m hm).1,h.2.2.2.1⟩
def Zf6 : FamR.Rd enc Tryz.prog W 46 ePiece (fun p => p.broken.length * 8 ≤ 140737488355328) :=
 (FamR.RdP.rd (fs := Tryz.prog.fieldsOf 46) (n := 5) (ps := [(3,0),(3,1),(3,2),(3,3),(27,4)]) (by kernel_rfl) (by kernel_rfl) (by kernel_rfl)
  (FamR.rdP_cons (k := 1) (by kernel_rfl) Qe5 (FamR.rdP_cons (k := 1) (by kernel_rfl) Qe5 (FamR.rdP_cons (k := 1) (by kernel_rfl) Qe5 (FamR.rdP_cons (k := 1) (by kernel_rfl) Qe5 (FamR.rdP_cons (k := 1) (by kernel_rfl) Qq6 (FamR.rdP_nil (by decide)))))))).map (fun p => ⟨p.1,p.2.1,p.2.2.1,p.2.2.2.1,p.2.2.2.2.1⟩) (fun _ => rfl) fun p h => h.2.2.2.2.1
def Qza : FamR.Rd enc Tryz.prog W 28 (fun l : List Piece => [.sl 5 (l.map ePiece)]) (fun l => (∀ p ∈ l,p.broken.length * 8 ≤ 140737488355328) ∧ l.length * 56 ≤ 140737488355328) :=
 (FamR.rd_slice (el := 46) (es := 5) (by kernel_rfl) (by kernel_rfl) (by decide) Zf6).map id (fun _ => rfl) fun _ h => ⟨h.1,le47 (by kernel_rfl) h.2⟩
def Zl4 : FamR.Rd enc Tryz.prog W 50 eWish (fun x => x.colors.length * 8 ≤ 140737488355328) :=
 (FamR.RdP.rd (fs := Tryz.prog.fieldsOf 50) (n := 6) (ps := [(27,0),(48,1),(3,3),(3,4),(3,5)]) (by kernel_rfl) (by kernel_rfl) (by kernel_rfl)
  (FamR.rdP_cons (k := 1) (by kernel_rfl) Qq6 (FamR.rdP_cons (k := 2) (by kernel_rfl) Qx2 (FamR.rdP_cons (k := 1) (by kernel_rfl) Qe5 (FamR.rdP_cons (k := 1) (by kernel_rfl) Qe5 (FamR.rdP_cons (k := 1) (by kernel_rfl) Qe5 (FamR.rdP_nil (by decide)))))))).map (fun p => ⟨p.1,p.2.1,p.2.2.1,p.2.2.2.1,p.2.2.2.2.1⟩) (fun _ => rfl) fun p h => h.1
def Qzd : FamR.Rd enc Tryz.prog W 29 (fun l : List Wish => [.sl 6 (l.map eWish)]) (fun l => (∀ x ∈ l,x.colors.length * 8 ≤ 140737488355328) ∧ l.length * 64 ≤ 140737488355328) :=
 (FamR.rd_slice (el := 50) (es := 6) (by kernel_rfl) (by kernel_rfl) (by decide) Zl4).map id (fun _ => rfl) fun _ h => ⟨h.1,le47 (by kernel_rfl) h.2⟩
def Zq8 : FamR.Rd enc Tryz.prog W 89 eDel (fun _ => True) :=
 (FamR.RdP.rd (fs := Tryz.prog.fieldsOf 89) (n := 3) (ps := [(3,0),(3,1),(3,2)]) (by kernel_rfl) (by kernel_rfl) (by kernel_rfl)
  (FamR.rdP_cons (k := 1) (by kernel_rfl) Qe5 (FamR.rdP_cons (k := 1) (by kernel_rfl) Qe5 (FamR.rdP_cons (k := 1) (by kernel_rfl) Qe5 (FamR.rdP_nil (by decide)))))).map (fun p => ⟨p.1,p.2.1,p.2.2.1⟩) (fun _ => rfl) fun p h => trivial
def Zl0 : FamR.Rd enc Tryz.prog W 30 (fun l : List Del => [.sl 3 (l.map eDel)]) (fun l => l.length * 24 ≤ 140737488355328) :=
 (FamR.rd_slice (el := 89) (es := 3) (by kernel_rfl) (by kernel_rfl) (by decide) Zq8).map id (fun _ => rfl) fun _ h => le47 (by kernel_rfl) h.2
def Zl2 : FamR.Rd enc Tryz.prog W 32 Qat BigC :=
 (FamR.RdP.rd (fs := Tryz.prog.fieldsOf 32) (n := 9) (ps := [(26,0),(27,4),(28,5),(29,6),(30,7),(3,8)]) (by kernel_rfl) (by kernel_rfl) (by kernel_rfl)
  (FamR.rdP_cons (k := 4) (by kernel_rfl) Zl5 (FamR.rdP_cons (k := 1) (by kernel_rfl) Qq6 (FamR.rdP_cons (k := 1) (by kernel_rfl) Qza (FamR.rdP_cons (k := 1) (by kernel_rfl) Qzd (FamR.rdP_cons (k := 1) (by kernel_rfl) Zl0 (FamR.rdP_cons (k := 1) (by kernel_rfl) Qe5 (FamR.rdP_nil (by decide))))))))).map (fun p => ⟨p.1,p.2.1,p.2.2.1,p.2.2.2.1,p.2.2.2.2.1,p.2.2.2.2.2.1⟩) (fun _ => rfl) fun p h => ⟨⟨h.1,h.2.2.1.1,h.2.2.2.1.1⟩,h.2.1,h.2.2.1.2,h.2.2.2.1.2,h.2.2.2.2.1⟩
def aShop : FamR.RdV enc Tryz.prog W 32 (fun d => .ag (Qat d)) BigC := FamR.Rd.agg (fs := Tryz.prog.fieldsOf 32) (by kernel_rfl) Zl2
def own : ownKnob Tryz.prog.godebug = none := by kernel_rfl
def laid : laidOutB Tryz.prog = true := by kernel_rfl
end Go.CS
noncomputable section
namespace Go.CS
open Go.Fam Go.Proofs
open Go.Proofs.Tryz
open Go.Proofs.Tryz renaming prog → TP
open Go.C06 (fnG Qap Span eI eSpan gI gR dI Qas Qa7 Qa3 Qa4 idxOf Qah Qaa Qab Qaf Qa9 Qa6 Qa5 Qad Qal Qaz vw_I Qaj hmix eLI dLI Qb1 Qac Qa0 Qa2 Qae)
variable {Γ : Gam}
set_option maxRecDepth 100000
def W120 (n lo hi : Int) : Qa1 TP 53 [.i n,.i lo,.i hi] (.b (Qa3 n lo hi)) := by
 refine pc Zet func53 cf53 ?_
 simp only [rc53,rs53,BU2,simprocAttr]
 by_cases h : lo ≤ n <;> simp [h,Qa3]
def K18 := (K17.ext 4 (fnG eH1 dH1 SmallC (fun s => s) fun s => .ag (Qat s))).ext 53 sWi
def Qz2 : GOk TP K18 := (Zet.ext (f := 4) (fun a w => call4 a w) (Qa7 (e := eH1) (d := dH1) (ok := SmallC) (g := fun s => s) (eb := fun s => .ag (Qat s)) fun a h => W11 a h)).ext (f := 53) (r := sWi) (fun a w => call53 a w) (Qt5 W120)
def h120 (n lo hi : Int) : K18 53 [.i n,.i lo,.i hi] = (True,.b (Qa3 n lo hi)) := rfl
def W133 (n : Int) : Qa1 TP 136 [.i n] (.b (Qa3 n 0 9)) := by
 refine pc Qz2 func136 Zng ?_
 simp only [rc136,rs136,h120,BU2,simprocAttr]
def W134 (s : Span) : Qa1 TP 137 [.ag (eSpan s)] (.b (Qgf s)) := by
 refine pc Qz2 func137 Znh ?_
 simp only [rc137,rs137,h120,BL,simprocAttr]
 by_cases h : Qa3 s.low 0 s.high = true <;> simp [h,Qgf]
def W137 (l : List Int) (hl : l.length ≤ 1000000) : Qa1 TP 139 [.sl 1 (l.map eI)] (.b (ascB l)) := by
 refine pc Qz2 func139 Znj ?_
 simp only [rc139,rs139,BU2,simprocAttr]
 refine Qao (l.length - 1) (fun k => ⟨lkp [(0,.sl 1 (l.map eI)),(3,.i ((k + 1 : Nat) : Int))],[]⟩) (fun k => ∀ j x y,j < k → l[j]? = some x → l[j + 1]? = some y → x < y) ?_ ?_ ?_ ?_
 ·simp only [BU2,simprocAttr]
 ·intro j x y h; omega
 ·intro k hk hc
  obtain ⟨x,hx⟩ : ∃ x,l[k]? = some x := ⟨_,Qa (by omega)⟩
  obtain ⟨y,hy⟩ : ∃ y,l[k + 1]? = some y := ⟨_,Qa (by omega)⟩
  have hlt : ((k + 1 : Nat) : Int) < l.length := by omega
  have e1 : ((k + 1 : Nat) : Int) - 1 = (k : Int) := by omega
  have h3 : inI ((k + 1 + 1 : Nat) : Int) ∧ inI (k : Int) := by unfold inI; omega
  have e2 : ((k + 1 : Nat) : Int) + 1 = ((k + 1 + 1 : Nat) : Int) := by omega
  have vV : (k : Int) < l.length := by omega
  simp only [hx,hy,hlt,e1,h3,e2,vV,BL,simprocAttr]
  refine ⟨fun e => ?_,fun e => ?_⟩
  ·have : ¬ ascB l = true := fun ha => by have := (Qdk l).1 ha k x y hx hy; omega
   simp at this; exact this.symm
  ·intro j a b hj ha hb
   by_cases u6 : j < k
   ·exact hc j a b u6 ha hb
   ·have : j = k := by omega
    subst this
    rw [hx] at ha; rw [hy] at hb; cases ha; cases hb; omega
 ·intro hc
  have hn : ¬ (((l.length - 1 + 1 : Nat) : Int) < l.length) := by omega
  simp only [hn,BU2,simprocAttr]
  exact ((Qdk l).2 fun j x y hx hy => hc j x y (by have := Qag hy; omega) hx hy).symm
def sMk : List V → Prop × V | [.i n] => (True,.b (Qa3 n 0 9)) | _ => (False,.u)
def Zlk (vs : List V) (h : (sMk vs).1) : Qa1 TP 136 vs (sMk vs).2 := by
 unfold sMk at h ⊢
 split at h
 ·exact W133 _
 ·exact h.elim
def K19 := ((K18.ext 136 sMk).ext 137 (fnG eS1 dS1 (fun _ => True) Qgf .b)).ext 139 (fnG eL1 dL1 (fun l => l.length ≤ 1000000) ascB .b)
def Zj9 : GOk TP K19 := ((Qz2.ext (f := 136) (r := sMk) (fun a w => call136 a w) Zlk).ext (f := 137) (fun a w => call137 a w) (Qa7 (e := eS1) (d := dS1) (ok := fun _ => True) (g := Qgf) (eb := .b) fun s _ => W134 s)).ext (f := 139) (fun a w => call139 a w) (Qa7 (e := eL1) (d := dL1) (ok := fun l => l.length ≤ 1000000) (g := ascB) (eb := .b) fun s h => W137 s h)
def h133 (n : Int) : K19 136 [.i n] = (True,.b (Qa3 n 0 9)) := rfl
def h134 (s : Span) : K19 137 [.ag (eSpan s)] = (True,.b (Qgf s)) := (show K19 137 _ = fnG eS1 dS1 (fun _ => True) Qgf .b (eS1 s) from rfl).trans (Qap _ (Zhr _))
def h137 (l : List Int) : K19 139 [.sl 1 (l.map eI)] = (l.length ≤ 1000000,.b (ascB l)) := (show K19 139 _ = fnG eL1 dL1 (fun l => l.length ≤ 1000000) ascB .b (eL1 l) from rfl).trans (Qap _ (Zhp _))
def W132 (s : Spare) : Qa1 TP 135 [.ag (eSpare s)] (.b (okSpare s)) := by
 refine pc Zj9 func135 Znf ?_
 have g := h134 s.len
 simp only [eSpan] at g
 unfold okSpare
 cases e1 : Qa3 s.kind 0 9 with
 | false => simp only [rc135,rs135,h133,e1,BL,simprocAttr]
 | true =>
 cases e2 : Qa3 s.sect 0 9 with
 | false => simp only [rc135,rs135,h133,e1,e2,BL,simprocAttr]
 | true => simp only [rc135,rs135,h133,e1,e2,g,BL,simprocAttr]
def eP1 (s : Spare) : List V := [.ag (eSpare s)]
def dP1 : List V → Spare | [.ag s] => Ql6 s | _ => Ql6 []
def K20 := K19.ext 135 (fnG eP1 dP1 (fun _ => True) okSpare .b)
def Zja : GOk TP K20 := Zj9.ext (f := 135) (fun a w => call135 a w) (Qa7 (e := eP1) (d := dP1) (ok := fun _ => True) (g := okSpare) (eb := .b) fun s _ => W132 s)
def h132 (s : Spare) : K20 135 [.ag (eSpare s)] = (True,.b (okSpare s)) := (show K20 135 _ = fnG eP1 dP1 (fun _ => True) okSpare .b (eP1 s) from rfl).trans (Qap _ rfl)
def W155 (s : Spare) : Qa1 TP 165 [.ag (eSpare s),.pa [.fn 135 []]] (.b (!okSpare s)) := by
 refine pc Zja func165 Zo4 ?_
 have g := h132 s
 simp only [eSpare] at g
 simp only [rc165,rs165,g,BL,simprocAttr]
def Q161 (hG : GOk TP Γ) (l : List Spare) (f : Nat) (hf : f < 1000000) (caps : List V) (p : Spare → Bool) (C : Prop) (hC : C) (hv : caps.map (vw [] 8) = caps) (hr : Qa8 caps = false) (hl : l.length < 10000000)
  (h : ∀ x ∈ l,Γ f (V.ag (eSpare x) :: caps) = (C,.b (p x))) : Qa1 TP 174 [.sl 4 (l.map eSpare),.fn f caps] (.i (idxOf p l)) := by
 refine pc hG func174 Zo9 ?_
 simp only [rc174,rs174,BU2,simprocAttr]
 refine Qao l.length (fun i => ⟨lkp [(0,.sl 4 (l.map eSpare)),(1,.fn f caps),(7,.i l.length),(8,.i i)],[]⟩) (fun i => ∀ j x,j < i → l[j]? = some x → p x = false) ?_ ?_ ?_ ?_
 ·simp only [Qd,BU2,simprocAttr]
 ·intro j x h; omega
 ·intro i hi hc
  obtain ⟨x,hx⟩ : ∃ x,l[i]? = some x := ⟨_,Qa hi⟩
  have hlt : (i : Int) < l.length := by omega
  have h3 : inI ((i : Int) + 1) := by unfold inI; omega
  have hp := h x (Qb hx)
  try simp only [eSpare] at hp
  simp only [hx,hlt,Qe,Qc,h3,hp,hv,hr,hf,hC,BL,simprocAttr]
  refine ⟨fun e => ?_,fun e => ?_⟩
  ·rw [Qah hx e hc]
  ·exact Qbd hx e hc
 ·intro hc
  simp only [BU2,simprocAttr]
  exact (Qaa fun x hx => by
   obtain ⟨j,hj⟩ := Qf hx
   exact hc j x (by have := Qag hj; exact this) hj).symm
def e1P (x : Spare) : List V := [V.ag (eSpare x),.pa [.fn 135 []]]
def d1P : List V → Spare | [.ag s,_] => Ql6 s | _ => ⟨0,0,⟨0,0⟩⟩
def Zoe (x : Spare) : d1P (e1P x) = x := by simp [d1P,e1P,Qi2]
def K21 := K20.ext 165 (fnG e1P d1P (fun _ => True) (fun x => !okSpare x) .b)
def Zjb : GOk TP K21 := Zja.ext call165 (Qa7 fun x _ => W155 x)
def h155 (x : Spare) : K21 165 [V.ag (eSpare x),.pa [.fn 135 []]] = (True,.b (!okSpare x)) := (kx K21 165 (Zoe x) rfl :)
def e2P (l : List Spare) : List V := [.sl 4 (l.map eSpare),.fn 165 [.pa [.fn 135 []]]]
def d2P : List V → List Spare | [.sl _ l,_] => l.map Ql6 | _ => []
def Zhd (l : List Spare) : d2P (e2P l) = l := by simp [d2P,e2P,Function.comp_def,Qi2]
def K22 := K21.ext 174 (fnG e2P d2P (fun l => l.length < 10000000) (idxOf fun x => !okSpare x) .i)
def Zjc : GOk TP K22 := Zjb.ext call174 (Qa7 fun l h => Q161 Zjb l 165 (by decide) [.pa [.fn 135 []]] _ True trivial rfl rfl h fun x _ => h155 x)
def h161 (l : List Spare) : K22 174 [.sl 4 (l.map eSpare),.fn 165 [.pa [.fn 135 []]]] = (l.length < 10000000,.i (idxOf (fun x => !okSpare x) l)) := (kx K22 174 (Zhd l) rfl :)
def W154 (l : List Spare) (h : l.length < 10000000) : Qa1 TP 164 [.sl 4 (l.map eSpare),.fn 165 [.pa [.fn 135 []]]] (.b (l.any fun x => !okSpare x)) := by
 refine pc Zjc func164 Zo3 ?_
 simp only [rc164,rs164,h161,BU2,simprocAttr]
 exact ⟨h,by rw [Qab]⟩
def K23 := K22.ext 164 (fnG e2P d2P (fun l => l.length < 10000000) (fun l => l.any fun x => !okSpare x) .b)
def Zjd : GOk TP K23 := Zjc.ext call164 (Qa7 fun l h => W154 l h)
def h154 (l : List Spare) : K23 164 [.sl 4 (l.map eSpare),.fn 165 [.pa [.fn 135 []]]] = (l.length < 10000000,.b (l.any fun x => !okSpare x)) := (kx K23 164 (Zhd l) rfl :)
def e3P (l : List Spare) : List V := [.sl 4 (l.map eSpare),.fn 135 []]
def Zok (l : List Spare) : d2P (e3P l) = l := by simp [d2P,e3P,Function.comp_def,Qi2]
def W141 (l : List Spare) (h : l.length < 10000000) : Qa1 TP 143 [.sl 4 (l.map eSpare),.fn 135 []] (.b (l.all okSpare)) := by
 refine pc Zjd func143 Znn ?_
 have e : (!(l.any fun x => !okSpare x)) = l.all okSpare := by rw [Ql]; simp
 simp only [rc143,rs143,h154,h,e,BU2,simprocAttr]
def K24 := K23.ext 143 (fnG e3P d2P (fun l => l.length < 10000000) (fun l => l.all okSpare) .b)
def Zje : GOk TP K24 := Zjd.ext call143 (Qa7 fun l h => W141 l h)
def h141 (l : List Spare) : K24 143 [.sl 4 (l.map eSpare),.fn 135 []] = (l.length < 10000000,.b (l.all okSpare)) := (kx K24 143 (Zok l) rfl :)
def okMk (n : Int) : Bool := Qa3 n 0 9
def W151 (n : Int) : Qa1 TP 83 [.i n,.pa [.fn 136 []]] (.b (!okMk n)) := by
 refine pc Zje func83 cf83 ?_
 have g : K24 136 [.i n] = (True,.b (okMk n)) := h133 n
 simp only [rc83,rs83,g,BU2,simprocAttr]
def P143 (hG : GOk TP Γ) (l : List Int) (f : Nat) (hf : f < 1000000) (caps : List V) (p : Int → Bool) (C : Prop) (hC : C) (hv : caps.map (vw [] 8) = caps) (hr : Qa8 caps = false) (hl : l.length < 10000000)
  (h : ∀ x ∈ l,Γ f (V.i x :: caps) = (C,.b (p x))) : Qa1 TP 122 [.sl 1 (l.map eI),.fn f caps] (.i (idxOf p l)) := by
 refine pc hG func122 Zdd ?_
 simp only [rc122,rs122,BU2,simprocAttr]
 refine Qao l.length (fun i => ⟨lkp [(0,.sl 1 (l.map eI)),(1,.fn f caps),(7,.i l.length),(8,.i i)],[]⟩) (fun i => ∀ j x,j < i → l[j]? = some x → p x = false) ?_ ?_ ?_ ?_
 ·simp only [Qd,BU2,simprocAttr]
 ·intro j x h; omega
 ·intro i hi hc
  obtain ⟨x,hx⟩ : ∃ x,l[i]? = some x := ⟨_,Qa hi⟩
  have hlt : (i : Int) < l.length := by omega
  have h3 : inI ((i : Int) + 1) := by unfold inI; omega
  have hp := h x (Qb hx)
  try simp only [eI,eMake] at hp
  simp only [hx,hlt,Qe,Qc,h3,hp,hv,hr,hf,hC,BL,simprocAttr]
  refine ⟨fun e => ?_,fun e => ?_⟩
  ·rw [Qah hx e hc]
  ·exact Qbd hx e hc
 ·intro hc
  simp only [BU2,simprocAttr]
  exact (Qaa fun x hx => by
   obtain ⟨j,hj⟩ := Qf hx
   exact hc j x (by have := Qag hj; exact this) hj).symm
def e1N (x : Int) : List V := [V.i x,.pa [.fn 136 []]]
def d1N : List V → Int | [.i n,_] => n | _ => 0
def Zod (x : Int) : d1N (e1N x) = x := by simp [d1N,e1N]
def K25 := K24.ext 83 (fnG e1N d1N (fun _ => True) (fun x => !okMk x) .b)
def Zjf : GOk TP K25 := Zje.ext call83 (Qa7 fun x _ => W151 x)
def h151 (x : Int) : K25 83 [V.i x,.pa [.fn 136 []]] = (True,.b (!okMk x)) := (kx K25 83 (Zod x) rfl :)
def e2N (l : List Int) : List V := [.sl 1 (l.map eI),.fn 83 [.pa [.fn 136 []]]]
def d2N : List V → List Int | [.sl _ l,_] => l.map dI | _ => []
def Zhc (l : List Int) : d2N (e2N l) = l := by simp [d2N,e2N,Function.comp_def,Qas]
def K26 := K25.ext 122 (fnG e2N d2N (fun l => l.length < 10000000) (idxOf fun x => !okMk x) .i)
def Zjg : GOk TP K26 := Zjf.ext call122 (Qa7 fun l h => P143 Zjf l 83 (by decide) [.pa [.fn 136 []]] _ True trivial rfl rfl h fun x _ => h151 x)
def h143 (l : List Int) : K26 122 [.sl 1 (l.map eI),.fn 83 [.pa [.fn 136 []]]] = (l.length < 10000000,.i (idxOf (fun x => !okMk x) l)) := (kx K26 122 (Zhc l) rfl :)
def W113 (l : List Int) (h : l.length < 10000000) : Qa1 TP 82 [.sl 1 (l.map eI),.fn 83 [.pa [.fn 136 []]]] (.b (l.any fun x => !okMk x)) := by
 refine pc Zjg func82 cf82 ?_
 simp only [rc82,rs82,h143,BU2,simprocAttr]
 exact ⟨h,by rw [Qab]⟩
def K27 := K26.ext 82 (fnG e2N d2N (fun l => l.length < 10000000) (fun l => l.any fun x => !okMk x) .b)
def Zjh : GOk TP K27 := Zjg.ext call82 (Qa7 fun l h => W113 l h)
def h113 (l : List Int) : K27 82 [.sl 1 (l.map eI),.fn 83 [.pa [.fn 136 []]]] = (l.length < 10000000,.b (l.any fun x => !okMk x)) := (kx K27 82 (Zhc l) rfl :)
def e3N (l : List Int) : List V := [.sl 1 (l.map eI),.fn 136 []]
def Zoj (l : List Int) : d2N (e3N l) = l := by simp [d2N,e3N,Function.comp_def,Qas]
def W136 (l : List Int) (h : l.length < 10000000) : Qa1 TP 51 [.sl 1 (l.map eI),.fn 136 []] (.b (l.all okMk)) := by
 refine pc Zjh func51 cf51 ?_
 have e : (!(l.any fun x => !okMk x)) = l.all okMk := by rw [Ql]; simp
 simp only [rc51,rs51,h113,h,e,BU2,simprocAttr]
def K28 := K27.ext 51 (fnG e3N d2N (fun l => l.length < 10000000) (fun l => l.all okMk) .b)
def Zji : GOk TP K28 := Zjh.ext call51 (Qa7 fun l h => W136 l h)
def h136 (l : List Int) : K28 51 [.sl 1 (l.map eI),.fn 136 []] = (l.length < 10000000,.b (l.all okMk)) := (kx K28 51 (Zoj l) rfl :)
def Qkx (n : Int)  := lft K28 (h133 n) rfl
def Zco (s : Span)  := lft K28 (h134 s) rfl
def Quq (l : List Int)  := lft K28 (h137 l) rfl
def W135 (t : Slot) : Qa1 TP 138 [.ag (eSlot t)] (.b (okSlot t)) := by
 refine pc Zji func138 Zni ?_
 have g := Zco t.len
 simp only [eSpan] at g
 have hE : okSlot t = (t.secs.all okMk && Qa3 t.kind 0 9 && decide ((t.secs.length : Int) ≤ 4) && ascB t.secs && Qgf t.len) := rfl
 generalize okSlot t = res at hE
 cases e1 : Qa3 t.kind 0 9 with
 | false => simp only [rc138,rs138,Qkx,e1,BL,simprocAttr]; simp [hE,e1]
 | true =>
 by_cases e2 : (t.secs.length : Int) ≤ 4
 rotate_left
 ·simp only [rc138,rs138,Qkx,e1,e2,BL,simprocAttr]; simp [hE,e2]
 have hl : t.secs.length < 10000000 ∧ t.secs.length ≤ 1000000 := by omega
 cases e3 : t.secs.all okMk with
 | false => simp only [rc138,rs138,Qkx,e1,e2,h136,hl,e3,BL,simprocAttr]; simp [hE,e3]
 | true =>
 cases e4 : ascB t.secs with
 | false => simp only [rc138,rs138,Qkx,e1,e2,h136,hl,e3,Quq,e4,BL,simprocAttr]; simp [hE,e4]
 | true =>
  simp only [rc138,rs138,Qkx,e1,e2,h136,hl,e3,Quq,e4,g,BL,simprocAttr]
  rw [hE,e1,e3,e4]; simp [e2]
def eP2 (s : Slot) : List V := [.ag (eSlot s)]
def dP2 : List V → Slot | [.ag s] => Qmq s | _ => Qmq []
def Zp8 (s : Slot) : dP2 (eP2 s) = s := by simp [dP2,eP2,Qja]
def K29 := K28.ext 138 (fnG eP2 dP2 (fun _ => True) okSlot .b)
def Zjj : GOk TP K29 := Zji.ext call138 (Qa7 fun s _ => W135 s)
def h135 (s : Slot) : K29 138 [.ag (eSlot s)] = (True,.b (okSlot s)) := (kx K29 138 (Zp8 s) rfl :)
def W153 (s : Slot) : Qa1 TP 163 [.ag (eSlot s),.pa [.fn 138 []]] (.b (!okSlot s)) := by
 refine pc Zjj func163 Zo2 ?_
 have g := h135 s
 simp only [eSlot] at g
 simp only [rc163,rs163,g,BL,simprocAttr]
def P160 (hG : GOk TP Γ) (l : List Slot) (f : Nat) (hf : f < 1000000) (caps : List V) (p : Slot → Bool) (C : Prop) (hC : C) (hv : caps.map (vw [] 8) = caps) (hr : Qa8 caps = false) (hl : l.length < 10000000)
  (h : ∀ x ∈ l,Γ f (V.ag (eSlot x) :: caps) = (C,.b (p x))) : Qa1 TP 173 [.sl 4 (l.map eSlot),.fn f caps] (.i (idxOf p l)) := by
 refine pc hG func173 Zo8 ?_
 simp only [rc173,rs173,BU2,simprocAttr]
 refine Qao l.length (fun i => ⟨lkp [(0,.sl 4 (l.map eSlot)),(1,.fn f caps),(7,.i l.length),(8,.i i)],[]⟩) (fun i => ∀ j x,j < i → l[j]? = some x → p x = false) ?_ ?_ ?_ ?_
 ·simp only [Qd,BU2,simprocAttr]
 ·intro j x h; omega
 ·intro i hi hc
  obtain ⟨x,hx⟩ : ∃ x,l[i]? = some x := ⟨_,Qa hi⟩
  have hlt : (i : Int) < l.length := by omega
  have h3 : inI ((i : Int) + 1) := by unfold inI; omega
  have hp := h x (Qb hx)
  try simp only [eSlot] at hp
  simp only [hx,hlt,Qe,Qc,h3,hp,hv,hr,hf,hC,BL,simprocAttr]
  refine ⟨fun e => ?_,fun e => ?_⟩
  ·rw [Qah hx e hc]
  ·exact Qbd hx e hc
 ·intro hc
  simp only [BU2,simprocAttr]
  exact (Qaa fun x hx => by
   obtain ⟨j,hj⟩ := Qf hx
   exact hc j x (by have := Qag hj; exact this) hj).symm
def e1S (x : Slot) : List V := [V.ag (eSlot x),.pa [.fn 138 []]]
def d1S : List V → Slot | [.ag s,_] => Qmq s | _ => Qmq []
def Zof (x : Slot) : d1S (e1S x) = x := by simp [d1S,e1S,Qja]
def K30 := K29.ext 163 (fnG e1S d1S (fun _ => True) (fun x => !okSlot x) .b)
def Zjk : GOk TP K30 := Zjj.ext call163 (Qa7 fun x _ => W153 x)
def h153 (x : Slot) : K30 163 [V.ag (eSlot x),.pa [.fn 138 []]] = (True,.b (!okSlot x)) := (kx K30 163 (Zof x) rfl :)
def e2S (l : List Slot) : List V := [.sl 4 (l.map eSlot),.fn 163 [.pa [.fn 138 []]]]
def d2S : List V → List Slot | [.sl _ l,_] => l.map Qmq | _ => []
def Zhe (l : List Slot) : d2S (e2S l) = l := by simp [d2S,e2S,Function.comp_def,Qja]
def K31 := K30.ext 173 (fnG e2S d2S (fun l => l.length < 10000000) (idxOf fun x => !okSlot x) .i)
def Zjl : GOk TP K31 := Zjk.ext call173 (Qa7 fun l h => P160 Zjk l 163 (by decide) [.pa [.fn 138 []]] _ True trivial rfl rfl h fun x _ => h153 x)
def h160 (l : List Slot) : K31 173 [.sl 4 (l.map eSlot),.fn 163 [.pa [.fn 138 []]]] = (l.length < 10000000,.i (idxOf (fun x => !okSlot x) l)) := (kx K31 173 (Zhe l) rfl :)
def W152 (l : List Slot) (h : l.length < 10000000) : Qa1 TP 162 [.sl 4 (l.map eSlot),.fn 163 [.pa [.fn 138 []]]] (.b (l.any fun x => !okSlot x)) := by
 refine pc Zjl func162 Zo1 ?_
 simp only [rc162,rs162,h160,BU2,simprocAttr]
 exact ⟨h,by rw [Qab]⟩
def K32 := K31.ext 162 (fnG e2S d2S (fun l => l.length < 10000000) (fun l => l.any fun x => !okSlot x) .b)
def Zjm : GOk TP K32 := Zjl.ext call162 (Qa7 fun l h => W152 l h)
def h152 (l : List Slot) : K32 162 [.sl 4 (l.map eSlot),.fn 163 [.pa [.fn 138 []]]] = (l.length < 10000000,.b (l.any fun x => !okSlot x)) := (kx K32 162 (Zhe l) rfl :)
def e3S (l : List Slot) : List V := [.sl 4 (l.map eSlot),.fn 138 []]
def Zol (l : List Slot) : d2S (e3S l) = l := by simp [d2S,e3S,Function.comp_def,Qja]
def W139 (l : List Slot) (h : l.length < 10000000) : Qa1 TP 141 [.sl 4 (l.map eSlot),.fn 138 []] (.b (l.all okSlot)) := by
 refine pc Zjm func141 Znl ?_
 have e : (!(l.any fun x => !okSlot x)) = l.all okSlot := by rw [Ql]; simp
 simp only [rc141,rs141,h152,h,e,BU2,simprocAttr]
def K33 := K32.ext 141 (fnG e3S d2S (fun l => l.length < 10000000) (fun l => l.all okSlot) .b)
def Zjn : GOk TP K33 := Zjm.ext call141 (Qa7 fun l h => W139 l h)
def h139 (l : List Slot) : K33 141 [.sl 4 (l.map eSlot),.fn 138 []] = (l.length < 10000000,.b (l.all okSlot)) := (kx K33 141 (Zol l) rfl :)
def W138 (m : List Slot) : Qa1 TP 140 [.ag (eMake m),.pa [.fn 138 []]] (.b (okMake m)) := by
 refine pc Zjn func140 Znk ?_
 unfold okMake
 by_cases e1 : (m.length : Int) ≤ 4
 ·have hl : m.length < 10000000 := by omega
  simp only [rc140,rs140,e1,h139,hl,BL,simprocAttr]
 ·simp only [rc140,rs140,e1,BL,simprocAttr]
def eP3 (m : List Slot) : List V := [.ag (eMake m),.pa [.fn 138 []]]
def dP3 : List V → List Slot | [.ag s,_] => Qqs s | _ => []
def Zp9 (s : List Slot) : dP3 (eP3 s) = s := by simp [dP3,eP3,Qj9]
def K34 := K33.ext 140 (fnG eP3 dP3 (fun _ => True) okMake .b)
def Zjo : GOk TP K34 := Zjn.ext call140 (Qa7 fun s _ => W138 s)
def h138 (m : List Slot) : K34 140 [.ag (eMake m),.pa [.fn 138 []]] = (True,.b (okMake m)) := (kx K34 140 (Zp9 m) rfl :)
def W157 (m : List Slot) : Qa1 TP 167 [.ag (eMake m),.pa [.fn 140 [.pa [.fn 138 []]]]] (.b (!okMake m)) := by
 refine pc Zjo func167 Zo6 ?_
 have g := h138 m
 simp only [eMake] at g
 simp only [rc167,rs167,g,BL,simprocAttr]
def P162 (hG : GOk TP Γ) (l : List (List Slot)) (f : Nat) (hf : f < 1000000) (caps : List V) (p : (List Slot) → Bool) (C : Prop) (hC : C) (hv : caps.map (vw [] 8) = caps) (hr : Qa8 caps = false) (hl : l.length < 10000000)
  (h : ∀ x ∈ l,Γ f (V.ag (eMake x) :: caps) = (C,.b (p x))) : Qa1 TP 175 [.sl 1 (l.map eMake),.fn f caps] (.i (idxOf p l)) := by
 refine pc hG func175 Zoa ?_
 simp only [rc175,rs175,BU2,simprocAttr]
 refine Qao l.length (fun i => ⟨lkp [(0,.sl 1 (l.map eMake)),(1,.fn f caps),(7,.i l.length),(8,.i i)],[]⟩) (fun i => ∀ j x,j < i → l[j]? = some x → p x = false) ?_ ?_ ?_ ?_
 ·simp only [Qd,BU2,simprocAttr]
 ·intro j x h; omega
 ·intro i hi hc
  obtain ⟨x,hx⟩ : ∃ x,l[i]? = some x := ⟨_,Qa hi⟩
  have hlt : (i : Int) < l.length := by omega
  have h3 : inI ((i : Int) + 1) := by unfold inI; omega
  have hp := h x (Qb hx)
  try simp only [eMake,eMake] at hp
  simp only [hx,hlt,Qe,Qc,h3,hp,hv,hr,hf,hC,BL,simprocAttr]
  refine ⟨fun e => ?_,fun e => ?_⟩
  ·rw [Qah hx e hc]
  ·exact Qbd hx e hc
 ·intro hc
  simp only [BU2,simprocAttr]
  exact (Qaa fun x hx => by
   obtain ⟨j,hj⟩ := Qf hx
   exact hc j x (by have := Qag hj; exact this) hj).symm
def e1M (x : (List Slot)) : List V := [V.ag (eMake x),.pa [.fn 140 [.pa [.fn 138 []]]]]
def d1M : List V → (List Slot) | [.ag s,_] => Qqs s | _ => []
def Zoc (x : (List Slot)) : d1M (e1M x) = x := by simp [d1M,e1M,Qj9]
def K35 := K34.ext 167 (fnG e1M d1M (fun _ => True) (fun x => !okMake x) .b)
def Zjp : GOk TP K35 := Zjo.ext call167 (Qa7 fun x _ => W157 x)
def h157 (x : (List Slot)) : K35 167 [V.ag (eMake x),.pa [.fn 140 [.pa [.fn 138 []]]]] = (True,.b (!okMake x)) := (kx K35 167 (Zoc x) rfl :)
def e2M (l : List (List Slot)) : List V := [.sl 1 (l.map eMake),.fn 167 [.pa [.fn 140 [.pa [.fn 138 []]]]]]
def d2M : List V → List (List Slot) | [.sl _ l,_] => l.map Qqs | _ => []
def Zhb (l : List (List Slot)) : d2M (e2M l) = l := by simp [d2M,e2M,Function.comp_def,Qj9]
def K36 := K35.ext 175 (fnG e2M d2M (fun l => l.length < 10000000) (idxOf fun x => !okMake x) .i)
def Zjq : GOk TP K36 := Zjp.ext call175 (Qa7 fun l h => P162 Zjp l 167 (by decide) [.pa [.fn 140 [.pa [.fn 138 []]]]] _ True trivial rfl rfl h fun x _ => h157 x)
def h162 (l : List (List Slot)) : K36 175 [.sl 1 (l.map eMake),.fn 167 [.pa [.fn 140 [.pa [.fn 138 []]]]]] = (l.length < 10000000,.i (idxOf (fun x => !okMake x) l)) := (kx K36 175 (Zhb l) rfl :)
def W156 (l : List (List Slot)) (h : l.length < 10000000) : Qa1 TP 166 [.sl 1 (l.map eMake),.fn 167 [.pa [.fn 140 [.pa [.fn 138 []]]]]] (.b (l.any fun x => !okMake x)) := by
 refine pc Zjq func166 Zo5 ?_
 simp only [rc166,rs166,h162,BU2,simprocAttr]
 exact ⟨h,by rw [Qab]⟩
def K37 := K36.ext 166 (fnG e2M d2M (fun l => l.length < 10000000) (fun l => l.any fun x => !okMake x) .b)
def Zjr : GOk TP K37 := Zjq.ext call166 (Qa7 fun l h => W156 l h)
def h156 (l : List (List Slot)) : K37 166 [.sl 1 (l.map eMake),.fn 167 [.pa [.fn 140 [.pa [.fn 138 []]]]]] = (l.length < 10000000,.b (l.any fun x => !okMake x)) := (kx K37 166 (Zhb l) rfl :)
def e3M (l : List (List Slot)) : List V := [.sl 1 (l.map eMake),.fn 140 [.pa [.fn 138 []]]]
def Zoi (l : List (List Slot)) : d2M (e3M l) = l := by simp [d2M,e3M,Function.comp_def,Qj9]
def W142 (l : List (List Slot)) (h : l.length < 10000000) : Qa1 TP 144 [.sl 1 (l.map eMake),.fn 140 [.pa [.fn 138 []]]] (.b (l.all okMake)) := by
 refine pc Zjr func144 Zno ?_
 have e : (!(l.any fun x => !okMake x)) = l.all okMake := by rw [Ql]; simp
 simp only [rc144,rs144,h156,h,e,BU2,simprocAttr]
def K38 := K37.ext 144 (fnG e3M d2M (fun l => l.length < 10000000) (fun l => l.all okMake) .b)
def Zeu : GOk TP K38 := Zjr.ext call144 (Qa7 fun l h => W142 l h)
def h142 (l : List (List Slot)) : K38 144 [.sl 1 (l.map eMake),.fn 140 [.pa [.fn 138 []]]] = (l.length < 10000000,.b (l.all okMake)) := (kx K38 144 (Zoi l) rfl :)
def Qqn (n lo hi : Int)  := lft K38 (h120 n lo hi) rfl
def W81 (w : Work) (n : Int) (hl : w.spares.length ≤ 1000000) : Qa1 TP 77 [.ag (Qai w),.i n] (.b (Qa3 n 0 (w.spares.length - 1))) := by
 refine pc Zeu func77 cf77 ?_
 have h1 : inI ((w.spares.length : Int) - 1) := by unfold inI; omega
 simp only [rc77,rs77,Qqn,h1,BL,simprocAttr]
def W82 (w : Work) (m k : Int) (hw : SmallW w) : Qa1 TP 56 [.ag (Qai w),.i m,.i k] (.b (Qay w m k)) := by
 refine pc Zeu func56 cf56 ?_
 have i0 : inI ((w.makes.length : Int) - 1) := by have := hw.makes; unfold inI; omega
 cases h : Qa3 m 0 (w.makes.length - 1) with
 | false =>
  simp only [rc56,rs56,Qqn,h,i0,BL,simprocAttr]
  unfold Qay; rw [h]; rfl
 | true =>
  obtain ⟨h1,h2,h3⟩ := Qdo h
  have h4 := hw.slots _ (Qb h3)
  have h5 : inI (((Qav w m).length : Int) - 1) := by unfold inI; omega
  simp only [rc56,rs56,Qqn,h,i0,h1,h2,h3,h5,BL,simprocAttr]
  unfold Qay; rw [h]; rfl
def K39 := (K38.ext 77 (fnG eWI dWI (fun a => a.1.spares.length ≤ 1000000) (fun a => Qa3 a.2 0 (a.1.spares.length - 1)) .b)).ext 56 (fnG eWII dWII (fun a => SmallW a.1) (fun a => Qay a.1 a.2.1 a.2.2) .b)
def Zjs : GOk TP K39 := (Zeu.ext call77 (Qa7 (e := eWI) (d := dWI) (ok := fun a => a.1.spares.length ≤ 1000000) (g := fun a => Qa3 a.2 0 (a.1.spares.length - 1)) (eb := .b) fun a h => W81 a.1 a.2 h)).ext call56 (Qa7 fun a h => W82 a.1 a.2.1 a.2.2 h)
def h81 (w : Work) (n : Int) : K39 77 [.ag (Qai w),.i n] = (w.spares.length ≤ 1000000,.b (Qa3 n 0 (w.spares.length - 1))) := (ky K39 77 (Qva (w,n)) rfl (by decide) :)
def h82 (w : Work) (m k : Int) : K39 56 [.ag (Qai w),.i m,.i k] = (SmallW w,.b (Qay w m k)) := (kx K39 56 (Qv9 (w,m,k)) rfl :)
def Zcp (n lo hi : Int)  := lft K39 (h120 n lo hi) rfl
def W140 (w : Work) (t : Trial) (hw : SmallW w) : Qa1 TP 142 [.ag (eTrial t),.pa (Qai w)] (.b (Qbl w t)) := by
 refine pc Zjs func142 Znm ?_
 have g1 := h81 w t.spare
 have g2 := h82 w t.make t.slot
 simp only [Qai] at g1 g2
 have hs := hw.spares
 unfold Qbl
 cases e1 : Qa3 t.spare 0 (w.spares.length - 1) with
 | false => simp only [rc142,rs142,g1,hs,e1,BL,simprocAttr]
 | true =>
 cases e2 : Qay w t.make t.slot with
 | false => simp only [rc142,rs142,g1,g2,hs,hw,e1,e2,BL,simprocAttr]
 | true => simp only [rc142,rs142,g1,g2,hs,hw,e1,e2,Zcp,BL,simprocAttr]
def eWT (a : Work × Trial) : List V := [.ag (eTrial a.2),.pa (Qai a.1)]
def dWT : List V → Work × Trial | [.ag t,.pa w] => (Qc0 w,Qe2 t) | _ => (Qc0 [],Qe2 [])
def Zpg (a : Work × Trial) : dWT (eWT a) = a := by obtain ⟨w,t⟩ := a; simp [dWT,eWT,Qc3,Qdl]
def K40 := K39.ext 142 (fnG eWT dWT (fun a => SmallW a.1) (fun a => Qbl a.1 a.2) .b)
def Zjt : GOk TP K40 := Zjs.ext call142 (Qa7 fun a h => W140 a.1 a.2 h)
def h140 (w : Work) (t : Trial) : K40 142 [.ag (eTrial t),.pa (Qai w)] = (SmallW w,.b (Qbl w t)) := (kx K40 142 (Zpg (w,t)) rfl :)
def W148 (w : Work) (t : Trial) (hw : SmallW w) : Qa1 TP 125 [.ag (eTrial t),.pa [.fn 142 [.pa (Qai w)]]] (.b (!Qbl w t)) := by
 refine pc Zjt func125 Zgw ?_
 have g := h140 w t
 simp only [Qai,eTrial] at g
 simp only [rc125,rs125,g,hw,BL,simprocAttr]
def eWT1 (a : Work × Trial) : List V := [.ag (eTrial a.2),.pa [.fn 142 [.pa (Qai a.1)]]]
def dWT1 : List V → Work × Trial | [.ag t,.pa [.fn _ [.pa w]]] => (Qc0 w,Qe2 t) | _ => (Qc0 [],Qe2 [])
def Zi1 (a : Work × Trial) : dWT1 (eWT1 a) = a := by obtain ⟨w,t⟩ := a; simp [dWT1,eWT1,Qc3,Qdl]
def K41 := K40.ext 125 (fnG eWT1 dWT1 (fun a => SmallW a.1) (fun a => !Qbl a.1 a.2) .b)
def Zju : GOk TP K41 := Zjt.ext call125 (Qa7 fun a h => W148 a.1 a.2 h)
def h148 (w : Work) (t : Trial) : K41 125 [.ag (eTrial t),.pa [.fn 142 [.pa (Qai w)]]] = (SmallW w,.b (!Qbl w t)) := (kx K41 125 (Zi1 (w,t)) rfl :)
def P158 (hG : GOk TP Γ) (l : List Trial) (f : Nat) (hf : f < 1000000) (caps : List V) (p : Trial → Bool) (C : Prop) (hC : C) (hv : caps.map (vw [] 8) = caps) (hr : Qa8 caps = false) (hl : l.length < 10000000)
  (h : ∀ x ∈ l,Γ f (V.ag (eTrial x) :: caps) = (C,.b (p x))) : Qa1 TP 148 [.sl 4 (l.map eTrial),.fn f caps] (.i (idxOf p l)) := by
 refine pc hG func148 Zgx ?_
 simp only [rc148,rs148,BU2,simprocAttr]
 refine Qao l.length (fun i => ⟨lkp [(0,.sl 4 (l.map eTrial)),(1,.fn f caps),(7,.i l.length),(8,.i i)],[]⟩) (fun i => ∀ j x,j < i → l[j]? = some x → p x = false) ?_ ?_ ?_ ?_
 ·simp only [Qd,BU2,simprocAttr]
 ·intro j x h; omega
 ·intro i hi hc
  obtain ⟨x,hx⟩ : ∃ x,l[i]? = some x := ⟨_,Qa hi⟩
  have hlt : (i : Int) < l.length := by omega
  have h3 : inI ((i : Int) + 1) := by unfold inI; omega
  have hp := h x (Qb hx)
  try simp only [eTrial] at hp
  simp only [hx,hlt,Qe,Qc,h3,hp,hv,hr,hf,hC,BL,simprocAttr]
  refine ⟨fun e => ?_,fun e => ?_⟩
  ·rw [Qah hx e hc]
  ·exact Qbd hx e hc
 ·intro hc
  simp only [BU2,simprocAttr]
  exact (Qaa fun x hx => by
   obtain ⟨j,hj⟩ := Qf hx
   exact hc j x (by have := Qag hj; exact this) hj).symm
def eWL (a : Work × List Trial) : List V := [.sl 4 (a.2.map eTrial),.fn 125 [.pa [.fn 142 [.pa (Qai a.1)]]]]
def dWL : List V → Work × List Trial | [.sl _ l,.fn _ [.pa [.fn _ [.pa w]]]] => (Qc0 w,l.map Qe2) | _ => (Qc0 [],[])
def Zhz (a : Work × List Trial) : dWL (eWL a) = a := by obtain ⟨w,t⟩ := a; simp [dWL,eWL,Qc3,Function.comp_def,Qdl]
def OkTL (a : Work × List Trial) : Prop := SmallW a.1 ∧ a.2.length < 10000000
def vw_W (w : Work) : ([V.pa [.fn 142 [.pa (Qai w)]]] : List V).map (vw [] 8) = [.pa [.fn 142 [.pa (Qai w)]]] := by
 simp only [Qp,Q5,Qul,Qai]
def K42 := K41.ext 148 (fnG eWL dWL OkTL (fun a => idxOf (fun x => !Qbl a.1 x) a.2) .i)
def Zjv : GOk TP K42 := Zju.ext call148 (Qa7 fun a h => P158 Zju a.2 125 (by decide) [.pa [.fn 142 [.pa (Qai a.1)]]] _ (SmallW a.1) h.1 (vw_W a.1) rfl h.2 fun x _ => h148 a.1 x)
def h158 (w : Work) (l : List Trial) : K42 148 [.sl 4 (l.map eTrial),.fn 125 [.pa [.fn 142 [.pa (Qai w)]]]] = (OkTL (w,l),.i (idxOf (fun x => !Qbl w x) l)) := (kx K42 148 (Zhz (w,l)) rfl :)
def W147 (w : Work) (l : List Trial) (h : OkTL (w,l)) : Qa1 TP 124 [.sl 4 (l.map eTrial),.fn 125 [.pa [.fn 142 [.pa (Qai w)]]]] (.b (l.any fun x => !Qbl w x)) := by
 refine pc Zjv func124 Zgv ?_
 have g := h158 w l
 simp only [Qai] at g
 simp only [rc124,rs124,g,BL,simprocAttr]
 exact ⟨h,by rw [Qab]⟩
def K43 := K42.ext 124 (fnG eWL dWL OkTL (fun a => a.2.any fun x => !Qbl a.1 x) .b)
def Zjw : GOk TP K43 := Zjv.ext call124 (Qa7 fun a h => W147 a.1 a.2 h)
def h147 (w : Work) (l : List Trial) : K43 124 [.sl 4 (l.map eTrial),.fn 125 [.pa [.fn 142 [.pa (Qai w)]]]] = (OkTL (w,l),.b (l.any fun x => !Qbl w x)) := (kx K43 124 (Zhz (w,l)) rfl :)
def W119 (w : Work) (l : List Trial) (h : OkTL (w,l)) : Qa1 TP 88 [.sl 4 (l.map eTrial),.fn 142 [.pa (Qai w)]] (.b (l.all (Qbl w))) := by
 refine pc Zjw func88 cf88 ?_
 have e : (!(l.any fun x => !Qbl w x)) = l.all (Qbl w) := by rw [Ql]; simp
 have g := h147 w l
 simp only [Qai] at g
 simp only [rc88,rs88,g,h,e,BL,simprocAttr]
def eTW (a : Work × List Trial) : List V := [.sl 4 (a.2.map eTrial),.fn 142 [.pa (Qai a.1)]]
def dTW : List V → Work × List Trial | [.sl _ l,.fn _ [.pa w]] => (Qc0 w,l.map Qe2) | _ => (Qc0 [],[])
def Zpf (a : Work × List Trial) : dTW (eTW a) = a := by obtain ⟨w,t⟩ := a; simp [dTW,eTW,Qc3,Function.comp_def,Qdl]
def K44 := K43.ext 88 (fnG eTW dTW OkTL (fun a => a.2.all (Qbl a.1)) .b)
def Zjx : GOk TP K44 := Zjw.ext call88 (Qa7 fun a h => W119 a.1 a.2 h)
def h119 (w : Work) (l : List Trial) : K44 88 [.sl 4 (l.map eTrial),.fn 142 [.pa (Qai w)]] = (OkTL (w,l),.b (l.all (Qbl w))) := (kx K44 88 (Zpf (w,l)) rfl :)
def Qhf (n lo hi : Int) := lft K44 (h120 n lo hi) rfl
def Qiz (l : List Spare) := lft K44 (h141 l) rfl
def Qnu (l : List (List Slot)) := lft K44 (h142 l) rfl
def W104 (w : Work) (hw : SmallW w) : Qa1 TP 107 [.ag (Qai w)] (.b (Qdd w)) := by
 refine pc Zjx func107 Zmw ?_
 have hE : Qdd w = (decide ((w.spares.length : Int) ≤ 10) && decide ((w.makes.length : Int) ≤ 6) && Qa3 w.cut 0 99 && decide ((w.table.length : Int) ≤ 30) && w.spares.all okSpare && w.makes.all okMake && w.table.all (Qbl w)) := rfl
 generalize Qdd w = res at hE
 have g := h119 w w.table
 simp only [Qai] at g
 by_cases a1 : (w.spares.length : Int) ≤ 10
 rotate_left
 ·simp only [rc107,rs107,Qhf,a1,BL,simprocAttr]; simp [hE,a1]
 have l1 : w.spares.length < 10000000 := by omega
 cases b1 : w.spares.all okSpare with
 | false => simp only [rc107,rs107,Qhf,a1,Qiz,l1,b1,BL,simprocAttr]; simp [hE,b1]
 | true =>
 by_cases a2 : (w.makes.length : Int) ≤ 6
 rotate_left
 ·simp only [rc107,rs107,Qhf,a1,Qiz,l1,b1,a2,BL,simprocAttr]; simp [hE,a2]
 have l2 : w.makes.length < 10000000 := by omega
 cases b2 : w.makes.all okMake with
 | false => simp only [rc107,rs107,Qhf,a1,Qiz,l1,b1,a2,Qnu,l2,b2,BL,simprocAttr]; simp [hE,b2]
 | true =>
 cases a3 : Qa3 w.cut 0 99 with
 | false => simp only [rc107,rs107,Qhf,a1,Qiz,l1,b1,a2,Qnu,l2,b2,a3,BL,simprocAttr]; simp [hE,a3]
 | true =>
 by_cases a4 : (w.table.length : Int) ≤ 30
 rotate_left
 ·simp only [rc107,rs107,Qhf,a1,Qiz,l1,b1,a2,Qnu,l2,b2,a3,a4,BL,simprocAttr]; simp [hE,a4]
 have l3 : OkTL (w,w.table) := ⟨hw,by show w.table.length < 10000000; omega⟩
 simp only [rc107,rs107,Qhf,a1,Qiz,l1,b1,a2,Qnu,l2,b2,a3,a4,g,l3,BL,simprocAttr]
 rw [hE,b1,b2,a3]; simp [a1,a2,a4]
def K45 := K44.ext 107 (fnG eW1 dW1 SmallW Qdd .b)
def Zjy : GOk TP K45 := Zjx.ext call107 (Qa7 fun a h => W104 a h)
def h104 (w : Work) : K45 107 [.ag (Qai w)] = (SmallW w,.b (Qdd w)) := (kx K45 107 (Ql7 w) rfl :)
def W122 (l : List Int) (n : Int) (hl : l.length < 10000000) : Qa1 TP 80 [.sl 1 (l.map eI),.i n] (.i (idxOf (fun x => decide (n = x)) l)) := by
 refine pc Zjy func80 cf80 ?_
 simp only [rc80,rs80,BU2,simprocAttr]
 refine Qao l.length (fun i => ⟨lkp [(0,.sl 1 (l.map eI)),(1,.i n),(7,.i l.length),(8,.i i)],[]⟩) (fun i => ∀ j x,j < i → l[j]? = some x → decide (n = x) = false) ?_ ?_ ?_ ?_
 ·simp only [Qd,BU2,simprocAttr]
 ·intro j x h; omega
 ·intro i hi hc
  obtain ⟨x,hx⟩ : ∃ x,l[i]? = some x := ⟨_,Qa hi⟩
  have hlt : (i : Int) < l.length := by omega
  have h3 : inI ((i : Int) + 1) := by unfold inI; omega
  by_cases e : n = x
  ·have q := Qah (p := fun x => decide (n = x)) hx (by simp [e]) hc
   simp only [hx,hlt,e,BL,simprocAttr]
   rw [e] at q
   rw [q]
  ·simp only [hx,hlt,Qe,Qc,h3,e,BL,simprocAttr]
   have hn := Qbd (p := fun x => decide (n = x)) hx (by simp [e]) hc
   intro j y hj hy
   simpa using hn j y hj hy
 ·intro hc
  simp only [BU2,simprocAttr]
  exact (Qaa fun x hx => by
   obtain ⟨j,hj⟩ := Qf hx
   exact hc j x (by have := Qag hj; exact this) hj).symm
def K46 := K45.ext 80 (fnG eLI dLI (fun a => a.1.length < 10000000) (fun a => idxOf (fun x => decide (a.2 = x)) a.1) .i)
def Zjz : GOk TP K46 := Zjy.ext call80 (Qa7 fun a h => W122 a.1 a.2 h)
def h122 (l : List Int) (n : Int) : K46 80 [.sl 1 (l.map eI),.i n] = (l.length < 10000000,.i (idxOf (fun x => decide (n = x)) l)) := (kx K46 80 (Qb1 (l,n)) rfl :)
def W84 (l : List Int) (n : Int) (hl : l.length < 10000000) : Qa1 TP 46 [.sl 1 (l.map eI),.i n] (.b (decide (n ∈ l))) := by
 refine pc Zjz func46 cf46 ?_
 have e : decide (0 ≤ idxOf (fun x => decide (n = x)) l) = decide (n ∈ l) := by
  rw [Qab]
  by_cases h : n ∈ l
  ·rw [decide_eq_true h]; exact Qo.2 ⟨n,h,by simp⟩
  ·rw [decide_eq_false h,Qw]
   intro x hx hd
   simp only [decide_eq_true_eq] at hd
   exact h (hd ▸ hx)
 simp only [rc46,rs46,h122,hl,e,BU2,simprocAttr]
def K47 := K46.ext 46 (fnG eLI dLI (fun a => a.1.length < 10000000) (fun a => decide (a.2 ∈ a.1)) .b)
def Qz3 : GOk TP K47 := Zjz.ext call46 (Qa7 fun a h => W84 a.1 a.2 h)
def h84 (l : List Int) (n : Int) : K47 46 [.sl 1 (l.map eI),.i n] = (l.length < 10000000,.b (decide (n ∈ l))) := (kx K47 46 (Qb1 (l,n)) rfl :)
def Qus (n lo hi : Int) := lft K47 (h120 n lo hi) rfl
def W118 (w : Work) (i n m k : Int) (h : OkF w i m k) : Qa1 TP 87 [.ag (Qai w),.i i,.i n,.i m,.i k] (.b (Qcn w i n m k)) := by
 refine pc Qz3 func87 cf87 ?_
 obtain ⟨hw,k7,hsl⟩ := h
 have hs := Qf2 k7
 obtain ⟨yC,uT,kY,vV⟩ := Qt7 hsl
 have hS := hw.spare _ (Qb hs)
 have hT := Qpz ((hw.make _ (Qb uT)).2 _ (Qb vV))
 have hc := hw.cut
 have hl : (Qfu w m k).secs.length < 10000000 := by omega
 have hi : inI ((Qfu w m k).len.high + w.cut) := by unfold inI; omega
 unfold Qcn
 generalize Qbn w i = s at *
 generalize Qfu w m k = t at *
 generalize Qav w m = mk at *
 by_cases e1 : s.kind = t.kind
 ·by_cases e2 : s.sect ∈ t.secs
  ·simp only [rc87,rs87,hs,k7,yC,uT,kY,vV,e1,h84,hl,e2,Qus,hi,BL,simprocAttr]
  ·simp only [rc87,rs87,hs,k7,yC,uT,kY,vV,e1,h84,hl,e2,Qus,hi,BL,simprocAttr]
 ·simp only [rc87,rs87,hs,k7,yC,uT,kY,vV,e1,BL,simprocAttr]
def Qk4 (some many : Int) : Int := if some = many then 1 else if some = 0 then 2 else 3
def W121 (a b : Int) : Qa1 TP 89 [.i a,.i b] (.i (Qk4 a b)) := by
 refine pc Qz3 func89 cf89 ?_
 unfold Qk4
 by_cases e1 : a = b
 ·simp only [rc89,rs89,e1,BU2,simprocAttr]
 by_cases e2 : a = 0
 ·simp only [rc89,rs89,e2,BU2,simprocAttr]
  simp_all
 ·simp only [rc89,rs89,e1,e2,BU2,simprocAttr]
def W66 (n lo hi : Int) : Qa1 TP 79 [.i n,.i lo,.i hi] (.b (Qa3 n lo hi)) := by
 refine pc Qz3 func79 cf79 ?_
 simp only [rc79,rs79,BU2,simprocAttr]
 by_cases h : lo ≤ n <;> simp [h,Qa3]
def sKn : List V → Prop × V | [.i a,.i b] => (True,.i (Qk4 a b)) | _ => (False,.u)
def Zlj (vs : List V) (h : (sKn vs).1) : Qa1 TP 89 vs (sKn vs).2 := by
 unfold sKn at h ⊢
 split at h
 ·exact W121 _ _
 ·exact h.elim
def K48 := ((K47.ext 87 (fnG eWF dWF (fun a => OkF a.1 a.2.1 a.2.2.2.1 a.2.2.2.2) (fun a => Qcn a.1 a.2.1 a.2.2.1 a.2.2.2.1 a.2.2.2.2) .b)).ext 89 sKn).ext 79 sWi
def Qwr : GOk TP K48 := ((Qz3.ext call87 (Qa7 (e := eWF) (d := dWF) (ok := fun a => OkF a.1 a.2.1 a.2.2.2.1 a.2.2.2.2) (g := fun a => Qcn a.1 a.2.1 a.2.2.1 a.2.2.2.1 a.2.2.2.2) (eb := .b) fun a h => W118 a.1 a.2.1 a.2.2.1 a.2.2.2.1 a.2.2.2.2 h)).ext (f := 89) (r := sKn) (fun a w => call89 a w) Zlj).ext (f := 79) (r := sWi) (fun a w => call79 a w) (Qt5 W66)
def h118 (w : Work) (i n m k : Int) : K48 87 [.ag (Qai w),.i i,.i n,.i m,.i k] = (OkF w i m k,.b (Qcn w i n m k)) := (show K48 87 _ = fnG eWF dWF (fun a => OkF a.1 a.2.1 a.2.2.2.1 a.2.2.2.2) (fun a => Qcn a.1 a.2.1 a.2.2.1 a.2.2.2.1 a.2.2.2.2) .b (eWF (w,i,n,m,k)) from rfl).trans (Qap _ (Zhy _))
def h66 (n lo hi : Int) : K48 79 [.i n,.i lo,.i hi] = (True,.b (Qa3 n lo hi)) := rfl
def Qp6 (l : List Int) (n : Int) := lft K48 (h84 l n) rfl
def W106 (n : Int) : Qa1 TP 109 [.i n] (.b (Qa3 n 0 99)) := by
 refine pc Qwr func109 Zmy ?_
 simp only [rc109,rs109,h66,BU2,simprocAttr]
def W110 (n : Int) : Qa1 TP 113 [.i n] (.b (Qa3 n 0 99)) := by
 refine pc Qwr func113 Zn2 ?_
 simp only [rc113,rs113,h66,BU2,simprocAttr]
def W39 (s : Shop) (n : Int) (hl : s.wishes.length ≤ 1000000) : Qa1 TP 49 [.ag (Qat s),.i n] (.b (Qa3 n 0 (s.wishes.length - 1))) := by
 refine pc Qwr func49 cf49 ?_
 have h1 : inI ((s.wishes.length : Int) - 1) := by unfold inI; omega
 simp only [rc49,rs49,h66,h1,BL,simprocAttr]
def Qcf (x : Wish) (p : Piece) : Int := if p.color ∈ x.colors ∧ Qa3 p.size x.size.low x.size.high = true then (if p.letter = x.letter then 1 else if p.letter = 0 then 2 else 0) else 0
def W63 (x : Wish) (p : Piece) (hl : x.colors.length < 10000000) : Qa1 TP 50 [.ag (eWish x),.ag (ePiece p)] (.i (Qcf x p)) := by
 refine pc Qwr func50 cf50 ?_
 unfold Qcf
 by_cases e1 : p.color ∈ x.colors
 rotate_left
 ·simp only [rc50,rs50,Qp6,hl,e1,BL,simprocAttr]
 cases e2 : Qa3 p.size x.size.low x.size.high with
 | false => simp only [rc50,rs50,Qp6,hl,e1,h66,e2,BL,simprocAttr]
 | true =>
 by_cases e3 : p.letter = x.letter
 ·simp only [rc50,rs50,Qp6,hl,e1,h66,e2,e3,BL,simprocAttr]
 by_cases e4 : p.letter = 0
 ·have e5 : ¬ (0 : Int) = x.letter := fun e => e3 (e4.trans e)
  simp only [rc50,rs50,Qp6,hl,e1,h66,e2,e4,e5,BL,simprocAttr]
 ·simp only [rc50,rs50,Qp6,hl,e1,h66,e2,e3,e4,BL,simprocAttr]
def P107 (hG : GOk TP Γ) (l : List Int) (m : Int) (f : Nat) (hf : f < 1000000) (caps : List V) (C : Prop) (hC : C) (hv : caps.map (vw [] 8) = caps) (hr : Qa8 caps = false) (hl : l.length < 10000000)
  (h : ∀ x : Int,Γ f (V.i x :: caps) = (C,.b (Qa3 x 0 m))) : Qa1 TP 110 [.sl 1 (l.map eI),.fn f caps] (.b (risB l m)) := by
 refine pc hG func110 Zmz ?_
 simp only [rc110,rs110,BU2,simprocAttr]
 refine Qao l.length (fun k => ⟨lkp [(0,.sl 1 (l.map eI)),(1,.fn f caps),(7,.sl 1 (l.map eI)),(8,.i l.length),(9,.i k)],[]⟩) (fun k => (∀ j x,j < k → l[j]? = some x → Qa3 x 0 m = true) ∧ ∀ j x y,j + 1 < k → l[j]? = some x → l[j + 1]? = some y → x < y) ?_ ?_ ?_ ?_
 ·simp only [Qd,BU2,simprocAttr]
 ·exact ⟨fun j x h => by omega,fun j x y h => by omega⟩
 ·rintro k hk ⟨hc,hd⟩
  obtain ⟨x,hx⟩ : ∃ x,l[k]? = some x := ⟨_,Qa hk⟩
  have hlt : (k : Int) < l.length := by omega
  have h4 : inI ((k : Int) + 1) := by unfold inI; omega
  have jX : Qa3 x 0 m = false → risB l m = false := fun e => by unfold risB; rw [Qen hx e]; rfl
  have hp := h x
  cases hin : Qa3 x 0 m with
  | false =>
   have q := jX hin
   simp only [hx,hlt,hp,hC,hin,hf,hv,hr,q,BL,simprocAttr]
  | true =>
  cases k with
  | zero =>
   have hz : (0 : Int) < l.length := by omega
   have h5 : inI 1 := by unfold inI; omega
   simp only [hx,hz,hp,hC,hin,hf,hv,hr,h5,Qc,Qd,BL,simprocAttr]
   exact ⟨Qbw hx hin hc,fun j x y h => by omega⟩
  | succ k =>
   obtain ⟨y,hy⟩ : ∃ y,l[k]? = some y := ⟨_,Qa (by omega)⟩
   have i1 : (0 : Int) < ((k + 1 : Nat) : Int) := by omega
   have i2 : ((k + 1 : Nat) : Int) - 1 = (k : Int) := by omega
   have i3 : inI (k : Int) ∧ (k : Int) < l.length := by unfold inI; omega
   have i4 : ((k + 1 : Nat) : Int) + 1 = ((k + 1 + 1 : Nat) : Int) := by omega
   rw [i4] at h4
   by_cases e3 : x ≤ y
   ·have q : risB l m = false := by
     cases h : risB l m with
     | false => rfl
     | true =>
      unfold risB at h
      rw [Qi] at h
      have := (Qdk l).1 h.2 k y x hy hx
      omega
    simp only [hx,hy,hlt,hp,hC,hin,hf,hv,hr,i1,i2,i3,e3,q,BL,simprocAttr]
   ·simp only [hx,hy,hlt,hp,hC,hin,hf,hv,hr,i1,i2,i3,e3,i4,h4,BL,simprocAttr]
    refine ⟨Qbw hx hin hc,fun j a b hj ha hb => ?_⟩
    by_cases u6 : j + 1 < k + 1
    ·exact hd j a b u6 ha hb
    ·have : j = k := by omega
     subst this
     rw [hy] at ha; rw [hx] at hb; cases ha; cases hb; omega
 ·rintro ⟨hc,hd⟩
  have q : risB l m = true := by
   unfold risB
   rw [Qde hc,Qn]
   exact (Qdk l).2 fun j x y hx hy => hd j x y (Qag hy) hx hy
  simp only [q,BU2,simprocAttr]
def s99 : List V → Prop × V | [.i n] => (True,.b (Qa3 n 0 99)) | _ => (False,.u)
def Zca {f : Nat} (hf : ∀ n : Int,Qa1 TP f [.i n] (.b (Qa3 n 0 99))) (vs : List V) (h : (s99 vs).1) : Qa1 TP f vs (s99 vs).2 := by
 unfold s99 at h ⊢
 split at h
 ·exact hf _
 ·exact h.elim
def eXP (a : Wish × Piece) : List V := [.ag (eWish a.1),.ag (ePiece a.2)]
def dXP : List V → Wish × Piece | [.ag s,.ag n] => (Qpa s,Qep n) | _ => (Qpa [],Qep [])
def Zpi (a : Wish × Piece) : dXP (eXP a) = a := by obtain ⟨w,n⟩ := a; simp [dXP,eXP,Qo1,Qf7]
def eHI (a : Shop × Int) : List V := [.ag (Qat a.1),.i a.2]
def dHI : List V → Shop × Int | [.ag s,.i n] => (Qh0 s,n) | _ => (Qh0 [],0)
def Zho (a : Shop × Int) : dHI (eHI a) = a := by obtain ⟨w,n⟩ := a; simp [dHI,eHI,Qhj]
def K49 := (((K48.ext 109 s99).ext 113 s99).ext 49 (fnG eHI dHI (fun a => a.1.wishes.length ≤ 1000000) (fun a => Qa3 a.2 0 (a.1.wishes.length - 1)) .b)).ext 50 (fnG eXP dXP (fun a => a.1.colors.length < 10000000) (fun a => Qcf a.1 a.2) .i)
def Qz4 : GOk TP K49 := by
 have k1 := Qwr.ext (f := 109) (r := s99) (fun a w => call109 a w) (Zca W106)
 have k2 := k1.ext (f := 113) (r := s99) (fun a w => call113 a w) (Zca W110)
 have k3 := k2.ext call49 (Qa7 (e := eHI) (d := dHI) (ok := fun a => a.1.wishes.length ≤ 1000000) (g := fun a => Qa3 a.2 0 (a.1.wishes.length - 1)) (eb := .b) fun a h => W39 a.1 a.2 h)
 exact k3.ext call50 (Qa7 (e := eXP) (d := dXP) (ok := fun a => a.1.colors.length < 10000000) (g := fun a => Qcf a.1 a.2) (eb := .i) fun a h => W63 a.1 a.2 h)
def h106 (n : Int) : K49 109 [.i n] = (True,.b (Qa3 n 0 99)) := rfl
def h110 (n : Int) : K49 113 [.i n] = (True,.b (Qa3 n 0 99)) := rfl
def h39 (s : Shop) (n : Int) : K49 49 [.ag (Qat s),.i n] = (s.wishes.length ≤ 1000000,.b (Qa3 n 0 (s.wishes.length - 1))) := (show K49 49 _ = fnG eHI dHI (fun a => a.1.wishes.length ≤ 1000000) (fun a => Qa3 a.2 0 (a.1.wishes.length - 1)) .b (eHI (s,n)) from rfl).trans (Qap _ (Zho _))
def h63 (x : Wish) (p : Piece) : K49 50 [.ag (eWish x),.ag (ePiece p)] = (x.colors.length < 10000000,.i (Qcf x p)) := (kx K49 50 (Zpi (x,p)) rfl :)
def Qro (n lo hi : Int)  := lft K49 (h66 n lo hi) rfl
def W112 (n : Int) : Qa1 TP 115 [.i n] (.b (!Qa3 n 0 10)) := by
 refine pc Qz4 func115 Zn4 ?_
 simp only [rc115,rs115,Qro,BU2,simprocAttr]
def W111 (s : Shop) (d : Del) (hl : s.work.spares.length ≤ 1000000) : Qa1 TP 114 [.ag (eDel d),.pa (Qai s.work)] (.b (!Qge s d)) := by
 refine pc Qz4 func114 Zn3 ?_
 have i1 : inI ((s.work.spares.length : Int) - 1) := by unfold inI; omega
 unfold Qge
 cases e1 : Qa3 d.day 0 99 with
 | false => simp only [rc114,rs114,h110,e1,BL,simprocAttr]
 | true =>
 cases e2 : Qa3 d.spare 0 (s.work.spares.length - 1) with
 | false => simp only [rc114,rs114,h110,e1,Qro,i1,e2,BL,simprocAttr]
 | true => simp only [rc114,rs114,h110,e1,Qro,i1,e2,BL,simprocAttr]
def OkWP (w : Work) (p : Piece) : Prop := SmallW w ∧ Qa3 p.make 0 (w.makes.length - 1) = true
def W108 (w : Work) (p : Piece) (n : Int) (h : OkWP w p) : Qa1 TP 111 [.i n,.pa (Qai w),.pa (ePiece p)] (.b (Qa3 n 0 ((Qav w p.make).length - 1))) := by
 refine pc Qz4 func111 Zn0 ?_
 obtain ⟨hw,hm⟩ := h
 obtain ⟨h1,h2,h3⟩ := Qdo hm
 have h4 := hw.slots _ (Qb h3)
 have h5 : inI (((Qav w p.make).length : Int) - 1) := by unfold inI; omega
 simp only [rc111,rs111,Qro,h1,h2,h3,h5,BL,simprocAttr]
def eNP (a : Int × Work × Piece) : List V := [.i a.1,.pa (Qai a.2.1),.pa (ePiece a.2.2)]
def dNP : List V → Int × Work × Piece | [.i n,.pa w,.pa p] => (n,Qc0 w,Qep p) | _ => (0,Qc0 [],Qep [])
def Zp6 (a : Int × Work × Piece) : dNP (eNP a) = a := by obtain ⟨n,w,p⟩ := a; simp [dNP,eNP,Qc3,Qf7]
def K50 := K49.ext 111 (fnG eNP dNP (fun a => OkWP a.2.1 a.2.2) (fun a => Qa3 a.1 0 ((Qav a.2.1 a.2.2.make).length - 1)) .b)
def Zev : GOk TP K50 := Qz4.ext call111 (Qa7 fun a h => W108 a.2.1 a.2.2 a.1 h)
def h108 (w : Work) (p : Piece) (n : Int) : K50 111 [.i n,.pa (Qai w),.pa (ePiece p)] = (OkWP w p,.b (Qa3 n 0 ((Qav w p.make).length - 1))) := (kx K50 111 (Zp6 (n,w,p)) rfl :)
def Zcq (n : Int) := lft K50 (h106 n) rfl
def eR (a : List Int × Option (Work × Piece)) : List V := [.sl 1 (a.1.map eI),match a.2 with | none => .fn 109 [] | some (w,p) => .fn 111 [.pa (Qai w),.pa (ePiece p)]]
def dR : List V → List Int × Option (Work × Piece)
 | [.sl _ l,.fn _ [.pa w,.pa p]] => (l.map dI,some (Qc0 w,Qep p))
 | [.sl _ l,_] => (l.map dI,none)
 | _ => ([],none)
def dR_e (a : List Int × Option (Work × Piece)) : dR (eR a) = a := by
 obtain ⟨l,o⟩ := a
 cases o with
 | none => simp [dR,eR,Function.comp_def,Qas]
 | some q => obtain ⟨w,p⟩ := q; simp [dR,eR,Function.comp_def,Qas,Qc3,Qf7]
def Zix (a : List Int × Option (Work × Piece)) : Int := match a.2 with | none => 99 | some (w,p) => (Qav w p.make).length - 1
def OkR (a : List Int × Option (Work × Piece)) : Prop := a.1.length < 10000000 ∧ match a.2 with | none => True | some (w,p) => OkWP w p
def Zqe (w : Work) (p : Piece) : ([.pa (Qai w),.pa (ePiece p)] : List V).map (vw [] 8) = [.pa (Qai w),.pa (ePiece p)] := by
 simp only [Qp,Q5,Qul,Qai,ePiece]
def W107 (a : List Int × Option (Work × Piece)) (h : OkR a) : Qa1 TP 110 (eR a) (.b (risB a.1 (Zix a))) := by
 obtain ⟨l,o⟩ := a
 cases o with
 | none => exact P107 Zev l 99 109 (by decide) [] True trivial rfl rfl h.1 Zcq
 | some q =>
  obtain ⟨w,p⟩ := q
  exact P107 Zev l _ 111 (by decide) [.pa (Qai w),.pa (ePiece p)] (OkWP w p) h.2 (Zqe w p) rfl h.1 fun x => h108 w p x
def K51 := K50.ext 110 (fnG eR dR OkR (fun a => risB a.1 (Zix a)) .b)
def Qz5 : GOk TP K51 := Zev.ext call110 (Qa7 fun a h => W107 a h)
def h107 (l : List Int) : K51 110 [.sl 1 (l.map eI),.fn 109 []] = (OkR (l,none),.b (risB l 99)) := (kx K51 110 (dR_e (l,none)) rfl :)
def Zpk (l : List Int) (w : Work) (p : Piece) : K51 110 [.sl 1 (l.map eI),.fn 111 [.pa (Qai w),.pa (ePiece p)]] = (OkR (l,some (w,p)),.b (risB l ((Qav w p.make).length - 1))) := (kx K51 110 (dR_e (l,some (w,p))) rfl :)
def Qh7 (n lo hi : Int) := lft K51 (h66 n lo hi) rfl
def Qdz (n : Int) := lft K51 (h106 n) rfl
def Qut (n : Int) := lft K51 (h110 n) rfl
def W105 (s : Shop) (p : Piece) (h : OkP s p) : Qa1 TP 108 [.ag (ePiece p),.pa (Qai s.work)] (.b (!Qc7 s p)) := by
 refine pc Qz5 func108 Zmx ?_
 obtain ⟨hw,hb⟩ := h
 have hm := hw.makes
 have i1 : inI ((s.work.makes.length : Int) - 1) := by unfold inI; omega
 have g := Zpk p.broken s.work p
 simp only [Qai,ePiece] at g
 unfold Qc7
 cases e1 : Qa3 p.color 0 99 with
 | false => simp only [rc108,rs108,Qdz,e1,BL,simprocAttr]
 | true =>
 cases e2 : Qa3 p.size 0 99 with
 | false => simp only [rc108,rs108,Qdz,e1,e2,BL,simprocAttr]
 | true =>
 cases e3 : Qa3 p.letter 0 99 with
 | false => simp only [rc108,rs108,Qdz,e1,e2,e3,BL,simprocAttr]
 | true =>
 cases e4 : Qa3 p.make 0 (s.work.makes.length - 1) with
 | false => simp only [rc108,rs108,Qdz,e1,e2,e3,Qh7,e4,i1,BL,simprocAttr]
 | true =>
  have hR : OkR (p.broken,some (s.work,p)) := ⟨by show p.broken.length < 10000000; omega,hw,e4⟩
  simp only [rc108,rs108,Qdz,e1,e2,e3,Qh7,e4,i1,g,hR,BL,simprocAttr]
def W109 (x : Wish) : Qa1 TP 112 [.ag (eWish x)] (.b (!okWish x)) := by
 refine pc Qz5 func112 Zn1 ?_
 have g := h107 x.colors
 unfold okWish
 cases e1 : Qa3 x.colors.length 1 8 with
 | false => simp only [rc112,rs112,Qh7,e1,BL,simprocAttr]
 | true =>
 have hl : OkR (x.colors,none) := ⟨by have := (Qak.1 e1).2; show x.colors.length < 10000000; omega,trivial⟩
 cases e2 : risB x.colors 99 with
 | false => simp only [rc112,rs112,Qh7,e1,g,hl,e2,BL,simprocAttr]
 | true =>
 cases m1 : Qa3 x.size.low 0 99 with
 | false =>
  simp only [rc112,rs112,Qh7,Qdz,e1,g,hl,e2,m1,BL,simprocAttr]
  simp only [Qa3,Q8,decide_eq_false_iff_not] at m1
  by_cases a : 0 ≤ x.size.low
  ·by_cases b : x.size.low ≤ x.size.high
   ·have c : ¬ x.size.high ≤ 99 := by omega
    simp [c]
   ·simp [b]
  ·simp [a]
 | true =>
 have a1 := (Qak.1 m1).1
 have a2 := (Qak.1 m1).2
 cases m2 : Qa3 x.size.high 0 99 with
 | false =>
  simp only [rc112,rs112,Qh7,Qdz,e1,g,hl,e2,m1,m2,BL,simprocAttr]
  simp only [Qa3,Q8,decide_eq_false_iff_not] at m2
  by_cases b : x.size.low ≤ x.size.high
  ·have c : ¬ x.size.high ≤ 99 := by omega
   simp [c]
  ·simp [b]
 | true =>
 have a3 := (Qak.1 m2).2
 by_cases e4 : x.size.high < x.size.low
 ·have b : ¬ x.size.low ≤ x.size.high := by omega
  simp only [rc112,rs112,Qh7,Qdz,e1,g,hl,e2,m1,m2,e4,BL,simprocAttr]
  simp [b]
 have b : x.size.low ≤ x.size.high := by omega
 cases e6 : Qa3 x.letter 0 99 with
 | false => simp only [rc112,rs112,Qh7,Qdz,e1,g,hl,e2,m1,m2,e4,e6,BL,simprocAttr]
 | true =>
 cases e7 : Qa3 x.due 0 99 with
 | false => simp only [rc112,rs112,Qh7,Qdz,Qut,e1,g,hl,e2,m1,m2,e4,e6,e7,BL,simprocAttr]
 | true =>
  simp only [rc112,rs112,Qh7,Qdz,Qut,e1,g,hl,e2,m1,m2,e4,e6,e7,BL,simprocAttr]
  simp [a1,a3,b]
def Zds : Qar TP 196 3 := Qar.of (fs := _) (show TP.underlying 196 = some (.struct (TP.fieldsOf 196)) by kernel_rfl) (by kernel_rfl) (by kernel_rfl)
def keyT (a : Trial) : List Int := [a.spare,a.make,a.slot]
def knM (l : List Trial) : AM Int := l.foldl (fun m a => aput m (keyT a) a.fits) []
def Qic (l : List Trial) (a : Trial) : knM (l ++ [a]) = aput (knM l) (keyT a) a.fits := by simp [knM]
def Qw9 (l : List Trial) : (aks (knM l)).Nodup := Qb0 (p := fun l => (aks (knM l)).Nodup) (by simp [knM,aks]) (fun l a h => by rw [Qic]; exact Qfx h _ _) l
def Zeb (l : List Trial) : ∀ k ∈ aks (knM l),k.length = 3 := by
 refine Qb0 (p := fun l => ∀ k ∈ aks (knM l),k.length = 3) (by simp [knM,aks]) (fun l a h k hk => ?_) l
 rw [Qic,Qeh,Qkt] at hk
 rcases hk with hk | rfl
 ·exact h k hk
 ·rfl
def Qsf (l : List Trial) : ∀ k n,aget (knM l) k = some n → ∃ a,a ∈ l ∧ keyT a = k ∧ a.fits = n := by
 refine Qb0 (p := fun l => ∀ k n,aget (knM l) k = some n → ∃ a,a ∈ l ∧ keyT a = k ∧ a.fits = n) (fun k n h => by simp [knM,aget] at h) (fun l a ih k n h => ?_) l
 rw [Qic,Qkj] at h
 by_cases e : k = keyT a
 ·rw [if_pos e] at h; cases h
  exact ⟨a,by simp,e.symm,rfl⟩
 ·rw [if_neg e] at h
  obtain ⟨b,hb,h1⟩ := ih k n h
  exact ⟨b,by simp [hb],h1⟩
def Ziu (l : List Trial) : ∀ a ∈ l,∃ n,aget (knM l) (keyT a) = some n := by
 refine Qb0 (p := fun l => ∀ a ∈ l,∃ n,aget (knM l) (keyT a) = some n) (fun a h => by cases h) (fun l b ih a h => ?_) l
 rw [Qic,Qkj]
 by_cases e : keyT a = keyT b
 ·exact ⟨b.fits,if_pos e⟩
 ·rw [if_neg e]
  refine ih a ?_
  rcases List.mem_append.1 h with h | h
  ·exact h
  ·simp at h; exact absurd (by rw [h]) e
def Qhz {a b : Trial} : Qdu a b = true ↔ keyT a = keyT b ∧ a.fits ≠ b.fits := by
 simp [Qdu,keyT,and_assoc]
def NoC (t : List Trial) (i : Nat) : Prop := ∀ k j a b,k < j → j < i → t[k]? = some a → t[j]? = some b → Qdu a b = false
def Zeq {t : List Trial} {i : Nat} (h : NoC t i) {a : Trial} (ha : a ∈ t.take i) : aget (knM (t.take i)) (keyT a) = some a.fits := by
 obtain ⟨n,hn⟩ := Ziu _ a ha
 obtain ⟨b,hb,h1,h2⟩ := Qsf _ _ _ hn
 rw [hn]
 congr 1
 rw [← h2]
 apply Classical.byContradiction
 intro j7
 obtain ⟨p,hp⟩ := Qf ha
 obtain ⟨q,hq⟩ := Qf hb
 have xL := Qag hp
 have pD := Qag hq
 rw [Qq] at xL pD
 rw [Qs,if_pos (by omega)] at hp hq
 rcases Nat.lt_trichotomy p q with h3 | h3 | h3
 ·have := h p q a b h3 (by omega) hp hq
  rw [Qhz.2 ⟨h1.symm,fun e => j7 e.symm⟩] at this; cases this
 ·subst h3; rw [hp] at hq; cases hq; exact j7 rfl
 ·have := h q p b a h3 (by omega) hq hp
  rw [Qhz.2 ⟨h1,j7⟩] at this; cases this
def Qyy {t : List Trial} {i : Nat} (h : NoC t i) {b : Trial} (hb : t[i]? = some b) (h1 : ∀ n,aget (knM (t.take i)) (keyT b) = some n → n = b.fits) : NoC t (i + 1) := by
 intro k j x y fF hj hx hy
 by_cases xE : j < i
 ·exact h k j x y fF xE hx hy
 have : j = i := by omega
 subst this
 rw [hb] at hy; cases hy
 cases hc : Qdu x b with
 | false => rfl
 | true =>
  obtain ⟨h2,h3⟩ := Qhz.1 hc
  have hm : x ∈ t.take j := Qb (i := k) (by rw [Qs,if_pos fF]; exact hx)
  have := Zeq h hm
  rw [h2] at this
  exact absurd (h1 _ this) h3
def Qwl {t : List Trial} {i : Nat} {b : Trial} (hb : t[i]? = some b) {n : Int} (hn : aget (knM (t.take i)) (keyT b) = some n) (h1 : n ≠ b.fits) : conB t = true := by
 obtain ⟨a,ha,h2,h3⟩ := Qsf _ _ _ hn
 obtain ⟨p,hp⟩ := Qf ha
 have xL := Qag hp
 rw [Qq] at xL
 rw [Qs,if_pos (by omega)] at hp
 exact Qkk.2 ⟨p,i,a,b,by omega,hp,hb,Qhz.2 ⟨h2,by rw [h3]; exact h1⟩⟩
def Zep {t : List Trial} (h : NoC t t.length) : conB t = false := by
 cases e : conB t with
 | false => rfl
 | true =>
  obtain ⟨k,i,a,b,zW,ha,hb,e⟩ := Qkk.1 e
  rw [h k i a b zW (Qag hb) ha hb] at e; cases e
def Zcr (w : Work)  := lft K51 (h104 w) rfl
def W78 (w : Work) (hw : SmallW w) : Qa1 TP 75 [.ag (Qai w)] (.i (Qco w)) := by
 refine pc Qz5 func75 cf75 ?_
 have g := Zcr w
 unfold Qai at g
 cases h0 : Qdd w with
 | false => simp only [rc75,rs75,g,hw,h0,BL,simprocAttr]; simp [Qco,h0]
 | true =>
 have hl := Qqf h0
 have hE : Qco w = if conB w.table = true then 71 else 0 := by unfold Qco; rw [h0]; rfl
 simp only [rc75,rs75,g,hw,h0,BL,simprocAttr]
 refine Qao w.table.length (fun i => ⟨lkp [(3,.mp 0 0),(14,.sl 4 (w.table.map eTrial)),(15,.i w.table.length),(16,.i i)],[.map true (aks (knM (w.table.take i))) (avs .i (knM (w.table.take i)))]⟩) (NoC w.table) ?_ ?_ ?_ ?_
 ·simp only [Qd,knM,aks,avs,BU2,simprocAttr]
 ·intro k j a b _ h; omega
 ·intro i hi hc
  obtain ⟨b,hb⟩ : ∃ b,w.table[i]? = some b := ⟨_,Qa hi⟩
  have hlt : (i : Int) < w.table.length := by omega
  have h4 : inI ((i : Int) + 1) := by unfold inI; omega
  have yM : Qa8 (avs V.i (knM (w.table.take i))) = false := Qgc (fun _ => rfl) _
  have zA : Qa8 (avs V.i (knM (w.table.take (i + 1)))) = false := Qgc (fun _ => rfl) _
  have hk3 := Zeb (w.table.take i)
  have xG := Qa4 hb
  have hnd := Qw9 (w.table.take i)
  have jN := fun h1 => Qyy hc hb h1
  have hcl := fun n h h1 => Qwl (n := n) hb h h1
  have kC : Blk.map true (putK (aks (knM (w.table.take i))) [b.spare,b.make,b.slot]) (Qfv (aks (knM (w.table.take i))) (avs V.i (knM (w.table.take i))) [b.spare,b.make,b.slot] (.i b.fits)) = .map true (aks (knM (w.table.take (i + 1)))) (avs .i (knM (w.table.take (i + 1)))) := by
   rw [xG,Qic,Qeh,← Ql1 hnd]; rfl
  have jO := Qj0 V.i (knM (w.table.take i)) [b.spare,b.make,b.slot]
  have kR : ([b.spare,b.make,b.slot] ∈ aks (knM (w.table.take i))) ↔ (aget (knM (w.table.take i)) (keyT b)).isSome = true := Qwh
  have hk : [b.spare,b.make,b.slot] = keyT b := rfl
  rw [hk] at jO
  cases ha : aget (knM (w.table.take i)) (keyT b) with
  | none =>
   rw [ha] at jO kR
   have hd : ([b.spare,b.make,b.slot] ∈ aks (knM (w.table.take i))) = False := by simpa using kR
   have hs := jN (fun n h => by rw [ha] at h; cases h)
   rw [Option.map_none,← hk] at jO
   simp only [hb,hlt,h4,Zds,jO,hd,kC,Qa0 _ _ _ zA,Qe,Qc,BL,simprocAttr]
   exact ⟨hk3,hk3,hs⟩
  | some n =>
   rw [ha] at jO kR
   have hd : ([b.spare,b.make,b.slot] ∈ aks (knM (w.table.take i))) = True := by simpa using kR
   rw [Option.map_some,← hk] at jO
   by_cases e : n = b.fits
   ·have hs := jN (fun n' h => by rw [ha] at h; cases h; exact e)
    simp only [hb,hlt,h4,Zds,jO,hd,e,kC,Qa0 _ _ _ zA,Qe,Qc,BL,simprocAttr]
    exact ⟨hk3,hk3,hs⟩
   ·have q : Qco w = 71 := by rw [hE,hcl n ha e]; rfl
    simp only [hb,hlt,Zds,jO,hd,e,q,BL,simprocAttr]
    exact hk3
 ·intro hc
  have hlt : ¬ ((w.table.length : Int) < w.table.length) := by omega
  have q : Qco w = 0 := by rw [hE,Zep hc]; rfl
  simp only [hlt,q,BU2,simprocAttr]
def K52 := K51.ext 75 (fnG eW1 dW1 (SmallW) (Qco) (.i))
def Zk0 : GOk TP K52 := Qz5.ext call75 (Qa7 fun a h => W78 a h)
def h78 (w : Work) : K52 75 [.ag (Qai w)] = (SmallW w,.i (Qco w)) := (kx K52 75 (Ql7 w) rfl :)
def Zcs (w : Work) (i n m k : Int)  := lft K52 (h118 w i n m k) rfl
abbrev TSo := Int × Work × Int
def eSo (a : TSo) : List V := [.pa [.i a.1],.pa (Qai a.2.1),.pa [.i a.2.2]]
def dSo : List V → TSo | [.pa [.i i],.pa w,.pa [.i n]] => (i,Qc0 w,n) | _ => (0,Qc0 [],0)
def Qy9 (a : TSo) : dSo (eSo a) = a := by obtain ⟨i,w,n⟩ := a; simp [dSo,eSo,Qc3]
def pSo (a : TSo) (t : Trial) : Bool := soB a.2.1 a.1 a.2.2 t
def CSo (a : TSo) (t : Trial) : Prop := OkF a.2.1 a.1 t.make t.slot
def eTSo (a : TSo × Trial) : List V := .ag (eTrial a.2) :: eSo a.1
def dTSo : List V → TSo × Trial | .ag t :: c => (dSo c,Qe2 t) | _ => (dSo [],Qe2 [])
def Zht (a : TSo × Trial) : dTSo (eTSo a) = a := by obtain ⟨a,x⟩ := a; simp [dTSo,eTSo,Qy9,Qdl]
def W117 (a : TSo) (t : Trial) (h : CSo a t) : Qa1 TP 86 (.ag (eTrial t) :: eSo a) (.b (pSo a t)) := by
 obtain ⟨i,w,n⟩ := a
 refine pc Zk0 func86 cf86 ?_
 have g := Zcs w i n t.make t.slot
 simp only [Qai] at g
 have h' : OkF w i t.make t.slot := h
 unfold pSo soB
 by_cases e1 : t.spare = i
 ·cases e3 : Qcn w i n t.make t.slot <;> by_cases e2 : t.fits = 1 <;> (simp only [rc86,rs86,eSo,e1,g,h',e2,e3,Bool.false_xor,BL,simprocAttr] <;> try simp)
 ·simp only [rc86,rs86,eSo,e1,BL,simprocAttr]
  try simp [e1]
def K53 := K52.ext 86 (fnG eTSo dTSo (fun a => CSo a.1 a.2) (fun a => pSo a.1 a.2) (.b))
def Zk1 : GOk TP K53 := Zk0.ext call86 (Qa7 fun a h => W117 a.1 a.2 h)
def h117 (a : TSo) (x : Trial) : K53 86 (.ag (eTrial x) :: eSo a) = (CSo a x,.b (pSo a x)) := (kx K53 86 (Zht (a,x)) rfl :)
def Q158 (hG : GOk TP Γ) (l : List Trial) (f : Nat) (hf : f < 1000000) (caps : List V) (p : Trial → Bool) (C : Trial → Prop) (hC : ∀ x ∈ l,C x) (hv : caps.map (vw [] 8) = caps) (hr : Qa8 caps = false) (hl : l.length < 10000000)
  (h : ∀ x ∈ l,Γ f (V.ag (eTrial x) :: caps) = (C x,.b (p x))) : Qa1 TP 148 [.sl 4 (l.map eTrial),.fn f caps] (.i (idxOf p l)) := by
 refine pc hG func148 Zgx ?_
 simp only [rc148,rs148,BU2,simprocAttr]
 refine Qao l.length (fun i => ⟨lkp [(0,.sl 4 (l.map eTrial)),(1,.fn f caps),(7,.i l.length),(8,.i i)],[]⟩) (fun i => ∀ j x,j < i → l[j]? = some x → p x = false) ?_ ?_ ?_ ?_
 ·simp only [Qd,BU2,simprocAttr]
 ·intro j x h; omega
 ·intro i hi hc
  obtain ⟨x,hx⟩ : ∃ x,l[i]? = some x := ⟨_,Qa hi⟩
  have hlt : (i : Int) < l.length := by omega
  have h3 : inI ((i : Int) + 1) := by unfold inI; omega
  have hp := h x (Qb hx)
  have hCx := hC x (Qb hx)
  try simp only [eTrial] at hp
  simp only [hx,hlt,Qe,Qc,h3,hp,hv,hr,hf,hCx,BL,simprocAttr]
  refine ⟨fun e => ?_,fun e => ?_⟩
  ·rw [Qah hx e hc]
  ·exact Qbd hx e hc
 ·intro hc
  simp only [BU2,simprocAttr]
  exact (Qaa fun x hx => by
   obtain ⟨j,hj⟩ := Qf hx
   exact hc j x (by have := Qag hj; exact this) hj).symm
def e1So (a : TSo × Trial) : List V := [.ag (eTrial a.2),.pa [.fn 86 (eSo a.1)]]
def d1So : List V → TSo × Trial | [.ag s,.pa [.fn _ c]] => (dSo c,Qe2 s) | _ => (dSo [],Qe2 [])
def Zh8 (a : TSo × Trial) : d1So (e1So a) = a := by obtain ⟨a,x⟩ := a; simp [d1So,e1So,Qy9,Qdl]
def Zgs (a : TSo) (x : Trial) (h : CSo a x) : Qa1 TP 125 [.ag (eTrial x),.pa [.fn 86 (eSo a)]] (.b (!pSo a x)) := by
 refine pc Zk1 func125 Zgw ?_
 have g := h117 a x
 try simp only [eSo,eTrial,Qai] at g
 simp only [rc125,rs125,eSo,g,h,BL,simprocAttr]
def K54 := K53.ext 125 (fnG e1So d1So (fun a => CSo a.1 a.2) (fun a => !pSo a.1 a.2) (.b))
def Zk2 : GOk TP K54 := Zk1.ext call125 (Qa7 fun a h => Zgs a.1 a.2 h)
def Zir (a : TSo) (x : Trial) : K54 125 [.ag (eTrial x),.pa [.fn 86 (eSo a)]] = (CSo a x,.b (!pSo a x)) := (kx K54 125 (Zh8 (a,x)) rfl :)
def e2So (a : TSo × List Trial) : List V := [.sl 4 (a.2.map eTrial),.fn 125 [V.pa [.fn 86 (eSo a.1)]]]
def d2So : List V → TSo × List Trial | [.sl _ l,.fn _ [.pa [.fn _ c]]] => (dSo c,l.map Qe2) | _ => (dSo [],[])
def Za6 (a : TSo × List Trial) : d2So (e2So a) = a := by obtain ⟨a,l⟩ := a; simp [d2So,e2So,Qy9,Qdl,Function.comp_def]
def C2So (a : TSo × List Trial) : Prop := a.2.length < 10000000 ∧ ∀ x ∈ a.2,CSo a.1 x
def vwSo (a : TSo) : ([V.pa [.fn 86 (eSo a)]] : List V).map (vw [] 8) = [V.pa [.fn 86 (eSo a)]] := by
 unfold eSo
 simp only [Qp,Q5,Qul,Qai]
def rfSo (a : TSo) : Qa8 ([V.pa [.fn 86 (eSo a)]] : List V) = false := rfl
def K55 := K54.ext 148 (fnG e2So d2So (C2So) (fun a => idxOf (fun x => !pSo a.1 x) a.2) (.i))
def Zk3 : GOk TP K55 := Zk2.ext call148 (Qa7 fun a h => Q158 Zk2 a.2 125 (by decide) [V.pa [.fn 86 (eSo a.1)]] (fun x => !pSo a.1 x) (CSo a.1) h.2 (vwSo a.1) (rfSo a.1) h.1 fun x _ => Zir a.1 x)
def Zis (a : TSo) (l : List Trial) : K55 148 [.sl 4 (l.map eTrial),.fn 125 [V.pa [.fn 86 (eSo a)]]] = (C2So (a,l),.i (idxOf (fun x => !pSo a x) l)) := (kx K55 148 (Za6 (a,l)) rfl :)
def Zgr (a : TSo) (l : List Trial) (h : C2So (a,l)) : Qa1 TP 124 [.sl 4 (l.map eTrial),.fn 125 [V.pa [.fn 86 (eSo a)]]] (.b (l.any (fun x => !pSo a x))) := by
 refine pc Zk3 func124 Zgv ?_
 have g := Zis a l
 have q := Qab (fun x => !pSo a x) l
 generalize idxOf (fun x => !pSo a x) l = r at *
 generalize l.any (fun x => !pSo a x) = r2 at *
 try simp only [eSo,Qai] at g
 simp only [rc124,rs124,eSo,g,h,q,BL,simprocAttr]
def K56 := K55.ext 124 (fnG e2So d2So (C2So) (fun a => a.2.any (fun x => !pSo a.1 x)) (.b))
def Zk4 : GOk TP K56 := Zk3.ext call124 (Qa7 fun a h => Zgr a.1 a.2 h)
def Ziq (a : TSo) (l : List Trial) : K56 124 [.sl 4 (l.map eTrial),.fn 125 [V.pa [.fn 86 (eSo a)]]] = (C2So (a,l),.b (l.any (fun x => !pSo a x))) := (kx K56 124 (Za6 (a,l)) rfl :)
def e3So (a : TSo × List Trial) : List V := [.sl 4 (a.2.map eTrial),.fn 86 (eSo a.1)]
def d3So : List V → TSo × List Trial | [.sl _ l,.fn _ c] => (dSo c,l.map Qe2) | _ => (dSo [],[])
def Zhg (a : TSo × List Trial) : d3So (e3So a) = a := by obtain ⟨a,l⟩ := a; simp [d3So,e3So,Qy9,Qdl,Function.comp_def]
def Zgq (a : TSo) (l : List Trial) (h : C2So (a,l)) : Qa1 TP 88 [.sl 4 (l.map eTrial),.fn 86 (eSo a)] (.b (l.all (pSo a))) := by
 refine pc Zk4 func88 cf88 ?_
 have e : (!(l.any (fun x => !pSo a x))) = l.all (pSo a) := by rw [Ql]; simp
 have g := Ziq a l
 generalize l.any (fun x => !pSo a x) = r at *
 try simp only [eSo,Qai] at g
 simp only [rc88,rs88,eSo,g,h,e,BL,simprocAttr]
def K57 := K56.ext 88 (fnG e3So d3So (C2So) (fun a => a.2.all (pSo a.1)) (.b))
def Zk5 : GOk TP K57 := Zk4.ext call88 (Qa7 fun a h => Zgq a.1 a.2 h)
def Zii (a : TSo) (l : List Trial) : K57 88 [.sl 4 (l.map eTrial),.fn 86 (eSo a)] = (C2So (a,l),.b (l.all (pSo a))) := (kx K57 88 (Zhg (a,l)) rfl :)
end Go.CS
end
