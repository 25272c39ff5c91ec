import Derived.Test.YtmogdmjfhibknaaGreatG4
import Derived.Test.YtmogdmjfhibknaaGreatChecked
import Derived.RangeFuncLeaves
import Derived.WalkKit
import Derived.OwnWalkIn
import Derived.TacticsInMore
import Derived.LoopNIn
import Derived.LoopIn
import Derived.Shelf.Small.Bits
import Derived.Shelf.Small.Wraps
import Derived.Shelf.Strconv.Itoa0
import Derived.Shelf.Sort.Plain
import Derived.Shelf.Bits.Mul64
import Derived.Shelf.Slices.Turned
import Derived.Shelf.Slices.Equal
import Derived.Ground.Names2Prog
import Derived.Shelf.Slices.Clone
import Derived.Shelf.Slices.SearchI
import Derived.Shelf.Slices.In.SortNone
import Derived.Shelf.Slices.Empties2
import Derived.Ground.SlgnProg
import Derived.Shelf.SlicesE.Clone
import Derived.Test.YtmogdmjfhibknaaGreatProg
import Derived.Test.YtmogdmjfhibknaaGreatRows
set_option linter.all false
open List renaming getElem?_eq_getElem → Qb, getD_eq_getElem?_getD → Qc, mem_of_getElem? → Qd, contains_nil → Qf, take_of_length_le → Ql, flatten_cons → Qm, map_cons → Qo, flatten_nil → Qp, mem_range → Qq, getElem?_of_mem → Qs, length_cons → Qt, take_length → Qu, replicate_succ → Qv, contains_cons → Qw, map_nil → Qx, getElem?_map → Qy, length_nil → Q1, map_congr_left → Q3, nodup_iff_pairwise_ne → Q8, mem_or_eq_of_mem_set → Q9, cons_append → Za, length_take → Zd, mem_flatMap → Ze, mem_map → Zf, nil_append → Zh, length_map → Zi, getElem?_eq_none → Zj, mem_iff_getElem → Zl, mem_cons_of_mem → Zn, append_toArray → Zo, take_set_of_le → Zp, mem_cons → Zr, length_append → Zs, range → Zt, mem_singleton → Zu, getElem?_take → Zv, map_map → Zw, any_eq_false → Zx, foldl_append → Zy, isEmpty_cons → Zz, size_toArray → Z0, push_toArray → Z1, nodup_append → Z2, any_eq_true → Z3, getElem_mem → Z4, ext_getElem → Z5, mem_append → Z8, drop_zero → Xa, cons → Xb
open Nat renaming le_refl → Qn, mul_one → Qr, zero_le → Z7, min_eq_left → Z9
open Bool renaming false_eq_true → Qa, not_eq_true' → Qj, true_eq_false → Qk, not_eq_true → Qz, true_and → Q0, decide_eq_true → Q4, not_eq_false' → Q5, and_false → Q6, and_eq_true → Zc, or_eq_false_iff → Zk, decide_eq_false → Zm, false_or → Zq
open Option renaming map_none → Q2, getD_some → Zb, map_eq_some_iff → Zg, some → Z6
open Int renaming natCast_zero → Qe, natCast_add → Qg, natCast_one → Qh, lt_irrefl → Qi, toNat_zero → Q7
set_option linter.unusedSimpArgs false
set_option linter.unusedVariables false
namespace Go.C06
open Go.Fam
structure Span where
 low : Int
 high : Int
 deriving DecidableEq
def eI (n : Int) : List V := [.i n]
def eIs (l : List Int) : V := .sl 1 (l.map eI)
def Qbx (s : Span) : List V := [.i s.low, .i s.high]
def gI : V → Int | .i n => n | _ => 0
def gR : V → List (List V) | .sl _ r => r | _ => []
def dI (r : List V) : Int := gI (r.headD .u)
theorem Qbl (n : Int) : dI (eI n) = n := rfl
theorem Qcj (s : Span) : (⟨s.low, s.high⟩ : Span) = s := rfl
def fnG {A B : Type} (e : A → List V) (d : List V → A) (ok : A → Prop) (g : A → B) (eb : B → V) : List V → Prop × V := fun vs => (e (d vs) = vs ∧ ok (d vs), eb (g (d vs)))
theorem Qad {P : Program} {A B : Type} {e : A → List V} {d : List V → A} {ok : A → Prop} {g : A → B} {eb : B → V} {f : Nat} (h : ∀ a, ok a → Qa5 P f (e a) (eb (g a))) (vs : List V) (hv : (fnG e d ok g eb vs).1) :
  Qa5 P f vs (fnG e d ok g eb vs).2 := by
 have := h (d vs) hv.2
 rw [hv.1] at this
 exact this
theorem Qab {A B : Type} {e : A → List V} {d : List V → A} {ok : A → Prop} {g : A → B} {eb : B → V} (a : A) (h : d (e a) = a) : fnG e d ok g eb (e a) = (ok a, eb (g a)) := by
 simp [fnG, h]
def Qa6 (n lo hi : Int) : Bool := decide (lo ≤ n) && decide (n ≤ hi)
theorem Qa8 {α : Type} {l : List α} {i : Nat} {x : α} (h : l[i]? = some x) : l.take (i + 1) = l.take i ++ [x] := by
 rw [List.take_add_one, h]; rfl
def idxOf {α : Type} (p : α → Bool) (l : List α) : Int := if l.any p then (l.findIdx p : Int) else -1
theorem Qas {α : Type} {p : α → Bool} {l : List α} {i : Nat} {x : α} (hx : l[i]? = some x) (e : p x = true) (hc : ∀ j x, j < i → l[j]? = some x → p x = false) : idxOf p l = i := by
 have h1 : l.any p = true := Z3.2 ⟨x, Qd hx, e⟩
 have hl := Qaf hx
 have h2 : l[i] = x := by have := Qb hl; rw [this] at hx; exact Z6.inj hx
 have h3 : l.findIdx p = i := (List.findIdx_eq hl).2 ⟨by rw [h2]; exact e, fun j hj => hc j _ hj (Qb (by omega))⟩
 simp [idxOf, h1, h3]
theorem Qaj {α : Type} {p : α → Bool} {l : List α} (h : ∀ x ∈ l, p x = false) : idxOf p l = -1 := by
 have : l.any p = false := by simpa using h
 simp [idxOf, this]
theorem Qal {α : Type} (p : α → Bool) (l : List α) : decide (0 ≤ idxOf p l) = l.any p := by
 unfold idxOf
 cases h : l.any p <;> simp
theorem Qar {α : Type} {e : α → List V} {k : Nat} (h : ∀ x, (e x).length = k) : ∀ l : List α, ((l.map e).flatten).length = l.length * k
 | [] => by simp
 | x :: l => by rw [Qo, Qm, Zs, h, Qar h l, Qt, Nat.succ_mul]; omega
mutual
theorem Qlm (hp : List Blk) (n : Nat) : ∀ v : V, Qa2 v = false → cutV hp n v = v
 | .u, _ | .b _, _ | .i _, _ | .z _, _ | .sl _ _, _ | .sx _ _, _ | .pa _, _ | .pn, _ | .yl _, _ | .w _ _, _ | .pm _ _ _, _ | .fb _ _, _ => by simp [cutV]
 | .ag cs, h | .tp cs, h => by simp only [Qa2] at h; simp only [cutV, Qa3 hp n cs h]
 | .fn f cs, h => by simp only [Qa2] at h; simp only [cutV, Qa3 hp n cs h]
 | .gv q v, h => by simp only [Qa2] at h; simp only [cutV, Qlm hp n v h]
 | .ad _ _ _, h | .rf _ _ _ _ _, h | .mp _ _, h | .it _ _, h => by simp [Qa2] at h
theorem Qa3 (hp : List Blk) (n : Nat) : ∀ vs : List V, Qa1 vs = false → cutL hp n vs = vs
 | [], _ => rfl
 | v :: vs, h => by
  simp only [Qa1, Zk] at h
  simp only [cutL, Qlm hp n v h.1, Qa3 hp n vs h.2]
end
theorem Qaa : ∀ (a b : List V), Qa1 (a ++ b) = (Qa1 a || Qa1 b)
 | [], b => by simp [Qa1]
 | v :: a, b => by simp only [Za, Qa1, Qaa a b, Bool.or_assoc]
mutual
theorem Qp7 (n : Nat) : ∀ v : V, Qa2 v = false → upV n v = v
 | .u, _ | .b _, _ | .i _, _ | .z _, _ | .sl _ _, _ | .sx _ _, _ | .pa _, _ | .pn, _ | .yl _, _ | .w _ _, _ | .pm _ _ _, _ | .fb _ _, _ => by simp [upV]
 | .ag cs, h | .tp cs, h => by simp only [Qa2] at h; simp only [upV, Qau n cs h]
 | .fn f cs, h => by simp only [Qa2] at h; simp only [upV, Qau n cs h]
 | .gv q v, h => by simp only [Qa2] at h; simp only [upV, Qp7 n v h]
 | .ad _ _ _, h | .rf _ _ _ _ _, h | .mp _ _, h | .it _ _, h => by simp [Qa2] at h
theorem Qau (n : Nat) : ∀ vs : List V, Qa1 vs = false → upL n vs = vs
 | [], _ => rfl
 | v :: vs, h => by
  simp only [Qa1, Zk] at h
  simp only [upL, Qp7 n v h.1, Qau n vs h.2]
end
theorem Qac {α : Type} {e : α → List V} (h : ∀ x, Qa1 (e x) = false) : ∀ l : List α, Qa1 (l.map e).flatten = false
 | [] => rfl
 | x :: l => by simp only [Qo, Qm, Qaa, h, Qac h l, Bool.or_false]
theorem Qai {α : Type} {e : α → List V} {k : Nat} (h : ∀ x, (e x).length = k) : ∀ (l : List α), Qcg k ((l.map e).flatten) 0 l.length = l.map e
 | [] => by simp [Qcg]
 | x :: l => by
  rw [Qt, Qlk, Qo, Qm, Nat.zero_add, Xa]
  have e1 : (e x ++ (l.map e).flatten).take k = e x := by rw [List.take_append_of_le_length (by rw [h]; exact Qn _), Ql (by rw [h]; exact Qn _)]
  rw [e1]
  congr 1
  have ih := Qai h l
  unfold Qcg at ih ⊢
  conv => rhs; rw [← ih]
  apply Q3
  intro j _
  congr 1
  have e2 : k + j * k = (e x).length + j * k := by rw [h]
  rw [e2, List.drop_append, Nat.zero_add]
  simp
theorem Qag {α : Type} {e : α → List V} (hp : List Blk) (n : Nat) (h : ∀ x, (e x).map (vw hp n) = e x) (l : List α) : (l.map e).map (fun r => r.map (vw hp n)) = l.map e := by
 rw [Zw]
 exact Q3 fun x _ => h x
theorem Qat {α : Type} {l : List α} {k : Nat} {x : α} (h : l[k]? = some x) : l.drop k = x :: l.drop (k + 1) := by
 have hl := Qaf h
 rw [List.drop_eq_getElem_cons hl]
 rw [Qb hl] at h
 rw [Z6.inj h]
theorem Qb3 (l : List Int) : Qcg 1 ((l.map eI).flatten) 0 l.length = l.map eI := Qai (e := eI) (k := 1) (fun _ => rfl) l
theorem Qc5 (l : List Int) : ((l.map eI).flatten).length = l.length * 1 := Qar (e := eI) (k := 1) (fun _ => rfl) l
theorem vw_I (hp : List Blk) (n : Nat) (l : List Int) : (l.map eI).map (fun r => r.map (vw hp (n + 1))) = l.map eI := Qag (e := eI) hp (n + 1) (fun _ => rfl) l
theorem Qay (l : List Int) : Qa1 ((l.map eI).flatten) = false := Qac (e := eI) (fun _ => rfl) l
theorem Qan {Γ : Gam} {E : TypeId → Nat → Prop} {Q : Exit → St → Prop} {σ : St} {α : Type} {l : List Nat} {d : Option Nat} {a : RC} (n : Nat) (S : Nat → α → St) (C : Nat → α → Prop) (x0 : α) (h0 : kp l d σ = S 0 x0) (c0 : C 0 x0)
  (hs : ∀ i x, i < n → C i x → wpR Γ E a (Qfr (fun σ'' => ∃ y, C (i + 1) y ∧ kp l d σ'' = S (i + 1) y) Q) (S i x)) (hn : ∀ x, C n x → wpR Γ E a (Qfr (fun _ => False) Q) (S n x)) : wpR Γ E (.loop l d a) Q σ := by
 refine Qkw (fun k σ => ∃ (i : Nat) (x : α), i ≤ n ∧ k = n - i ∧ C i x ∧ σ = S i x) ⟨n, 0, x0, Z7 _, rfl, c0, h0⟩ ?_
 rintro k _ ⟨i, x, hi, rfl, hc, rfl⟩
 rcases Nat.lt_or_ge i n with h | h
 ·refine Qgl _ _ _ _ (fun e σ he => ?_) (hs i x h hc)
  cases e <;> first | exact he | skip
  obtain ⟨y, hc', hk⟩ := he
  exact ⟨n - (i + 1), by omega, i + 1, y, h, rfl, hc', hk⟩
 ·have : i = n := by omega
  subst this
  refine Qgl _ _ _ _ (fun e σ he => ?_) (hn x hc)
  cases e <;> first | exact he | exact he.elim
theorem Qhj {l : List Int} {i : Nat} (h : i < l.length) : l.getD i 0 ∈ l := by
 rw [Qc, Qb h]
 exact Z4 h
end Go.C06
set_option maxRecDepth 8000
namespace Go.C06
open Go.Fam Go.Proofs
def rc48 : RC := (.seq (.reg false [(cQ 6 [] (.mv (kB false)))]) (.keep [0,1,2] (.seq (.reg true [(cMv 7 1), (cMv 8 0), (cB 9 .leq 7 8), (cMv 10 9), (gMv 11 10 true 0), (gMv 12 10 true 2), (gQ 13 10 true [11,12] (.bin .leq (.t 11) (.t 12))), (cQ 14 [10,13] (.pick (.t 10) (.t 13) (kB false))), (cMv 6 14)]) .ret)))
def rs48 : List RV := [.t 6]
theorem cf48 : CF Tryz.prog Tryz.f48 [] 0 1 rc48 rs48 3 := ⟨by kernel_rfl, by kernel_rfl, by kernel_rfl, by decide⟩
def rc54 : RC := (.seq (.reg false [(cQ 2 [] (.mv (.k (.z 1))))]) (.keep [0] (.seq (.seq (.rnl false [(cMv 3 0)] (cLn 4 3) []) (.keep [0,4] (.cond (.t 4) (.seq (.reg false [(cQ 2 [] (.mv (.k (.z 1))))]) (.owng 2 1 1 .ret)) .skip))) (.keep [0] (.seq (.reg false [⟨(some 5), none, [], none, .w (.bso 1 0 [(.i 0)] [])⟩, (cMv 6 0), ⟨(some 7), none, [5,6], none, .w (.app 1 (.t 5) (.t 6))⟩, (cMv 2 7)]) .ret)))))
def rs54 : List RV := [.t 2]
theorem cf54 : CF Tryz.prog Tryz.f54 [] 0 1 rc54 rs54 1 := ⟨by kernel_rfl, by kernel_rfl, by kernel_rfl, by decide⟩
def rc71 : RC := (.seq (.reg false [⟨(some 2), none, [0], none, .w (.bxo (.t 0))⟩, (cQ 4 [] (.mv (.k (.z 1))))]) (.keep [1,2,7] (.seq (.seq (.reg false [(cMv 6 1)]) (.keep [2,6,7] (.block 0 (.ownc 2 0 1 (.rfn (.t 6) [7] 2 (.reg false [(cMv 5 7)]) (.block 1 (.reg false [(cLd 8 2 false 1), (cMv 9 5), (cQ 10 [9] (.bsl 1 1 [(.i 0)] [(0,1, (.t 9))])), ⟨(some 11), none, [8,10], none, .w (.app 1 (.t 8) (.t 10))⟩, ⟨none, none, [2,11], none, .w (.st 1 (.t 2) (.t 11))⟩]))))))) (.keep [2] (.seq (.reg false [(cLd 12 2 false 1), (cMv 4 12)]) .ret)))))
def rs71 : List RV := [.t 4]
theorem cf71 : CF Tryz.prog Tryz.f71 [10] 1 1 rc71 rs71 2 := ⟨by kernel_rfl, by kernel_rfl, by kernel_rfl, by decide⟩
def rc50 : RC := (.seq (.reg false [(cQ 2 [] (.mv (.k (.z 1))))]) (.keep [0] (.seq (.hcl false [(cMv 3 0)] ⟨(some 4), none, [3], none, .o (kF 71) [(.k (.z 1)), (.t 3)]⟩ [(cMv 2 4)]) .ret)))
def rs50 : List RV := [.t 2]
theorem cf50 : CF Tryz.prog Tryz.f50 [] 0 1 rc50 rs50 1 := ⟨by kernel_rfl, by kernel_rfl, by kernel_rfl, by decide⟩
end Go.C06
set_option linter.unusedSimpArgs false
set_option linter.unusedVariables false
namespace Go.C06
open Go.Fam Go.Proofs
theorem hmix : Tryz.prog.follows .mixedOrders = true := by kernel_rfl
structure Bent where
 bend : Int
 back : Span
 deriving DecidableEq
structure Cane where
 spring : Span
 bents : List Bent
 wrong : Int
 limit : Int
 tire : Int
 deriving DecidableEq
structure Boil where
 soak : Int
 bend : Int
 deriving DecidableEq
structure Box where
 room : Int
 boils : List Boil
 deriving DecidableEq
def Qeg (b : Boil) : List V := [.i b.soak, .i b.bend]
def eBox (s : Box) : List V := [.i s.room, .sl 2 (s.boils.map Qeg)]
def Qs6 : List V → Boil | [a, b] => ⟨gI a, gI b⟩ | _ => ⟨0, 0⟩
def dBox : List V → Box | [a, b] => ⟨gI a, (gR b).map Qs6⟩ | _ => ⟨0, []⟩
theorem Qs7 (b : Boil) : Qs6 (Qeg b) = b := rfl
theorem Qyb (c : Box) : dBox (eBox c) = c := by simp [dBox, eBox, gI, gR, Function.comp_def, Qs7]
def eLI (a : List Int × Int) : List V := [.sl 1 (a.1.map eI), .i a.2]
def dLI : List V → List Int × Int | [.sl _ l, .i n] => (l.map dI, n) | _ => ([], 0)
theorem Qca (a : List Int × Int) : dLI (eLI a) = a := by obtain ⟨s, n⟩ := a; simp [dLI, eLI, Function.comp_def, Qbl]
end Go.C06
set_option linter.unusedSimpArgs false
set_option linter.unusedVariables false
namespace Go.C06
open Go.Fam Go.Proofs
variable {Γ : Gam}
theorem W72 (n lo hi : Int) : Qa5 Tryz.prog 48 [.i n, .i lo, .i hi] (.b (Qa6 n lo hi)) := by
 refine Qa4 Qzx hmix Tryz.func48 cf48.b cf48.c cf48.s cf48.n ?_
 simp only [rc48, rs48, Qa0, ↓reduceIte, Nat.reduceEqDiff, Nat.reduceAdd, rvs, zipA, V.b.injEq, decide_eq_true_eq, decide_eq_false_iff_not, implies_true, reduceCtorEq, Qmq, imp_self, BU1]
 by_cases h : lo ≤ n <;> simp [h, Qa6]
def s72 : List V → Prop × V | [.i n, .i lo, .i hi] => (True, .b (Qa6 n lo hi)) | _ => (False, .u)
theorem Zgh (vs : List V) (h : (s72 vs).1) : Qa5 Tryz.prog 48 vs (s72 vs).2 := by
 unfold s72 at h ⊢
 split at h
 ·exact W72 _ _ _
 ·exact h.elim
noncomputable def H1 : Gam := Γ0.ext 48 s72
theorem okH1 : GOk Tryz.prog H1 := Qzx.ext (f := 48) (r := s72) (fun a w => Tryz.call48 a w) Zgh
theorem h72 (n lo hi : Int) : H1 48 [.i n, .i lo, .i hi] = (True, .b (Qa6 n lo hi)) := rfl
noncomputable def H2 : Gam := H1
theorem okH2 : GOk Tryz.prog H2 := okH1
noncomputable def H3 : Gam := H2
theorem okH3 : GOk Tryz.prog H3 := okH2
noncomputable def H4 : Gam := H3
theorem okH4 : GOk Tryz.prog H4 := okH3
noncomputable def H5 : Gam := H4
theorem okH5 : GOk Tryz.prog H5 := okH4
noncomputable def H6 : Gam := H5
theorem okH6 : GOk Tryz.prog H6 := okH5
end Go.C06
set_option linter.unusedSimpArgs false
set_option linter.unusedVariables false
namespace Go.C06
open Go.Fam Go.Proofs
variable {Γ : Gam}
noncomputable def H7 : Gam := H6
theorem okH7 : GOk Tryz.prog H7 := okH6
def Za9 (c : Cane) (i : Int) : Int := min 90 (c.limit - c.tire * i)
noncomputable def H8 : Gam := H7
theorem okH8 : GOk Tryz.prog H8 := okH7
noncomputable def H9 : Gam := H8
theorem okH9 : GOk Tryz.prog H9 := okH8
def seqH (l : List Int) (k : Nat) : List Blk := [.cells 0 [.rf 1 k 0 k 1], .cells k ((l.take k).map eI).flatten]
end Go.C06
set_option linter.unusedSimpArgs false
set_option linter.unusedVariables false
namespace Go.C06
open Go.Fam Go.Proofs
variable {Γ : Gam}
noncomputable def H10 : Gam := H9
theorem Zhs : GOk Tryz.prog H10 := okH9
noncomputable def H11 : Gam := H10
theorem Zht : GOk Tryz.prog H11 := Zhs
noncomputable def H12 : Gam := H11
theorem Zhu : GOk Tryz.prog H12 := Zht
noncomputable def H13 : Gam := H12
theorem Zhv : GOk Tryz.prog H13 := Zhu
noncomputable def H14 : Gam := H13
theorem Ze2 : GOk Tryz.prog H14 := Zhv
end Go.C06
set_option linter.unusedSimpArgs false
set_option linter.unusedVariables false
namespace Go.C06
open Go.Fam Go.Proofs
variable {Γ : Gam}
theorem W69 (l : List Int) (h : l.length ≤ 1000000) : Qdb Tryz.prog 54 [.sl 1 (l.map eI)] (.rf 0 1 0 l.length 1) [.cells 1 (l.map eI).flatten] := by
 refine Qhp Ze2 hmix Tryz.func54 cf54.b cf54.c cf54.s cf54.n ?_
 simp only [rc54, rs54, Qdp, Zb2, Zgd, endO, Qa0, Qbt, Qak, Qaw, Qb2, ↓reduceIte, Nat.reduceEqDiff, Nat.reduceMul, rvs, zipA, reduceCtorEq, ne_eq, Qz, BU1]
 refine fun b hb => ⟨fun e => ?_, fun e => ?_⟩
 ·have hl : l = [] := by
   cases l with
   | nil => rfl
   | cons x l => exact absurd (hb (by simp)) (by rw [e]; simp)
  subst hl
  simp only [Qp, Qx, Q1, and_self]
 ·have h1 : Qao l.length := by unfold Qao; omega
  simp only [h1, Qp, Q1, Zh, and_self]
end Go.C06
set_option linter.unusedSimpArgs false
set_option linter.unusedVariables false
namespace Go.C06
open Go.Fam Go.Proofs
def Poss (c : Cane) (l : List Int) : Prop := ∀ i : Nat, i < l.length → 1 ≤ l.getD i 0 ∧ l.getD i 0 ≤ Za9 c i
structure IMap (T : List Int → List Int → Prop) (m : AM (List Int)) : Prop where
 nd : (aks m).Nodup
 two : ∀ k ∈ aks m, k.length = 2
 no : ∀ k, k.length = 2 → aget m k = none → ∀ l, ¬ T l k
 is : ∀ k l, aget m k = some l → T l k
theorem IMap.imp {T T' : List Int → List Int → Prop} {m : AM (List Int)} (h : IMap T m) (he : ∀ l b, T l b ↔ T' l b) : IMap T' m :=
 ⟨h.nd, h.two, fun k h2 hb l ht => h.no k h2 hb l ((he l k).2 ht), fun k l hb => (he l k).1 (h.is k l hb)⟩
theorem Qo4 {l : List Int} {x : Int} {i : Nat} (h : i = l.length) : (l ++ [x]).getD i 0 = x := by
 subst h
 simp only [Qc]; rw [List.getElem?_append_right (Qn _), Nat.sub_self]; rfl
theorem Zaa (c : Cane) (i : Int) : Za9 c i ≤ 90 := by unfold Za9; omega
theorem Poss.in_ {c : Cane} {l : List Int} (h : Poss c l) : ∀ n ∈ l, 1 ≤ n ∧ n ≤ 90 := by
 intro n hn
 obtain ⟨i, hi, rfl⟩ := Zl.1 hn
 have := h i hi
 rw [Qc, Qb hi] at this
 have h2 := Zaa c i
 simp only [Zb] at this
 omega
end Go.C06
set_option linter.unusedSimpArgs false
set_option linter.unusedVariables false
namespace Go.C06
open Go.Fam Go.Proofs
variable {Γ : Gam}
def eL1 (l : List Int) : List V := [.sl 1 (l.map eI)]
def dL1 : List V → List Int | [.sl _ l] => l.map dI | _ => []
theorem Qwj (l : List Int) : dL1 (eL1 l) = l := by simp [dL1, eL1, Function.comp_def, Qbl]
noncomputable def H15 : Gam := H14.ext 1000054 (fnG eL1 dL1 (fun l => l.length ≤ 1000000) (fun l => l) fun l => .tp [.rf 0 1 0 l.length 1, .tp [bV (.cells 1 (l.map eI).flatten)]])
theorem Zhw : GOk Tryz.prog H15 := by
 exact Ze2.extO (f := 54) (r := fnG eL1 dL1 (fun l => l.length ≤ 1000000) (fun l => l) fun l => .tp [.rf 0 1 0 l.length 1, .tp [bV (.cells 1 (l.map eI).flatten)]]) (fun a w => Tryz.call54 a w) fun vs v bs h1 h2 => by
  simp only [fnG, V.tp.injEq, Xb.injEq, and_true] at h1 h2
  obtain ⟨h3, h4⟩ := h2
  rw [← h1.1, ← h3, ← h4]
  simp only [Qo, Qx, Qa9]
  exact W69 _ h1.2
theorem h69 (l : List Int) : H15 1000054 [.sl 1 (l.map eI)] = (l.length ≤ 1000000, .tp [.rf 0 1 0 l.length 1, .tp [bV (.cells 1 (l.map eI).flatten)]]) :=
 (show H15 1000054 _ = fnG eL1 dL1 (fun l => l.length ≤ 1000000) (fun l => l) (fun l => .tp [.rf 0 1 0 l.length 1, .tp [bV (.cells 1 (l.map eI).flatten)]]) (eL1 l) from rfl).trans (Qab _ (Qwj _))
end Go.C06
set_option linter.unusedSimpArgs false
set_option linter.unusedVariables false
namespace Go.C06
open Go.Fam Go.Proofs
variable {Γ : Gam}
noncomputable def H16 : Gam := H15
theorem Zhx : GOk Tryz.prog H16 := Zhw
end Go.C06
set_option linter.unusedSimpArgs false
set_option linter.unusedVariables false
namespace Go.C06
open Go.Fam Go.Proofs
variable {Γ : Gam}
def RIt (al : List V → Prop) (xs : List V) (r : V) (hp : List Blk) : Prop :=
 ∃ (b : Bool) (bv : List V) (rest : List (List V)) (tl : List Blk), hp = .gh xs (some ((.b b :: bv) :: rest)) :: (bv.map vB ++ tl) ∧ (b = true → rest = []) ∧ al bv
end Go.C06
set_option linter.unusedSimpArgs false
set_option linter.unusedVariables false
namespace Go.C06
open Go.Fam Go.Proofs
variable {Γ : Gam}
noncomputable def H17 : Gam := H16
theorem Zhy : GOk Tryz.prog H17 := Zhx
noncomputable def H18 : Gam := H17
theorem Zhz : GOk Tryz.prog H18 := Zhy
end Go.C06
set_option linter.unusedSimpArgs false
set_option linter.unusedVariables false
namespace Go.C06
open Go.Fam Go.Proofs
variable {Γ : Gam}
noncomputable def H19 : Gam := H18
theorem Ze3 : GOk Tryz.prog H19 := Zhz
end Go.C06
set_option maxRecDepth 8000
namespace Go.C06
open Go.Fam Go.Proofs
def rc47 : RC := (.seq (.reg false [(cX 1 0), (cQ 2 [] (.mv (kB false)))]) (.keep [1] (.seq (.reg true [(cFa 3 1 0), (cLd 4 3 false 1), (cQ 5 [4] (.call (kF 48) [(.t 4), (kI 0), (kI 999)])), (cN 6 5), (cMv 7 6), (gQ 8 7 false [1] (.fad 1 (.t 1))), (gQ 9 7 false [8] (.ld false 1 (.t 8))), (gQ 10 7 false [9] (.call (kF 48) [(.t 9), (kI 0), (kI 999)])), (gQ 11 7 false [10] (.not (.t 10))), (cQ 12 [7,11] (.pick (.t 7) (kB true) (.t 11))), (cMv 2 12)]) .ret)))
def rs47 : List RV := [.t 2]
theorem cf47 : CF Tryz.prog Tryz.f47 [1] 0 1 rc47 rs47 1 := ⟨by kernel_rfl, by kernel_rfl, by kernel_rfl, by decide⟩
def rc70 : RC := (.seq (.reg false [(cI 4 0)]) (.keep [0,1] (.seq (.seq (.reg false [(cMv 6 0), (cLn 7 6), (cI 8 0)]) (.keep [0,1,7,8] (.block 0 (.loop [0,1,7,8] none (.seq (.reg false [(cB 9 .lss 8 7)]) (.keep [0,1,7,8,9] (.seq (.cond (.t 9) .skip (.exit 0)) (.keep [0,1,7,8] (.seq (.block 1 (.seq (.reg false [(cMv 10 8), (cMv 5 10)]) (.keep [0,1,5,7,8] (.seq (.reg false [(cMv 11 1), (cMv 12 0), (cMv 13 5), (cA 14 2 12 13), (cLd 15 14 true 2), (cQ 16 [11,15] (.call (.t 11) [(.t 15)]))]) (.keep [0,1,5,7,8,16] (.cond (.t 16) (.seq (.reg false [(cMv 17 5), (cMv 4 17)]) .ret) .skip)))))) (.keep [0,1,7,8] (.reg false [(cC 18 .add 8 1), (cMv 8 18)]))))))))))) (.keep [] (.seq (.reg false [(cQ 4 [] (.mv (.k (.i (-1)))))]) .ret)))))
def rs70 : List RV := [.t 4]
theorem cf70 : CF Tryz.prog Tryz.f70 [] 0 1 rc70 rs70 2 := ⟨by kernel_rfl, by kernel_rfl, by kernel_rfl, by decide⟩
def rc49 : RC := (.seq (.reg false [(cQ 4 [] (.mv (kB false)))]) (.keep [0,1] (.seq (.reg false [(cMv 5 0), (cMv 6 1), (cQ 7 [5,6] (.call (kF 70) [(.t 5), (.t 6)])), (cC 8 .geq 7 0), (cMv 4 8)]) .ret)))
def rs49 : List RV := [.t 4]
theorem cf49 : CF Tryz.prog Tryz.f49 [] 0 1 rc49 rs49 2 := ⟨by kernel_rfl, by kernel_rfl, by kernel_rfl, by decide⟩
def rc24 : RC := (.seq (.reg false [(cX 1 0), (cI 2 0)]) (.keep [1] (.seq (.reg false [(cQ 3 [] (.mv (kF 47)))]) (.keep [1,3] (.seq (.seq (.reg true [(cFa 4 1 0), (cLd 5 4 false 1), (cQ 6 [5] (.call (kF 48) [(.t 5), (kI 1), (kI 7)])), (cN 7 6), (cMv 8 7), (gQ 9 8 false [1] (.fad 1 (.t 1))), (gQ 10 8 false [9] (.ld false 1 (.t 9))), (gQ 11 8 false [10] (.len (.t 10))), (gQ 12 8 false [11] (.bin .gtr (.t 11) (kI 7))), (cQ 13 [8,12] (.pick (.t 8) (kB true) (.t 12))), (cMv 14 13), (gQ 15 14 false [1] (.fad 1 (.t 1))), (gQ 16 14 false [15] (.ld false 1 (.t 15))), (gMv 17 14 false 3), (gQ 18 14 false [16,17] (.call (kF 49) [(.t 16), (.t 17)])), (cQ 19 [14,18] (.pick (.t 14) (kB true) (.t 18)))]) (.keep [19] (.cond (.t 19) (.seq (.reg false [(cI 2 62)]) .ret) .skip))) (.keep [] (.seq (.reg false [(cI 2 0)]) .ret)))))))
def rs24 : List RV := [.t 2]
theorem cf24 : CF Tryz.prog Tryz.f24 [1] 0 1 rc24 rs24 1 := ⟨by kernel_rfl, by kernel_rfl, by kernel_rfl, by decide⟩
def rc28 : RC := (.seq (.reg false [(cQ 2 [] (.mv (.k (.z 1))))]) (.keep [0] (.seq (.reg false [(cMv 5 0), ⟨(some 6), none, [5,5], none, .w (.mks 1 [(.i 0)] (.t 5) (.t 5))⟩, (cMv 3 6)]) (.keep [3] (.seq (.seq (.reg false [(cMv 7 3), (cLn 8 7), (cI 9 0)]) (.keep [3,8,9] (.block 0 (.loop [3,8,9] none (.seq (.reg false [(cB 10 .lss 9 8)]) (.keep [3,8,9,10] (.seq (.cond (.t 10) .skip (.exit 0)) (.keep [3,8,9] (.seq (.block 1 (.seq (.reg false [(cMv 11 9), (cMv 4 11)]) (.keep [3,4,8,9] (.reg false [(cMv 12 3), (cMv 13 4), (cMv 14 4), (cA 15 1 12 13), ⟨none, none, [15,14], none, .w (.st 1 (.t 15) (.t 14))⟩])))) (.keep [3,8,9] (.reg false [(cC 16 .add 9 1), (cMv 9 16)]))))))))))) (.keep [3] (.seq (.reg false [(cMv 17 3), (cMv 2 17)]) .ret)))))))
def rs28 : List RV := [.t 2]
theorem cf28 : CF Tryz.prog Tryz.f28 [] 0 1 rc28 rs28 1 := ⟨by kernel_rfl, by kernel_rfl, by kernel_rfl, by decide⟩
def rc29 : RC := (.seq (.reg false [(cX 2 0), (cI 4 0)]) (.keep [1,2,4] (.seq (.reg false [(cQ 5 [] (.mv (.k (.z 1))))]) (.keep [1,2,4,5] (.seq (.seq (.reg false [(cMv 9 1), (cLn 10 9), (cI 11 0)]) (.keep [2,4,5,9,10,11] (.block 0 (.own 5 1 (.loop [2,4,5,9,10,11] none (.seq (.reg false [(cB 12 .lss 11 10)]) (.keep [2,4,5,9,10,11,12] (.seq (.cond (.t 12) .skip (.exit 0)) (.keep [2,4,5,9,10,11] (.seq (.block 1 (.seq (.reg false [(cMv 13 11), (cA 14 1 9 11), (cLd 15 14 false 1), (cMv 6 13), (cMv 7 15)]) (.keep [2,4,5,6,7,9,10,11] (.seq (.reg false [(cI 8 0)]) (.keep [2,4,5,6,7,8,9,10,11] (.seq (.seq (.reg false [(cMv 16 6), (cFa 17 2 0), (cLd 18 17 false 1), (cB 19 .geq 16 18)]) (.keep [2,4,5,6,7,8,9,10,11,19] (.cond (.t 19) (.reg false [(cMv 20 5), (cMv 21 6), (cFa 22 2 0), (cLd 23 22 false 1), (cB 24 .sub 21 23), (cA 25 1 20 24), (cLd 26 25 false 1), (cMv 8 26)]) .skip))) (.keep [2,4,5,6,7,8,9,10,11] (.seq (.reg false [(cMv 27 5), (cMv 28 8), (cFa 29 2 1), (cLd 30 29 false 1), (cMv 31 7), (cA 32 2 30 31), (cFa 33 32 0), (cLd 34 33 false 1), (cB 35 .add 28 34), (cMv 36 4), (cQ 37 [35,36] (.mx (.t 35) (.t 36))), (cQ 38 [37] (.bsl 1 1 [(.i 0)] [(0,1, (.t 37))])), ⟨(some 39), none, [27,38], none, .w (.app 1 (.t 27) (.t 38))⟩, (cMv 5 39)]) (.keep [2,5,6,7,9,10,11] (.any false 0 [⟨(cMv 40 5), [], []⟩, ⟨(cMv 41 6), [], []⟩, ⟨(cA 42 1 40 41), [], [0,1]⟩, ⟨(cLd 43 42 false 1), [], [2,0,1]⟩, ⟨(cFa 44 2 1), [], []⟩, ⟨(cLd 45 44 false 1), [], [4]⟩, ⟨(cMv 46 7), [], []⟩, ⟨(cA 47 2 45 46), [], [5,4,6]⟩, ⟨(cFa 48 47 1), [], [7,5,4,6]⟩, ⟨(cLd 49 48 false 1), [], [8,7,5,4,6]⟩, ⟨(cB 50 .add 43 49), [], [3,2,0,1,9,8,7,5,4,6]⟩, ⟨(cMv 4 50), [], [10,3,2,0,1,9,8,7,5,4,6]⟩])))))))))) (.keep [2,4,5,9,10,11] (.reg false [(cC 51 .add 11 1), (cMv 11 51)])))))))))))) (.keep [4] (.seq (.reg false [(cMv 52 4), (cMv 4 52)]) .ret)))))))
def rs29 : List RV := [.t 4]
theorem cf29 : CF Tryz.prog Tryz.f29 [2,38] 0 1 rc29 rs29 2 := ⟨by kernel_rfl, by kernel_rfl, by kernel_rfl, by decide⟩
def rc75 : RC := (.seq (.reg false [(cQ 6 [] (.mv (kB false)))]) (.keep [0,1,2] (.seq (.seq (.reg false [(cMv 9 1), (cMv 10 0), (cLn 11 10), (cB 12 .eql 9 11)]) (.keep [0,1,2,12] (.cond (.t 12) (.seq (.yrh false [(cMv 13 2), (cMv 14 0)] ⟨(some 15), none, [13,14], none, .o (.t 13) [(.t 14)]⟩ [(cMv 6 15)]) .ret) .skip))) (.keep [0,1,2] (.seq (.seq (.reg false [(cMv 16 1), (cMv 7 16)]) (.keep [0,1,2,7] (.block 0 (.loop [0,1,2,7] none (.seq (.seq (.reg false [(cMv 17 7), (cMv 18 0), (cLn 19 18), (cB 20 .lss 17 19)]) (.keep [0,1,2,7,20] (.cond (.t 20) .skip (.exit 0)))) (.keep [0,1,2,7] (.seq (.block 1 (.seq (.any false 0 [⟨(cMv 23 0), [], []⟩, ⟨(cMv 24 1), [], []⟩, ⟨(cMv 25 0), [], []⟩, ⟨(cMv 26 7), [], []⟩, ⟨(cMv 27 0), [], []⟩, ⟨(cMv 28 7), [], []⟩, ⟨(cA 29 1 27 28), [], [4,5]⟩, ⟨(cLd 30 29 false 1), [], [6,4,5]⟩, ⟨(cMv 31 0), [], []⟩, ⟨(cMv 32 1), [], []⟩, ⟨(cA 33 1 31 32), [], [8,9]⟩, ⟨(cLd 34 33 false 1), [], [10,8,9]⟩, ⟨(cA 35 1 23 24), [], [0,1,4,5,6,7,11,10,8,9]⟩, ⟨⟨none, none, [35,30], none, .w (.st 1 (.t 35) (.t 30))⟩, [2,3], [12,0,1,4,5,6,7,11,10,8,9]⟩, ⟨(cA 36 1 25 26), [], [2,3,0,1,4,5,6,7,8,9,10,11,12,13]⟩, ⟨⟨none, none, [36,34], none, .w (.st 1 (.t 36) (.t 34))⟩, [], [14,2,3,0,1,4,5,6,7,8,9,10,11,12,13]⟩]) (.keep [0,1,2,7] (.seq (.ycl 3 false [(cMv 37 0), (cMv 38 1), (cC 39 .add 38 1), (cMv 40 2)] ⟨(some 41), none, [37,39,40], none, .o (kF 75) [(.t 37), (.t 39), (.t 40)]⟩ [(cMv 8 41)]) (.keep [0,1,2,7,8] (.seq (.any false 0 [⟨(cMv 42 0), [], []⟩, ⟨(cMv 43 1), [], []⟩, ⟨(cMv 44 0), [], []⟩, ⟨(cMv 45 7), [], []⟩, ⟨(cMv 46 0), [], []⟩, ⟨(cMv 47 7), [], []⟩, ⟨(cA 48 1 46 47), [], [4,5]⟩, ⟨(cLd 49 48 false 1), [], [6,4,5]⟩, ⟨(cMv 50 0), [], []⟩, ⟨(cMv 51 1), [], []⟩, ⟨(cA 52 1 50 51), [], [8,9]⟩, ⟨(cLd 53 52 false 1), [], [10,8,9]⟩, ⟨(cA 54 1 42 43), [], [0,1,4,5,6,7,11,10,8,9]⟩, ⟨⟨none, none, [54,49], none, .w (.st 1 (.t 54) (.t 49))⟩, [2,3], [12,0,1,4,5,6,7,11,10,8,9]⟩, ⟨(cA 55 1 44 45), [], [2,3,0,1,4,5,6,7,8,9,10,11,12,13]⟩, ⟨⟨none, none, [55,53], none, .w (.st 1 (.t 55) (.t 53))⟩, [], [14,2,3,0,1,4,5,6,7,8,9,10,11,12,13]⟩]) (.keep [0,1,2,7,8] (.seq (.reg false [(cMv 56 8), (cN 57 56)]) (.keep [0,1,2,7,57] (.cond (.t 57) (.seq (.reg false [(cQ 6 [] (.mv (kB false)))]) .ret) .skip)))))))))) (.keep [0,1,2,7] (.reg false [(cMv 21 7), (cC 22 .add 21 1), (cMv 7 22)]))))))))) (.keep [] (.seq (.reg false [(cQ 6 [] (.mv (kB true)))]) .ret)))))))
def rs75 : List RV := [.t 6]
theorem cf75 : CF Tryz.prog Tryz.f75 [] 3 3 rc75 rs75 3 := ⟨by kernel_rfl, by kernel_rfl, by kernel_rfl, by decide⟩
def rc74 : RC := (.ycl 2 false [(cFa 3 1 1), (cLd 4 3 false 1), (cLn 5 4), ⟨(some 6), none, [5], none, .o (kF 28) [(.t 5)]⟩, (cMv 7 0)] ⟨(some 8), none, [6,7], none, .o (kF 75) [(.t 6), (kI 0), (.t 7)]⟩ [])
def rs74 : List RV := []
theorem cf74 : CF Tryz.prog Tryz.f74 [1000006] 2 3 rc74 rs74 2 := ⟨by kernel_rfl, by kernel_rfl, by kernel_rfl, by decide⟩
def rc53 : RC := (.seq (.reg false [(cX 1 0), (cQ 2 [] (.mv (.k .u)))]) (.keep [1] (.seq (.reg false [(cQ 3 [1] (.mkf 74 [(.t 1)])), (cMv 2 3)]) .ret)))
def rs53 : List RV := [.t 2]
theorem cf53 : CF Tryz.prog Tryz.f53 [1] 0 1 rc53 rs53 1 := ⟨by kernel_rfl, by kernel_rfl, by kernel_rfl, by decide⟩
def rc30 : RC := (.dum (.seq (.reg false [(cX 1 0), (cQ 2 [] (.mv (.k (.z 1)))), (cI 3 0)]) (.keep [1,18] (.seq (.seq (.reg false [(cLd 7 1 true 2), (cQ 8 [7] (.call (kF 24) [(.t 7)])), (cMv 4 8)]) (.keep [1,4,18] (.seq (.reg false [(cMv 9 4), (cC 10 .neq 9 0)]) (.keep [1,4,10,18] (.cond (.t 10) (.seq (.reg false [(cMv 11 4), (cQ 2 [] (.mv (.k (.z 1)))), (cMv 3 11)]) .ret) .skip))))) (.keep [1,18] (.seq (.reg false [(cFa 12 1 1), (cLd 13 12 false 1), (cLn 14 13), (cQ 15 [14] (.call (kF 28) [(.t 14)])), ⟨(some 5), none, [], none, .w (.alc [(.z 1)])⟩, ⟨none, none, [5,15], none, .w (.st 1 (.t 5) (.t 15))⟩]) (.keep [1,5,18] (.seq (.seq (.reg false [(cLd 16 1 true 2), (cQ 17 [16] (.call (kF 53) [(.t 16)]))]) (.keep [1,5,17,18] (.block 0 (.rfh (.t 17) [18] 2 1 (.reg false [(cMv 6 18)]) (.block 1 (.seq (.any false 0 [⟨(cLd 19 1 true 2), [], []⟩, ⟨(cMv 20 6), [], []⟩, ⟨(cQ 21 [19,20] (.call (kF 29) [(.t 19), (.t 20)])), [], [0,1]⟩, ⟨(cLd 22 1 true 2), [], []⟩, ⟨(cLd 23 5 false 1), [], []⟩, ⟨(cQ 24 [22,23] (.call (kF 29) [(.t 22), (.t 23)])), [], [3,4,2,0,1]⟩, ⟨(cB 25 .lss 21 24), [], [2,0,1,5,3,4]⟩]) (.keep [5,6,25] (.cond (.t 25) (.reg false [(cMv 26 6), ⟨(some 27), none, [26], none, .o (kF 54) [(.t 26)]⟩, ⟨none, none, [5,27], none, .w (.st 1 (.t 5) (.t 27))⟩]) .skip)))))))) (.keep [5] (.seq (.reg false [(cLd 28 5 false 1), (cMv 2 28), (cI 3 0)]) .ret))))))))))
def rs30 : List RV := [.t 2, .t 3]
theorem cf30 : CF Tryz.prog Tryz.f30 [1000027,1] 0 1 rc30 rs30 1 := ⟨by kernel_rfl, by kernel_rfl, by kernel_rfl, by decide⟩
def rc10 : RC := (.seq (.reg false [(cX 1 0), (cI 2 0), (cI 3 0)]) (.keep [1] (.seq (.reg false [(cLd 7 1 true 2), (cQ 8 [7] (.call (kF 30) [(.t 7)])), (cMv 6 8), (cEx 9 6 0), (cEx 10 6 1), (cMv 4 9), (cMv 5 10)]) (.keep [1,4,5] (.seq (.seq (.reg false [(cMv 11 5), (cC 12 .neq 11 0)]) (.keep [1,4,5,12] (.cond (.t 12) (.seq (.reg false [(cMv 13 5), (cI 2 0), (cMv 3 13)]) .ret) .skip))) (.keep [1,4] (.seq (.reg false [(cLd 14 1 true 2), (cMv 15 4), (cQ 16 [14,15] (.call (kF 29) [(.t 14), (.t 15)])), (cMv 2 16), (cI 3 0)]) .ret)))))))
def rs10 : List RV := [.t 2, .t 3]
theorem cf10 : CF Tryz.prog Tryz.f10 [1] 0 1 rc10 rs10 1 := ⟨by kernel_rfl, by kernel_rfl, by kernel_rfl, by decide⟩
end Go.C06
set_option linter.unusedSimpArgs false
set_option linter.unusedVariables false
namespace Go.C06
open Go.Fam Go.Proofs
variable {Γ : Gam}
theorem Zbe (n lo hi : Int)  : H19 48 [.i n, .i lo, .i hi] = (True, .b (Qa6 n lo hi)) := h72 n lo hi
def Qcq (b : Boil) : Bool := Qa6 b.soak 0 999 && Qa6 b.bend 0 999
theorem W92 (b : Boil) : Qa5 Tryz.prog 47 [.ag (Qeg b)] (.b (!Qcq b)) := by
 refine Qa4 Ze3 hmix Tryz.func47 cf47.b cf47.c cf47.s cf47.n ?_
 simp only [rc47, rs47, Zbe, Qa0, Qa2, Qa1, flat, ↓reduceIte, Nat.reduceEqDiff, Nat.reduceAdd, Nat.reduceLT, Nat.reduceLeDiff, rvs, zipA, V.b.injEq, Qa, implies_true, Bool.not_not, Q5, Qj, Zdv, Zm, imp_self, Qeg, BU1]
 unfold Qcq
 by_cases h : Qa6 b.soak 0 999 = true <;> simp [h]
def eO1 (b : Boil) : List V := [.ag (Qeg b)]
def dO1 : List V → Boil | [.ag s] => Qs6 s | _ => Qs6 []
noncomputable def H20 : Gam := H19.ext 47 (fnG eO1 dO1 (fun _ => True) (fun b => !Qcq b) .b)
theorem Ze4 : GOk Tryz.prog H20 := Ze3.ext (f := 47) (fun a w => Tryz.call47 a w) (Qad fun a _ => W92 a)
theorem h92 (b : Boil) : H20 47 [.ag (Qeg b)] = (True, .b (!Qcq b)) :=
 (show H20 47 _ = fnG eO1 dO1 (fun _ => True) (fun b => !Qcq b) .b (eO1 b) from rfl).trans (Qab _ rfl)
theorem P103 (hG : GOk Tryz.prog Γ) (l : List Boil) (f : Nat) (hf : f < 1000000) (caps : List V) (p : Boil → Bool) (hv : caps.map (vw [] 8) = caps) (hr : Qa1 caps = false) (hl : l.length < 10000000)
  (h : ∀ x ∈ l, Γ f (V.ag (Qeg x) :: caps) = (True, .b (p x))) : Qa5 Tryz.prog 70 [.sl 2 (l.map Qeg), .fn f caps] (.i (idxOf p l)) := by
 refine Qa4 hG hmix Tryz.func70 cf70.b cf70.c cf70.s cf70.n ?_
 simp only [rc70, rs70, Qa0, ↓reduceIte, Nat.reduceEqDiff, Int.reduceNeg, zipA, reduceCtorEq, BU1]
 refine Qap l.length (fun i => ⟨lkp [(0, .sl 2 (l.map Qeg)), (1, .fn f caps), (7, .i l.length), (8, .i i)], []⟩) (fun i => ∀ j x, j < i → l[j]? = some x → p x = false) ?_ ?_ ?_ ?_
 ·simp only [Qe, ↓reduceIte, Nat.reduceEqDiff, reduceCtorEq, BU1]
 ·intro j x h; omega
 ·intro i hi hc
  obtain ⟨x, hx⟩ : ∃ x, l[i]? = some x := ⟨_, Qb hi⟩
  have hlt : (i : Int) < l.length := by omega
  have h3 : inI ((i : Int) + 1) := by unfold inI; omega
  have hp := h x (Qd hx)
  try simp only [Qeg] at hp
  simp only [hx, hlt, Qg, Qh, h3, hp, hv, hr, hf, Qdp, Qa0, Qa2, Qa1, flat, ↓reduceIte, Nat.reduceEqDiff, Nat.reduceAdd, Nat.reduceLeDiff, Int.reduceNeg, rvs, V.i.injEq, Qa, implies_true, reduceCtorEq, Qz, Qeg, BU1]
  refine ⟨fun e => ?_, fun e => ?_⟩
  ·rw [Qas hx e hc]
  ·intro j y hj hy
   by_cases hji : j < i
   ·exact hc j y hji hy
   ·have : j = i := by omega
    subst this
    rw [hx] at hy; cases hy; exact e
 ·intro hc
  simp only [Qa0, ↓reduceIte, Nat.reduceEqDiff, Int.reduceNeg, rvs, Qi, V.i.injEq, Qa, reduceCtorEq, BU1]
  exact (Qaj fun x hx => by
   obtain ⟨j, hj⟩ := Qs hx
   exact hc j x (by have := Qaf hj; exact this) hj).symm
def eOs (l : List Boil) : List V := [.sl 2 (l.map Qeg), .fn 47 []]
def dOs : List V → List Boil | [.sl _ l, _] => l.map Qs6 | _ => []
theorem Zd1 (l : List Boil) : dOs (eOs l) = l := by simp [dOs, eOs, Function.comp_def, Qs7]
noncomputable def H21 : Gam := H20.ext 70 (fnG eOs dOs (fun l => l.length < 10000000) (idxOf fun b => !Qcq b) .i)
theorem Ze5 : GOk Tryz.prog H21 := Ze4.ext (f := 70) (fun a w => Tryz.call70 a w) (Qad fun l h => P103 Ze4 l 47 (by decide) [] _ rfl rfl h fun b _ => h92 b)
theorem h103 (l : List Boil) : H21 70 [.sl 2 (l.map Qeg), .fn 47 []] = (l.length < 10000000, .i (idxOf (fun b => !Qcq b) l)) :=
 (show H21 70 _ = fnG eOs dOs (fun l => l.length < 10000000) (idxOf fun b => !Qcq b) .i (eOs l) from rfl).trans (Qab _ (Zd1 _))
theorem W93 (l : List Boil) (h : l.length < 10000000) : Qa5 Tryz.prog 49 [.sl 2 (l.map Qeg), .fn 47 []] (.b (l.any fun b => !Qcq b)) := by
 refine Qa4 Ze5 hmix Tryz.func49 cf49.b cf49.c cf49.s cf49.n ?_
 simp only [rc49, rs49, h103, Qa0, Qa2, Qa1, flat, ↓reduceIte, Nat.reduceEqDiff, Nat.reduceLT, rvs, zipA, V.b.injEq, Qa, implies_true, reduceCtorEq, BU1]
 exact ⟨h, by rw [Qal]⟩
noncomputable def H22 : Gam := H21.ext 49 (fnG eOs dOs (fun l => l.length < 10000000) (fun l => l.any fun b => !Qcq b) .b)
theorem Qto : GOk Tryz.prog H22 := Ze5.ext (f := 49) (fun a w => Tryz.call49 a w) (Qad fun l h => W93 l h)
theorem h93 (l : List Boil) : H22 49 [.sl 2 (l.map Qeg), .fn 47 []] = (l.length < 10000000, .b (l.any fun b => !Qcq b)) :=
 (show H22 49 _ = fnG eOs dOs (fun l => l.length < 10000000) (fun l => l.any fun b => !Qcq b) .b (eOs l) from rfl).trans (Qab _ (Zd1 _))
theorem Zbf (n lo hi : Int)  : H22 48 [.i n, .i lo, .i hi] = (True, .b (Qa6 n lo hi)) := h72 n lo hi
def Qx1 (s : Box) : Bool := Qa6 s.room 1 7 && decide ((s.boils.length : Int) ≤ 7) && !(s.boils.any fun b => !Qcq b)
def boxE (s : Box) : Int := if Qx1 s = true then 0 else 62
theorem W74 (s : Box) : Qa5 Tryz.prog 24 [.ag (eBox s)] (.i (boxE s)) := by
 refine Qa4 Qto hmix Tryz.func24 cf24.b cf24.c cf24.s cf24.n ?_
 simp only [rc24, rs24, Zbf, h93, Qdp, Qa0, Qa2, Qa1, flat, ↓reduceIte, Nat.reduceEqDiff, Nat.reduceAdd, Nat.reduceLT, Nat.reduceLeDiff, rvs, zipA, V.i.injEq, Qa, implies_true, Bool.not_not, Q5, Qj, Zdv, Q4, Zm, imp_self, Qz, eBox, BU1]
 unfold boxE Qx1
 by_cases h1 : Qa6 s.room 1 7 = true
 ·by_cases h2 : (7 : Int) < s.boils.length
  ·have h3 : ¬ (s.boils.length : Int) ≤ 7 := by omega
   simp [h1, h2, h3]
  ·have h3 : (s.boils.length : Int) ≤ 7 := by omega
   have h4 : s.boils.length < 10000000 := by omega
   by_cases h5 : (s.boils.any fun b => !Qcq b) = true <;> simp [h1, h2, h3, h4, h5]
 ·simp [h1]
structure OkX (s : Box) : Prop where
 room : 1 ≤ s.room ∧ s.room ≤ 7
 len : s.boils.length ≤ 7
 boil : ∀ b ∈ s.boils, (0 ≤ b.soak ∧ b.soak ≤ 999) ∧ 0 ≤ b.bend ∧ b.bend ≤ 999
theorem Qnj {s : Box} : boxE s = 0 ↔ OkX s := by
 have e : boxE s = 0 ↔ Qx1 s = true := by unfold boxE; split <;> simp_all
 rw [e]
 unfold Qx1
 simp only [Zc, decide_eq_true_eq, Qj, Zx, Bool.not_eq_false, Qcq, Qa6]
 constructor
 ·rintro ⟨⟨h1, h2⟩, h3⟩
  exact ⟨h1, by omega, fun b hb => by simpa using h3 b hb⟩
 ·rintro ⟨h1, h2, h3⟩
  exact ⟨⟨h1, by omega⟩, fun b hb => by simpa using h3 b hb⟩
def Qbv (n : Nat) : List Int := (Zt n).map fun (i : Nat) => (i : Int)
theorem flat_I (l : List Int) : (l.map eI).flatten = l.map V.i := by
 induction l with
 | nil => rfl
 | cons x l ih => simp [eI] at ih ⊢; exact ih
theorem hdD (l : List Int) (k : Nat) (h : k < l.length) : ((l.map V.i).drop k).headD .u = .i (l.getD k 0) := by
 rw [List.headD_eq_head?_getD, List.head?_drop, Qy, Qb h, Qc, Qb h]; rfl
theorem putI (l : List Int) (k : Nat) (x : Int) (h : k < l.length) : (l.map V.i).take k ++ [V.i x] ++ (l.map V.i).drop (k + 1) = (l.set k x).map V.i := by
 have := Qtu k (.i x) (l.map V.i) (by simpa using h)
 rw [List.map_set, ← this]; rfl
theorem chunkI (l : List Int) : Qcg 1 (l.map V.i) 0 l.length = l.map eI := by rw [← flat_I]; exact Qb3 l
theorem noref_Is (l : List Int) : Qa1 (l.map V.i) = false := by rw [← flat_I]; exact Qay l
def Qfp (n k : Nat) : List Int := (Zt n).map fun (i : Nat) => if i < k then (i : Int) else 0
theorem Qom {n k : Nat} (h : k < n) : (Qfp n k).set k (k : Int) = Qfp n (k + 1) := by
 apply Z5 (by simp [Qfp])
 intro i h1 h2
 simp only [Qfp, List.getElem_set, List.getElem_map, List.getElem_range]
 by_cases e : k = i
 ·subst e; simp
 ·rw [if_neg e]
  by_cases h : i < k
  ·rw [if_pos h, if_pos (by omega)]
  ·rw [if_neg h, if_neg (by omega)]
theorem Qtl (n : Nat) : (Qfp n 0).map V.i = (List.replicate n [V.i 0]).flatten := by
 induction n with
 | zero => rfl
 | succ n ih =>
  rw [List.replicate_succ', List.flatten_append, ← ih]
  simp [Qfp, List.range_succ]
theorem Qtm (n : Nat) : Qfp n n = Qbv n := by
 unfold Qfp Qbv
 apply Q3
 intro i hi
 rw [if_pos (by simpa using hi)]
theorem W78 (n : Nat) (h : n ≤ 1000000) : Qdb Tryz.prog 28 [.i n] (.rf 0 0 0 n 1) [.cells 0 ((Qbv n).map V.i)] := by
 refine Qhp Qto hmix Tryz.func28 cf28.b cf28.c cf28.s cf28.n ?_
 have hn0 : (0 : Int) ≤ n := by omega
 have hn2 : (n : Int) ≤ 2147483648 := by omega
 simp only [rc28, rs28, hn0, hn2, ← Qtl, Qa0, ↓reduceIte, Nat.reduceEqDiff, zipA, reduceCtorEq, BU1]
 refine ⟨Int.le_refl _, ?_⟩
 refine Qb5 n (fun k => ⟨lkp [(3, .rf 0 0 0 n 1), (8, .i n), (9, .i k)], [.cells 0 ((Qfp n k).map V.i)]⟩) ?_ ?_ ?_
 ·simp only [Qe, ↓reduceIte, Nat.reduceEqDiff, BU1]
 ·intro k hk
  have hlt : (k : Int) < n := by omega
  have h1 : inI ((k : Int) + 1) := by unfold inI; omega
  have hl : ((Qfp n k).map V.i).length = n := by simp [Qfp]
  have hp := putI (Qfp n k) k k (by simp [Qfp]; omega)
  rw [Qom hk] at hp
  simp only [hlt, h1, hl, hp, Qr, Qg, Qh, Qa0, Qah, ↓reduceIte, Nat.reduceEqDiff, BU1]
  omega
 ·simp only [Qi, Qtm, endO, Qa0, ↓reduceIte, Nat.reduceEqDiff, rvs, Qi, Qa, BU1]
theorem W78p (n : Nat) (h : n ≤ 1000000) : Qa5 Tryz.prog 28 [.i n] (.sl 1 ((Qbv n).map eI)) := by
 refine Qa4 Qto hmix Tryz.func28 cf28.b cf28.c cf28.s cf28.n ?_
 have hn0 : (0 : Int) ≤ n := by omega
 have hn2 : (n : Int) ≤ 2147483648 := by omega
 simp only [rc28, rs28, hn0, hn2, ← Qtl, Qa0, ↓reduceIte, Nat.reduceEqDiff, zipA, reduceCtorEq, BU1]
 refine ⟨Int.le_refl _, ?_⟩
 refine Qb5 n (fun k => ⟨lkp [(3, .rf 0 0 0 n 1), (8, .i n), (9, .i k)], [.cells 0 ((Qfp n k).map V.i)]⟩) ?_ ?_ ?_
 ·simp only [Qe, ↓reduceIte, Nat.reduceEqDiff, BU1]
 ·intro k hk
  have hlt : (k : Int) < n := by omega
  have h1 : inI ((k : Int) + 1) := by unfold inI; omega
  have hl : ((Qfp n k).map V.i).length = n := by simp [Qfp]
  have hp := putI (Qfp n k) k k (by simp [Qfp]; omega)
  rw [Qom hk] at hp
  simp only [hlt, h1, hl, hp, Qr, Qg, Qh, Qa0, Qah, ↓reduceIte, Nat.reduceEqDiff, BU1]
  omega
 ·have hl : ((Qbv n).map V.i).length = n := by simp [Qbv]
  have hl2 : (Qbv n).length = n := by simp [Qbv]
  have hc := chunkI (Qbv n)
  rw [hl2] at hc
  simp only [Qi, Qtm, hl, hc, Qr, Qn, vw_I, Qa0, ↓reduceIte, Nat.reduceEqDiff, rvs, Qdk, Qi, Qa, BU1]
end Go.C06
set_option linter.unusedSimpArgs false
set_option linter.unusedVariables false
namespace Go.C06
open Go.Fam Go.Proofs
variable {Γ : Gam}
def Qe4 (s : Box) (b : Int) : Boil := s.boils.getD b.toNat ⟨0, 0⟩
def qD (s : Box) (a : List Int) : Int := if s.room ≤ (a.length : Int) then a.getD ((a.length : Int) - s.room).toNat 0 else 0
def Qxp (s : Box) (st : List Int × Int) (b : Int) : List Int × Int :=
 (st.1 ++ [max (qD s st.1 + (Qe4 s b).soak) st.2], max (qD s st.1 + (Qe4 s b).soak) st.2 + (Qe4 s b).bend)
def stD (s : Box) (l : List Int) : List Int × Int := l.foldl (Qxp s) ([], 0)
def Qcb (s : Box) (l : List Int) : Int := (stD s l).2
theorem Qr0 (s : Box) (l : List Int) (b : Int) : stD s (l ++ [b]) = Qxp s (stD s l) b := by unfold stD; rw [Zy]; rfl
theorem Qqz {s : Box} (hs : OkX s) : ∀ l : List Int, (stD s l).1.length = l.length ∧ (∀ x ∈ (stD s l).1, 0 ≤ x ∧ x ≤ 2000 * l.length) ∧ 0 ≤ (stD s l).2 ∧ (stD s l).2 ≤ 2000 * l.length := by
 refine fun l => Qbo (p := fun l => (stD s l).1.length = l.length ∧ (∀ x ∈ (stD s l).1, 0 ≤ x ∧ x ≤ 2000 * l.length) ∧ 0 ≤ (stD s l).2 ∧ (stD s l).2 ≤ 2000 * l.length) ?_ ?_ l
 ·simp [stD]
 ·rintro l b ⟨h1, h2, h3, h4⟩
  rw [Qr0]
  have hb : (0 ≤ (Qe4 s b).soak ∧ (Qe4 s b).soak ≤ 999) ∧ 0 ≤ (Qe4 s b).bend ∧ (Qe4 s b).bend ≤ 999 := by
   unfold Qe4
   rw [Qc]
   cases hx : s.boils[b.toNat]? with
   | none => simp
   | some x => exact hs.boil x (Qd hx)
  have hin : 0 ≤ qD s (stD s l).1 ∧ qD s (stD s l).1 ≤ 2000 * l.length := by
   unfold qD
   split
   ·have hr := hs.room
    exact h2 _ (Qhj (by omega))
   ·omega
  unfold Qxp
  generalize qD s (stD s l).1 = q at hin
  simp only [Zs, List.length_singleton, Qg, Qh]
  refine ⟨by omega, fun x hx => ?_, by omega, by omega⟩
  rcases Z8.1 hx with hx | hx
  ·have := h2 x hx; omega
  ·have : x = max (q + (Qe4 s b).soak) (stD s l).2 := by simpa using hx
   omega
structure OkD (a : Box × List Int) : Prop where
 box : OkX a.1
 len : a.2.length ≤ 1000
 in_ : ∀ b ∈ a.2, 0 ≤ b ∧ b < a.1.boils.length
theorem Quu {s : Box} {b : Int} (h : 0 ≤ b ∧ b < s.boils.length) : s.boils[b.toNat]? = some (Qe4 s b) := by
 unfold Qe4
 rw [Qc, Qb (by omega)]; rfl
theorem W79 (s : Box) (l : List Int) (h : OkD (s, l)) : Qa5 Tryz.prog 29 [.ag (eBox s), .sl 1 (l.map eI)] (.i (Qcb s l)) := by
 refine Qa4 Qto hmix Tryz.func29 cf29.b cf29.c cf29.s cf29.n ?_
 obtain ⟨hs, hl, hin⟩ := h
 simp only at hs hl hin
 simp only [rc29, rs29, Qow, Qa0, Qa2, Qa1, ↓reduceIte, Nat.reduceEqDiff, zipA, reduceCtorEq, eBox, BU1]
 refine Qb5 l.length (fun i => ⟨lkp [(2, .pa (eBox s)), (4, .i (Qcb s (l.take i))), (5, .rf 0 i 0 i 1), (9, .sl 1 (l.map eI)), (10, .i l.length), (11, .i i)], [.cells i ((stD s (l.take i)).1.map V.i)]⟩) ?_ ?_ ?_
 ·simp only [Qe, Qcb, stD, List.foldl_nil, ↓reduceIte, Nat.reduceEqDiff, eBox, BU1]
 ·intro i hi
  obtain ⟨b, hb⟩ : ∃ b, l[i]? = some b := ⟨_, Qb hi⟩
  have hbi := hin b (Qd hb)
  have hbg := Quu hbi
  have hlt : (i : Int) < l.length := by omega
  have h1 : inI ((i : Int) + 1) := by unfold inI; omega
  obtain ⟨k1, k2, k3, k4⟩ := Qqz hs (l.take i)
  have hbo := hs.boil _ (Qd hbg)
  rw [Zd, Z9 (by omega)] at k1 k2 k4
  have hr := hs.room
  have hlen : ((stD s (l.take i)).1.map V.i).length = i := by simpa using k1
  obtain ⟨A, hA⟩ : ∃ A, A = (stD s (l.take i)).1 := ⟨_, rfl⟩
  obtain ⟨B, hB⟩ : ∃ B, B = Qcb s (l.take i) := ⟨_, rfl⟩
  have hB2 : (stD s (l.take i)).2 = B := hB.symm
  rw [← hA] at k1 k2 hlen ⊢
  rw [hB2] at k3 k4
  rw [← hB]
  obtain ⟨o, ho⟩ : ∃ o, o = max (qD s A + (Qe4 s b).soak) B := ⟨_, rfl⟩
  have hst : stD s (l.take (i + 1)) = (A ++ [o], o + (Qe4 s b).bend) := by
   rw [Qa8 hb, Qr0]
   unfold Qxp
   rw [← hA, hB2, ho]
  have hdn : Qcb s (l.take (i + 1)) = o + (Qe4 s b).bend := by unfold Qcb; rw [hst]
  have happ : A.map V.i ++ [V.i o] = (A ++ [o]).map V.i := by simp
  have hd2 := hdD (A ++ [o]) i (by simp; omega)
  rw [Qo4 (by omega)] at hd2
  have hll : ((A ++ [o]).map V.i).length = i + 1 := by simp; omega
  have hfl : Qao (i + 1) := by unfold Qao; omega
  have hq : 0 ≤ qD s A ∧ qD s A ≤ 2000 * i := by
   unfold qD
   rw [k1]
   split
   ·exact k2 _ (Qhj (by omega))
   ·omega
  have h2 : inI (qD s A + (Qe4 s b).soak) ∧ inI (o + (Qe4 s b).bend) := by unfold inI; omega
  have i3 : (i : Int) < ((i + 1 : Nat) : Int) := by omega
  by_cases hrm : s.room ≤ (i : Int)
  ·obtain ⟨k, hk⟩ : ∃ k : Nat, k = ((i : Int) - s.room).toNat := ⟨_, rfl⟩
   have e1 : (i : Int) - s.room = (k : Int) := by omega
   have hkl : k < A.length := by omega
   have hqe : qD s A = A.getD k 0 := by unfold qD; rw [k1, if_pos hrm, hk]
   have hd1 := hdD A k hkl
   rw [← hqe] at hd1
   have i4 : inI (k : Int) ∧ (k : Int) < i ∧ k + 1 ≤ i := by unfold inI; omega
   simp only [hb, hlt, h1, hbg, hrm, hlen, Qr, e1, hd1, i4, h2, ← ho, Qm, Qp, happ, hd2, hll, hfl, hst, hdn, hbi, Qg, Qh, Qn, Qck, Qaq, Qa0, runX, fpQ, fpV, Qbt, Qak, Qaw, Qb2, Qah, Qa2, Qa1, ↓reduceIte, Nat.reduceEqDiff, Nat.reduceAdd, Nat.reduceLeDiff, Qv, Qa, reduceCtorEq, not_false_eq_true, ne_eq, Qw, Qf, Qeg, eBox, eI, BU1]
   omega
  ·have hqe : qD s A = 0 := by unfold qD; rw [k1, if_neg hrm]
   rw [hqe] at ho h2
   simp only [hb, hlt, h1, hbg, hrm, hlen, Qr, h2, ← ho, Qm, Qp, happ, hd2, hll, hfl, hst, hdn, hbi, Qg, Qh, Qn, Qck, Qaq, Qa0, runX, fpQ, fpV, Qbt, Qak, Qaw, Qb2, Qah, Qa2, Qa1, ↓reduceIte, Nat.reduceEqDiff, Nat.reduceAdd, Nat.reduceLeDiff, Qv, Qa, reduceCtorEq, not_false_eq_true, ne_eq, Qw, Qf, Qeg, eBox, eI, BU1]
   omega
 ·simp only [Qi, Qu, Qa0, ↓reduceIte, Nat.reduceEqDiff, rvs, Qi, Qa, eBox, BU1]
def eXL (a : Box × List Int) : List V := [.ag (eBox a.1), .sl 1 (a.2.map eI)]
def dXL : List V → Box × List Int | [.ag s, .sl _ l] => (dBox s, l.map dI) | _ => (dBox [], [])
theorem Qzp (a : Box × List Int) : dXL (eXL a) = a := by obtain ⟨s, l⟩ := a; simp [dXL, eXL, Qyb, Function.comp_def, Qbl]
def eX1 (s : Box) : List V := [.ag (eBox s)]
def dX1 : List V → Box | [.ag s] => dBox s | _ => dBox []
theorem Qmg (s : Box) : dX1 (eX1 s) = s := by simp [dX1, eX1, Qyb]
def s78 : List V → Prop × V | [.i n] => (0 ≤ n ∧ n ≤ 1000000, .sl 1 ((Qbv n.toNat).map eI)) | _ => (False, .u)
def o78 : List V → Prop × V | [.i n] => (0 ≤ n ∧ n ≤ 1000000, .tp [.rf 0 0 0 n.toNat 1, .tp [bV (.cells 0 ((Qbv n.toNat).map V.i))]]) | _ => (False, .u)
noncomputable def H23 : Gam := (((H22.ext 29 (fnG eXL dXL OkD (fun a => Qcb a.1 a.2) .i)).ext 24 (fnG eX1 dX1 (fun _ => True) boxE .i)).ext 28 s78).ext 1000028 o78
theorem Qx2 : GOk Tryz.prog H23 := by
 have k1 := Qto.ext (f := 29) (fun a w => Tryz.call29 a w) (Qad (e := eXL) (d := dXL) (ok := OkD) (g := fun a => Qcb a.1 a.2) (eb := .i) fun a h => W79 a.1 a.2 h)
 have k2 := k1.ext (f := 24) (fun a w => Tryz.call24 a w) (Qad (e := eX1) (d := dX1) (ok := fun _ => True) (g := boxE) (eb := .i) fun a h => W74 a)
 have k3 := k2.ext (f := 28) (r := s78) (fun a w => Tryz.call28 a w) fun vs h => by
  unfold s78 at h ⊢
  split at h
  ·rename_i n
   have := W78p n.toNat (by omega)
   rw [show (n.toNat : Int) = n by omega] at this
   exact this
  ·exact h.elim
 refine k3.extO (f := 28) (r := o78) (fun a w => Tryz.call28 a w) fun vs v bs h1 h2 => ?_
 unfold o78 at h1 h2
 split at h1
 ·rename_i n
  simp only [V.tp.injEq, Xb.injEq, and_true] at h2
  rw [← h2.1, ← h2.2]
  have := W78 n.toNat (by omega)
  rw [show (n.toNat : Int) = n by omega] at this
  simpa only [Qo, Qx, Qa9] using this
 ·exact h1.elim
theorem h79 (s : Box) (l : List Int) : H23 29 [.ag (eBox s), .sl 1 (l.map eI)] = (OkD (s, l), .i (Qcb s l)) :=
 (show H23 29 _ = fnG eXL dXL OkD (fun a => Qcb a.1 a.2) .i (eXL (s, l)) from rfl).trans (Qab _ (Qzp _))
theorem h74 (s : Box) : H23 24 [.ag (eBox s)] = (True, .i (boxE s)) := (show H23 24 _ = fnG eX1 dX1 (fun _ => True) boxE .i (eX1 s) from rfl).trans (Qab _ (Qmg _))
theorem h78 (n : Int) : H23 28 [.i n] = (0 ≤ n ∧ n ≤ 1000000, .sl 1 ((Qbv n.toNat).map eI)) := rfl
theorem h78o (n : Int) : H23 1000028 [.i n] = (0 ≤ n ∧ n ≤ 1000000, .tp [.rf 0 0 0 n.toNat 1, .tp [bV (.cells 0 ((Qbv n.toNat).map V.i))]]) := rfl
end Go.C06
set_option linter.unusedSimpArgs false
set_option linter.unusedVariables false
namespace Go.C06
open Go.Fam Go.Proofs
variable {Γ : Gam}
def Qfg (L : List Int) (i j : Nat) : List Int := (L.set i (L.getD j 0)).set j (L.getD i 0)
theorem Qd2 (L : List Int) (i j : Nat) : (Qfg L i j).length = L.length := by simp [Qfg]
theorem Qg4 (L : List Int) {i j k : Nat} (hi : i < L.length) (hj : j < L.length) : (Qfg L i j).getD k 0 = if k = j then L.getD i 0 else if k = i then L.getD j 0 else L.getD k 0 := by
 unfold Qfg
 simp only [Qc, List.getElem?_set, List.length_set]
 by_cases e : j = k
 ·subst e; simp [hj]
 ·rw [if_neg e, if_neg (Ne.symm e)]
  by_cases e2 : i = k
  ·subst e2; simp [hi]
  ·rw [if_neg e2, if_neg (Ne.symm e2)]
theorem Qps (L : List Int) {i j : Nat} (hi : i < L.length) (hj : j < L.length) : Qfg (Qfg L i j) i j = L := by
 apply Z5 (by simp [Qd2])
 intro k h1 h2
 have e : ∀ (M : List Int) (h : k < M.length), M[k] = M.getD k 0 := fun M h => by rw [Qc, Qb h]; rfl
 rw [e _ h1, e _ h2, Qg4 _ (by rw [Qd2]; exact hi) (by rw [Qd2]; exact hj), Qg4 _ hi hj, Qg4 _ hi hj, Qg4 _ hi hj]
 by_cases e1 : k = j
 ·subst e1
  simp only [if_true]
  by_cases e2 : i = k
  ·subst e2; simp
  ·rw [if_neg e2]
 ·rw [if_neg e1]
  by_cases e2 : k = i
  ·subst e2; simp
  ·rw [if_neg e2, if_neg e1, if_neg e2]
def Qg2 : Nat → List Int → Nat → List (List Int)
 | 0, L, _ => [L]
 | k + 1, L, f => (Zt (k + 1)).flatMap fun i => Qg2 k (Qfg L f (f + i)) (f + 1)
structure D97 where
 L : List Int
 f : Nat
 caps : List V
 rest : List (List V)
 b0 : V
 l : Nat
def encO (n : Nat) (p : List Int) : List V := gyE [.rf 2 0 0 n 1] [bV (.cells 0 (p.map V.i))]
def eA97 (x : D97) : List V := [.rf 2 0 0 x.L.length 1, .i x.f, .yl x.l]
def eH97 (x : D97) : List Blk := [.gh x.caps (some ((.b true :: [x.b0]) :: ((Qg2 (x.L.length - x.f) x.L x.f).map (encO x.L.length) ++ x.rest))), vB x.b0, .cells 0 (x.L.map V.i)]
def Qwp (xs : List V) (hp : List Blk) : D97 := match xs, hp with
 | [_, .i f, .yl l], [.gh caps (some ([_, b0] :: ys)), _, .cells _ cs] => ⟨cs.map gI, f.toNat, caps, ys.drop (Qg2 ((cs.map gI).length - f.toNat) (cs.map gI) f.toNat).length, b0, l⟩
 | _, _ => ⟨[], 0, [], [], .u, 0⟩
theorem Qyg (L : List Int) : (L.map V.i).map gI = L := by
 rw [Zw]
 exact List.map_id'' (fun _ => rfl) L
theorem Qzs (x : D97) : Qwp (eA97 x) (eH97 x) = x := by
 obtain ⟨L, f, caps, rest, b0, l⟩ := x
 simp only [Qwp, eA97, eH97, Qyg, Int.toNat_natCast]
 rw [List.drop_append_of_le_length (by simp)]
 simp
structure C97 (k : Nat) (al : List V → Prop) (x : D97) : Prop where
 y : x.caps[0]? = some (.yl x.l)
 f : x.f ≤ x.L.length
 k : x.L.length - x.f < k
 len : x.L.length ≤ 1000
 now : al [x.b0]
 one : ∀ bv, al bv → ∃ b, bv = [b]
def R97 (al : List V → Prop) (x : D97) (r : V) (hp : List Blk) : Prop :=
 ∃ (b : Bool) (b0 : V), al [b0] ∧ r = .b b ∧ hp = [.gh x.caps (some ((.b b :: [b0]) :: if b then x.rest else [])), vB b0, .cells 0 (x.L.map V.i)]
noncomputable def HQ (k : Nat) : Gam := H23.extY 75 fun al => hpG eA97 eH97 Qwp (C97 k al) (R97 al)
theorem kQ (k : Nat) (al : List V → Prop) (x : D97) : ((HQ k).wal al).y 75 al (eA97 x) (eH97 x) = (C97 k al x, R97 al x) :=
 (show ((HQ k).wal al).y 75 al _ _ = hpG eA97 eH97 Qwp (C97 k al) (R97 al) _ _ from rfl).trans (Qo9 x (Qzs x))
set_option maxHeartbeats 1000000 in
theorem W97 (k : Nat) (hG : GOk Tryz.prog (HQ k)) (al : List V → Prop) (x : D97) (h : C97 (k + 1) al x) : Qi4 Tryz.prog 75 al (eA97 x) (eH97 x) (R97 al x) := by
 refine Qg6 (hG.wal al) hmix Tryz.func75 cf75.b (lo := 3) cf75.c cf75.s (by exact cf75.n) (by rfl) (by decide) ?_
 obtain ⟨L, f, caps, rest, b0, l⟩ := x
 obtain ⟨hy, hf, hk, hlen, hal, hone⟩ := h
 simp only at hy hf hk hlen hal
 have hyal : ((HQ k).wal al).al = al := rfl
 obtain ⟨n, hn⟩ : ∃ n, n = L.length := ⟨_, rfl⟩
 have hlI : (L.map V.i).length = n := by simp [hn]
 by_cases hfn : f = n
 ·have e0 : (f : Int) = (n : Int) := by omega
  have ey : Qg2 (n - f) L f = [L] := by rw [hfn, Nat.sub_self]; rfl
  simp only [rc75, rs75, eA97, eH97, ← hn, e0, ey, encO, hy, hyal, Qa9, Qu8, yres, Qa9, endK, Qa0, ↓reduceIte, Nat.reduceEqDiff, Nat.reduceAdd, rvs, zipA, reduceCtorEq, BU1]
  intro b bv' hbv
  obtain ⟨b', rfl⟩ := hone bv' hbv
  refine ⟨b, b', hbv, rfl, ?_⟩
  simp [Qa9]
 ·have e0 : ¬ (f : Int) = (n : Int) := by omega
  simp only [rc75, rs75, eA97, eH97, ← hn, e0, Qa0, ↓reduceIte, Nat.reduceEqDiff, Nat.reduceAdd, zipA, Qa, reduceCtorEq, BU1]
  obtain ⟨K, hK⟩ : ∃ K, n - f = K + 1 := ⟨n - f - 1, by omega⟩
  obtain ⟨rem, hrem⟩ : ∃ rem : Nat → List (List Int), rem = fun j => ((Zt (K + 1)).drop j).flatMap fun i => Qg2 K (Qfg L f (f + i)) (f + 1) := ⟨_, rfl⟩
  have hr0 : Qg2 (n - f) L f = rem 0 := by rw [hK, hrem]; rfl
  have hrs : ∀ j, j < K + 1 → rem j = Qg2 K (Qfg L f (f + j)) (f + 1) ++ rem (j + 1) := by
   intro j hj
   rw [hrem]
   simp only
   rw [Qat (List.getElem?_range hj), List.flatMap_cons]
  have hre : rem (K + 1) = [] := by
   rw [hrem]
   simp only
   rw [List.drop_eq_nil_iff.2 (by simp)]; rfl
  have hff : (f : Int) < n := by omega
  refine Qan (K + 1) (fun j b => ⟨lkp [(0, .rf 2 0 0 n 1), (1, .i f), (2, .yl l), (7, .i (f + j))], [.gh caps (some ((.b true :: [b]) :: ((rem j).map (encO n) ++ rest))), vB b, .cells 0 (L.map V.i)]⟩) (fun j b => al [b]) b0 ?_ hal ?_ ?_
  ·simp only [Qe, Int.add_zero, hr0, ↓reduceIte, Nat.reduceEqDiff, reduceCtorEq, BU1]
  ·intro j b hj hb
   obtain ⟨i, hi⟩ : ∃ i, i = f + j := ⟨_, rfl⟩
   have hin : i < n := by omega
   have ei : (f : Int) + j = (i : Int) := by omega
   have hii : (i : Int) < n := by omega
   have i1 : inI ((i : Int) + 1) ∧ inI ((f : Int) + 1) := by unfold inI; omega
   obtain ⟨x, hx⟩ : ∃ x, x = L.getD i 0 := ⟨_, rfl⟩
   obtain ⟨z, hz⟩ : ∃ z, z = L.getD f 0 := ⟨_, rfl⟩
   obtain ⟨M, hM⟩ : ∃ M, M = Qfg L f i := ⟨_, rfl⟩
   have hMl : M.length = n := by rw [hM, Qd2]; exact hn.symm
   obtain ⟨x', hx'⟩ : ∃ x, x = M.getD i 0 := ⟨_, rfl⟩
   obtain ⟨z', hz'⟩ : ∃ z, z = M.getD f 0 := ⟨_, rfl⟩
   have d1 := hdD L i (by omega)
   have d2 := hdD L f (by omega)
   have d3 := hdD M i (by omega)
   have d4 := hdD M f (by omega)
   have p1 := putI L f x (by omega)
   have p2 := putI (L.set f x) i z (by simp; omega)
   have p3 := putI M f x' (by omega)
   have p4 := putI (M.set f x') i z' (by simp; omega)
   have hsw : (L.set f x).set i z = M := by rw [hx, hz, hM]; rfl
   have hsw2 : (M.set f x').set i z' = L := by
    rw [hx', hz', hM]
    exact Qps L (by omega) (by omega)
   rw [hsw] at p2
   rw [hsw2] at p4
   rw [← hx] at d1
   rw [← hz] at d2
   rw [← hx'] at d3
   rw [← hz'] at d4
   have hl1 : ∀ M : List Int, (M.map V.i).length = M.length := fun M => by simp
   have hl3 : (L.set f x).length = n ∧ (M.set f x').length = n := by simp [hn, hMl]
   have g := kQ k al ⟨M, f + 1, caps, (rem (j + 1)).map (encO n) ++ rest, b, l⟩
   simp only [eA97, eH97, hMl] at g
   have hKf : n - (f + 1) = K := by omega
   rw [hKf, ← List.append_assoc, ← List.map_append] at g
   have hrj := hrs j hj
   rw [← hi, ← hM] at hrj
   rw [← hrj] at g
   have eN : ((f + 1 : Nat) : Int) = (f : Int) + 1 := by omega
   rw [eN] at g
   have e5 : (i : Nat) + 1 ≤ n ∧ f + 1 ≤ n := by omega
   simp only [ei, hii, hff, i1, d1, d2, p1, p2, hl1, hl3, ← hn, Qr, e5, hyal, g, Qdp, Qyt, Qaq, optL, endK, Qa0, runX, fpQ, fpV, binW, Qah, ↓reduceIte, Nat.reduceEqDiff, Nat.reduceAdd, Nat.reduceLeDiff, Zz, rvs, Q0, Zq, Qa, forall_const, implies_true, reduceCtorEq, List.any_cons, Qw, Qf, Qj, imp_self, Qz, BU1]
   refine ⟨⟨hy, by show f + 1 ≤ M.length; omega, by show M.length - (f + 1) < k; omega, by show M.length ≤ 1000; omega, hb, hone⟩, ?_⟩
   rintro r hp' ⟨bb, b2, hb2, rfl, rfl⟩
   simp only [d3, d4, p3, p4, hl1, hl3, hMl, e5, Qaq, Qah, Zz, Q6, List.any_cons, Q5, Qj, BU1]
   refine ⟨fun e => ?_, fun e => ?_⟩
   ·subst e
    exact ⟨false, b2, hb2, rfl, by simp⟩
   ·subst e
    have e6 : (i : Int) + 1 = f + ((j + 1 : Nat) : Int) := by omega
    exact ⟨b2, hb2, by simp [e6]⟩
  ·intro b hb
   have ef : (f : Int) + ((K + 1 : Nat) : Int) = n := by omega
   simp only [ef, Qi, hre, endK, Qa0, ↓reduceIte, Nat.reduceEqDiff, rvs, Qi, Qa, reduceCtorEq, BU1]
   exact ⟨true, b, hb, rfl, by simp⟩
theorem okHQ : ∀ k, GOk Tryz.prog (HQ k) := by
 intro k
 induction k with
 | zero =>
  refine Qx2.extY (f := 75) (fun a w => Tryz.call75 a w) fun al => Qwv fun x hx => ?_
  have := hx.k
  omega
 | succ k ih => exact Qx2.extY (f := 75) (fun a w => Tryz.call75 a w) fun al => Qwv fun x hx => W97 k ih al x hx
def allO (n : Nat) : List (List Int) := Qg2 n (Qbv n) 0
def it96 (n : Nat) (xs : List V) (b0 : V) : List Blk := [.gh xs (some ((.b true :: [b0]) :: (allO n).map (encO n))), vB b0]
theorem W96 (al : List V → Prop) (s : Box) (l : Nat) (b0 : V) (hn : s.boils.length ≤ 1000) (hal : al [b0]) (hone : ∀ bv, al bv → ∃ b, bv = [b]) :
  Qi4 Tryz.prog 74 al [.yl l, .pa (eBox s)] (it96 s.boils.length [.yl l, .pa (eBox s)] b0) (RIt al [.yl l, .pa (eBox s)]) := by
 refine Qg6 ((okHQ 1001).wal al) hmix Tryz.func74 cf74.b (lo := 2) cf74.c cf74.s (by exact cf74.n) (by rfl) (by decide) ?_
 have g1 : ((HQ 1001).wal al) 1000028 [.i s.boils.length] = (0 ≤ (s.boils.length : Int) ∧ (s.boils.length : Int) ≤ 1000000, .tp [.rf 0 0 0 s.boils.length 1, .tp [bV (.cells 0 ((Qbv s.boils.length).map V.i))]]) := h78o s.boils.length
 have hyal : ((HQ 1001).wal al).al = al := rfl
 have hnl : (Qbv s.boils.length).length = s.boils.length := by simp [Qbv]
 have g2 := kQ 1001 al ⟨Qbv s.boils.length, 0, [.yl l, .pa (eBox s)], [], b0, l⟩
 simp only [eA97, eH97, hnl, List.append_nil, Nat.sub_zero, Qe] at g2
 have hin : (s.boils.length : Int) ≤ 1000000 := by omega
 unfold eBox at g2
 simp only [rc74, rs74, it96, g1, hin, hyal, allO, Qdi _ _ (noref_Is _), g2, Qyt, Ql2, ocV, nidQ, plO, plQ, plB, Qdh, Qdm, shV, shB, Qa9, endK, Qa0, Qa2, Qa1, ↓reduceIte, Nat.reduceEqDiff, Nat.reduceAdd, Nat.reduceLT, Nat.reduceLeDiff, rvs, zipA, Q0, Qa, reduceCtorEq, eBox, BU1]
 refine ⟨⟨rfl, Z7 _, by simp [Qbv]; omega, by simp [Qbv]; omega, hal, hone⟩, ?_⟩
 rintro r hp' ⟨b, b2, h1, rfl, rfl⟩
 exact ⟨b, [b2], if b then [] else [], [.cells 0 ((Qbv s.boils.length).map V.i)], by cases b <;> simp, by cases b <;> simp, h1⟩
theorem W81 (s : Box) : Qa5 Tryz.prog 53 [.ag (eBox s)] (.fn 74 [.pa (eBox s)]) := by
 refine Qa4 Qx2 hmix Tryz.func53 cf53.b cf53.c cf53.s cf53.n ?_
 simp only [rc53, rs53, Qa0, Qa2, Qa1, ↓reduceIte, Nat.reduceEqDiff, rvs, zipA, eBox, BU1]
def t96 (al : List V → Prop) (xs : List V) (hp : List Blk) : Prop × (V → List Blk → Prop) :=
 (∃ s l b0, s.boils.length ≤ 1000 ∧ al [b0] ∧ (∀ bv, al bv → ∃ b, bv = [b]) ∧ xs = [.yl l, .pa (eBox s)] ∧ hp = it96 s.boils.length [.yl l, .pa (eBox s)] b0, RIt al xs)
noncomputable def H24 : Gam := (H23.extY 74 t96).ext 53 (fnG eX1 dX1 (fun _ => True) (fun s => s) fun s => .fn 74 [.pa (eBox s)])
theorem Ze6 : GOk Tryz.prog H24 := by
 refine (Qx2.extY (f := 74) (fun a w => Tryz.call74 a w) fun al xs hp h => ?_).ext (f := 53) (fun a w => Tryz.call53 a w) (Qad (e := eX1) (d := dX1) (ok := fun _ => True) (g := fun s => s) (eb := fun s => .fn 74 [.pa (eBox s)]) fun s _ => W81 s)
 obtain ⟨s, l, b0, h1, h2, h3, rfl, rfl⟩ := h
 exact W96 al s l b0 h1 h2 h3
theorem h81 (s : Box) : H24 53 [.ag (eBox s)] = (True, .fn 74 [.pa (eBox s)]) :=
 (show H24 53 _ = fnG eX1 dX1 (fun _ => True) (fun s => s) (fun s => .fn 74 [.pa (eBox s)]) (eX1 s) from rfl).trans (Qab _ (Qmg _))
theorem hQy (al : List V → Prop) (xs : List V) (hp : List Blk) : H24.y 74 al xs hp = t96 al xs hp := rfl
theorem Zbh (s : Box)  : H24 24 [.ag (eBox s)] = (True, .i (boxE s)) := h74 s
theorem Zbi (n : Int)  : H24 28 [.i n] = (0 ≤ n ∧ n ≤ 1000000, .sl 1 ((Qbv n.toNat).map eI)) := h78 n
theorem Qxv (s : Box) (l : List Int)  : H24 29 [.ag (eBox s), .sl 1 (l.map eI)] = (OkD (s, l), .i (Qcb s l)) := h79 s l
theorem Zbg (l : List Int)  : H24 1000054 [.sl 1 (l.map eI)] = (l.length ≤ 1000000, .tp [.rf 0 1 0 l.length 1, .tp [bV (.cells 1 (l.map eI).flatten)]]) := h69 l
theorem Qtf {L : List Int} {i j : Nat} (hi : i < L.length) (hj : j < L.length) {x : Int} (h : x ∈ Qfg L i j) : x ∈ L := by
 unfold Qfg at h
 rcases Q9 h with h | rfl
 ·rcases Q9 h with h | rfl
  ·exact h
  ·exact Qhj hj
 ·exact Qhj hi
theorem Qqi : ∀ (k : Nat) (L : List Int) (f : Nat), f + k = L.length → ∀ p ∈ Qg2 k L f, p.length = L.length ∧ ∀ x ∈ p, x ∈ L
 | 0, L, f, _, p, hp => by
  have : p = L := by simpa [Qg2] using hp
  subst this
  exact ⟨rfl, fun _ h => h⟩
 | k + 1, L, f, hf, p, hp => by
  simp only [Qg2, Ze, Qq] at hp
  obtain ⟨i, hi, hp⟩ := hp
  obtain ⟨h1, h2⟩ := Qqi k (Qfg L f (f + i)) (f + 1) (by rw [Qd2]; omega) p hp
  rw [Qd2] at h1
  exact ⟨h1, fun x hx => Qtf (by omega) (by omega) (h2 x hx)⟩
theorem Qry {n : Nat} {p : List Int} (hp : p ∈ allO n) : p.length = n ∧ ∀ x ∈ p, 0 ≤ x ∧ x < n := by
 have hl : (Qbv n).length = n := by simp [Qbv]
 obtain ⟨h1, h2⟩ := Qqi n (Qbv n) 0 (by omega) p hp
 refine ⟨by omega, fun x hx => ?_⟩
 have := h2 x hx
 simp only [Qbv, Zf, Qq] at this
 obtain ⟨i, hi, rfl⟩ := this
 omega
def Qfn (s : Box) (k : Nat) : List Int := ((allO s.boils.length).take k).foldl (fun best p => if Qcb s p < Qcb s best then p else best) (Qbv s.boils.length)
def Qfs (s : Box) : List Int := (allO s.boils.length).foldl (fun best p => if Qcb s p < Qcb s best then p else best) (Qbv s.boils.length)
theorem Qlh {s : Box} {k : Nat} {p : List Int} (h : (allO s.boils.length)[k]? = some p) : Qfn s (k + 1) = if Qcb s p < Qcb s (Qfn s k) then p else Qfn s k := by
 unfold Qfn
 rw [Qa8 h, Zy]; rfl
theorem Qkk (n : Nat) : (Qbv n).length = n ∧ ∀ x ∈ Qbv n, 0 ≤ x ∧ x < n := by
 refine ⟨by simp [Qbv], fun x hx => ?_⟩
 simp only [Qbv, Zf, Qq] at hx
 obtain ⟨i, hi, rfl⟩ := hx
 omega
theorem Qpv (s : Box) : ∀ k, (Qfn s k).length = s.boils.length ∧ ∀ x ∈ Qfn s k, 0 ≤ x ∧ x < s.boils.length := by
 intro k
 induction k with
 | zero => exact Qkk _
 | succ k ih =>
  cases hp : (allO s.boils.length)[k]? with
  | none =>
   have e : Qfn s (k + 1) = Qfn s k := by
    unfold Qfn
    have := List.getElem?_eq_none_iff.1 hp
    rw [Ql (by omega), Ql this]
   rw [e]; exact ih
  | some p =>
   rw [Qlh hp]
   split
   ·exact Qry (Qd hp)
   ·exact ih
def Qf0 (s : Box) : List Int × Int := if boxE s = 0 then (Qfs s, 0) else ([], boxE s)
theorem Qxj (l : List Int) : Qj2 (l.map V.i) = true := by induction l <;> simp_all [Qj2, Qdh]
set_option maxHeartbeats 1000000 in
theorem W55 (s : Box) : Qa5 Tryz.prog 30 [.ag (eBox s)] (.tp [.sl 1 ((Qf0 s).1.map eI), .i (Qf0 s).2]) := by
 refine Qa4 Ze6 hmix Tryz.func30 cf30.b cf30.c cf30.s cf30.n ?_
 have g1 := Zbh s
 have g2 := Zbi s.boils.length
 have g3 := h81 s
 unfold eBox at g1 g3
 simp only [rc30, rs30, g1, Qdp, Qqv, Qa0, Qa2, Qa1, flat, ↓reduceIte, Nat.reduceEqDiff, Nat.reduceAdd, Nat.reduceLT, Nat.reduceLeDiff, rvs, vw_z, Qd7, zipA, Qa, decide_eq_false_iff_not, implies_true, reduceCtorEq, Qj, Classical.not_not, eBox, BU1]
 refine ⟨fun h => ?_, fun h => ?_⟩
 ·simp only [Qf0, if_neg h, Qx]
 ·have hX := Qnj.1 h
  have hl7 := hX.len
  have hin : (s.boils.length : Int) ≤ 1000000 := by omega
  simp only [g2, g3, hin, Qah, BU1]
  obtain ⟨n, hn⟩ : ∃ n, n = s.boils.length := ⟨_, rfl⟩
  refine Zgb (gf := 74) (caps := [.pa (eBox s)]) ?_ (fun bv => ∃ best : List Int, bv = [bV (.cells 0 [.sl 1 (best.map eI)])]) ((allO n).map fun p => ([.rf 2 0 0 n 1], [bV (.cells 0 (p.map V.i))])) (bv0 := [bV (.cells 0 [.sl 1 ((Qbv n).map eI)])]) ?_
   (fun k bv => bv = [bV (.cells 0 [.sl 1 ((Qfn s k).map eI)])]) ?_ ?_ ?_ ?_ ?_ ?_
  ·simp only [evO, cutV, cutL, Qcz, ↓reduceIte, Nat.reduceEqDiff, eBox]
  ·simp only [Qa9, hn, Qa9, cutV, cutL, cutB, BU1]
  ·rw [hn]; rfl
  ·rintro k bv rfl
   exact ⟨_, rfl⟩
  ·rintro bv ⟨best, rfl⟩
   refine ⟨rfl, fun hp => ?_⟩
   simp only [Qa9, Qa9, cutV, cutL, cutB, Qo, Qx]
  ·intro l
   rw [hQy]
   refine ⟨⟨s, l, bV (.cells 0 [.sl 1 ((Qbv n).map eI)]), by omega, ⟨Qbv n, rfl⟩, fun bv h => ?_, rfl, ?_⟩, fun r hp' h => h⟩
   ·obtain ⟨best, rfl⟩ := h
    exact ⟨_, rfl⟩
   ·rw [Zw, ← hn]; rfl
  ·rintro k x z bv hx rfl
   rw [Qy, Zg] at hx
   obtain ⟨p, hp, he⟩ := hx
   simp only [Prod.mk.injEq] at he
   obtain ⟨rfl, rfl⟩ := he
   refine ⟨rfl, Qn _, ?_⟩
   rw [hn] at hp
   have hpi := Qry (Qd hp)
   have hbi := Qpv s k
   have hbs := Qlh hp
   have g4 := Qxv s p
   have g5 := Qxv s (Qfn s k)
   have g6 := Zbg p
   unfold eBox at g4 g5
   have o1 : OkD (s, p) := ⟨hX, by show p.length ≤ 1000; omega, hpi.2⟩
   have o2 : OkD (s, Qfn s k) := ⟨hX, by show (Qfn s k).length ≤ 1000; omega, hbi.2⟩
   have hpl : p.length = n := by omega
   have hck := chunkI p
   rw [hpl] at hck
   have hpl2 : (p.map V.i).length = n := by simp [hpl]
   have hfl := flat_I p
   have hp6 : p.length ≤ 1000000 := by omega
   rw [hpl, hfl] at g6
   have hp6' : n ≤ 1000000 := by omega
   simp only [Qa9, hpl2, Qr, Qn, hck, vw_I, g4, g5, o1, o2, g6, Qxj, hp6', Qdi _ _ (noref_Is _), Qdp, ↓Qam, rnQ, updL, Ql2, ocV, nidQ, plO, plQ, plB, Qaq, Qdh, Qdm, shV, shB, Qa9, Qa0, runX, fpQ, fpV, Qah, Qa2, Qa1, flat, cutV, cutL, ↓reduceIte, Nat.reduceEqDiff, Nat.reduceAdd, Nat.reduceLT, Qdk, Q6, Bool.or_true, Qa, decide_eq_true_eq, forall_const, implies_true, Qw, Qf, BU1]
   refine ⟨fun hlt => ?_, fun hge => ?_⟩
   ·refine ⟨[bV (.cells 0 [.sl 1 (p.map eI)])], ?_, rfl, ⟨_, rfl⟩, by rw [hbs, if_pos hlt]⟩
    simp only [Qa9, hpF, upB, Qau _ _ (noref_Is _), Qa3 _ _ _ (noref_Is _), hpl2, Qr, Qn, hck, vw_I, Qa9, cutV, cutL, cutB, ↓reduceIte, Nat.reduceAdd, Nat.reduceLT, Qdk, BU1]
   ·refine ⟨[bV (.cells 0 [.sl 1 ((Qfn s k).map eI)])], ?_, rfl, ⟨_, rfl⟩, by rw [hbs, if_neg hge]⟩
    simp only [Qa9, Qa3 _ _ _ (noref_Is _), Qa9, cutV, cutL, cutB, Nat.reduceAdd, BU1]
  ·rintro bv rfl
   have e : Qfn s ((allO n).map fun p => (([.rf 2 0 0 n 1], [bV (.cells 0 (p.map V.i))]) : List V × List V)).length = Qfs s := by
    unfold Qfn Qfs
    rw [Zi, hn, Qu]
   rw [e]
   simp only [Qa9, Qf0, h, ↓Qam, Qa9, Qa0, cutV, cutL, ↓reduceIte, Nat.reduceEqDiff, Nat.reduceLT, Nat.reduceLeDiff, rvs, Qd7, Qa, BU1]
noncomputable def H25 : Gam := H24.ext 30 (fnG eX1 dX1 (fun _ => True) Qf0 fun r => .tp [.sl 1 (r.1.map eI), .i r.2])
theorem Ze7 : GOk Tryz.prog H25 := Ze6.ext (f := 30) (fun a w => Tryz.call30 a w) (Qad (e := eX1) (d := dX1) (ok := fun _ => True) (g := Qf0) (eb := fun r => .tp [.sl 1 (r.1.map eI), .i r.2]) fun s _ => W55 s)
theorem h55 (s : Box) : H25 30 [.ag (eBox s)] = (True, .tp [.sl 1 ((Qf0 s).1.map eI), .i (Qf0 s).2]) :=
 (show H25 30 _ = fnG eX1 dX1 (fun _ => True) Qf0 (fun r => .tp [.sl 1 (r.1.map eI), .i r.2]) (eX1 s) from rfl).trans (Qab _ (Qmg _))
theorem Zbj (s : Box) (l : List Int)  : H25 29 [.ag (eBox s), .sl 1 (l.map eI)] = (OkD (s, l), .i (Qcb s l)) := h79 s l
def quickR (s : Box) : Int × Int := if boxE s = 0 then (Qcb s (Qfs s), 0) else (0, boxE s)
theorem Qpw (s : Box) : (Qfs s).length = s.boils.length ∧ ∀ x ∈ Qfs s, 0 ≤ x ∧ x < s.boils.length := by
 have e : Qfn s (allO s.boils.length).length = Qfs s := by unfold Qfn Qfs; rw [Qu]
 rw [← e]; exact Qpv s _
theorem W51 (s : Box) : Qa5 Tryz.prog 10 [.ag (eBox s)] (.tp [.i (quickR s).1, .i (quickR s).2]) := by
 refine Qa4 Ze7 hmix Tryz.func10 cf10.b cf10.c cf10.s cf10.n ?_
 have g1 := h55 s
 have g2 := Zbj s (Qfs s)
 unfold eBox at g1 g2
 by_cases h : boxE s = 0
 ·have hX := Qnj.1 h
  have hb := Qpw s
  have hl := hX.len
  have e1 : Qf0 s = (Qfs s, 0) := by unfold Qf0; rw [if_pos h]
  have o1 : OkD (s, Qfs s) := ⟨hX, by show (Qfs s).length ≤ 1000; omega, hb.2⟩
  simp only [rc10, rs10, g1, e1, g2, o1, quickR, h, Qa0, Qa2, Qa1, flat, Qc4, ↓reduceIte, Nat.reduceEqDiff, Nat.reduceAdd, Nat.reduceLT, Nat.reduceLeDiff, rvs, Qd7, zipA, Qa, implies_true, imp_self, eBox, BU1]
 ·have e1 : Qf0 s = ([], boxE s) := by unfold Qf0; rw [if_neg h]
  simp only [rc10, rs10, g1, e1, h, quickR, Qa0, Qa2, Qa1, flat, Qc4, ↓reduceIte, Nat.reduceEqDiff, Nat.reduceAdd, Nat.reduceLT, Nat.reduceLeDiff, rvs, Qd7, zipA, Qa, imp_self, eBox, BU1]
end Go.C06
set_option maxRecDepth 8000
namespace Go.C06
open Go.Fam Go.Proofs
def rc20 : RC := (.seq (.reg false [(cQ 6 [] (.mv (kB false)))]) (.keep [0,1,2] (.seq (.reg true [(cMv 7 0), (cMv 8 1), (cB 9 .geq 7 8), (cMv 10 9), (gMv 11 10 true 0), (gMv 12 10 true 2), (gQ 13 10 true [11,12] (.bin .leq (.t 11) (.t 12))), (cQ 14 [10,13] (.pick (.t 10) (.t 13) (kB false))), (cMv 6 14)]) .ret)))
def rs20 : List RV := [.t 6]
theorem cf20 : CF Tryz.prog Tryz.f20 [] 0 1 rc20 rs20 3 := ⟨by kernel_rfl, by kernel_rfl, by kernel_rfl, by decide⟩
def rc22 : RC := (.seq (.reg false [⟨(some 0), none, [], none, .w (.alc [(.i 0), (.z 2)])⟩]) (.keep [0] (.seq (.reg false [(cQ 1 [] (.bld [(.i 0), (.i 0)] [(0,1, (kI 10)), (1,1, (kI 5))])), (cQ 2 [] (.bld [(.i 0), (.i 0)] [(0,1, (kI 20)), (1,1, (kI 3))])), (cQ 3 [] (.bld [(.i 0), (.i 0)] [(0,1, (kI 5)), (1,1, (kI 4))])), (cQ 4 [1,2,3] (.bsl 2 3 [(.i 0), (.i 0)] [(0,2, (.t 1)), (2,2, (.t 2)), (4,2, (.t 3))])), (cQ 5 [4] (.bld [(.i 0), (.z 2)] [(0,1, (kI 2)), (1,1, (.t 4))])), ⟨none, none, [0,5], none, .w (.st 2 (.t 0) (.t 5))⟩]) .ret)))
def rs22 : List RV := [.c 0 true 2]
theorem cf22 : CF Tryz.prog Tryz.f22 [4] 0 1 rc22 rs22 0 := ⟨by kernel_rfl, by kernel_rfl, by kernel_rfl, by decide⟩
def rc6 : RC := (.seq (.reg false [(cX 1 0), (cI 2 0)]) (.keep [1] (.seq (.seq (.reg true [(cFa 4 1 0), (cLd 5 4 false 1), (cQ 6 [5] (.call (kF 20) [(.t 5), (kI 1), (kI 7)])), (cN 7 6), (cMv 8 7), (gQ 9 8 false [1] (.fad 1 (.t 1))), (gQ 10 8 false [9] (.ld false 1 (.t 9))), (gQ 11 8 false [10] (.len (.t 10))), (gQ 12 8 false [11] (.bin .gtr (.t 11) (kI 7))), (cQ 13 [8,12] (.pick (.t 8) (kB true) (.t 12)))]) (.keep [1,13] (.cond (.t 13) (.seq (.reg false [(cI 2 62)]) .ret) .skip))) (.keep [1] (.seq (.seq (.reg false [(cI 3 0)]) (.keep [1,3] (.block 0 (.loop [1,3] none (.seq (.seq (.reg false [(cMv 14 3), (cFa 15 1 1), (cLd 16 15 false 1), (cLn 17 16), (cB 18 .lss 14 17)]) (.keep [1,3,18] (.cond (.t 18) .skip (.exit 0)))) (.keep [1,3] (.seq (.block 1 (.seq (.reg true [(cFa 21 1 1), (cLd 22 21 false 1), (cMv 23 3), (cA 24 2 22 23), (cFa 25 24 0), (cLd 26 25 false 1), (cQ 27 [26] (.call (kF 20) [(.t 26), (kI 0), (kI 999)])), (cN 28 27), (cMv 29 28), (gQ 30 29 false [1] (.fad 1 (.t 1))), (gQ 31 29 false [30] (.ld false 1 (.t 30))), (gMv 32 29 false 3), (gQ 33 29 false [31,32] (.iad 2 (.t 31) (.t 32))), (gQ 34 29 false [33] (.fad 1 (.t 33))), (gQ 35 29 false [34] (.ld false 1 (.t 34))), (gQ 36 29 false [35] (.call (kF 20) [(.t 35), (kI 0), (kI 999)])), (gQ 37 29 false [36] (.not (.t 36))), (cQ 38 [29,37] (.pick (.t 29) (kB true) (.t 37)))]) (.keep [1,3,38] (.cond (.t 38) (.seq (.reg false [(cI 2 62)]) .ret) .skip)))) (.keep [1,3] (.reg false [(cMv 19 3), (cC 20 .add 19 1), (cMv 3 20)]))))))))) (.keep [] (.seq (.reg false [(cI 2 0)]) .ret)))))))
def rs6 : List RV := [.t 2]
theorem cf6 : CF Tryz.prog Tryz.f6 [1] 0 1 rc6 rs6 1 := ⟨by kernel_rfl, by kernel_rfl, by kernel_rfl, by decide⟩
end Go.C06
set_option linter.unusedSimpArgs false
set_option linter.unusedVariables false
namespace Go.C06
open Go.Fam Go.Proofs
variable {Γ : Gam}
noncomputable def H26 : Gam := H25.ext 10 (fnG eX1 dX1 (fun _ => True) quickR fun r => .tp [.i r.1, .i r.2])
theorem Ze8 : GOk Tryz.prog H26 := Ze7.ext (f := 10) (fun a w => Tryz.call10 a w) (Qad (e := eX1) (d := dX1) (ok := fun _ => True) (g := quickR) (eb := fun r => .tp [.i r.1, .i r.2]) fun a _ => W51 a)
theorem h51 (s : Box) : H26 10 [.ag (eBox s)] = (True, .tp [.i (quickR s).1, .i (quickR s).2]) :=
 (show H26 10 _ = fnG eX1 dX1 (fun _ => True) quickR (fun r => .tp [.i r.1, .i r.2]) (eX1 s) from rfl).trans (Qab _ (Qmg _))
theorem W56 (n lo hi : Int) : Qa5 Tryz.prog 20 [.i n, .i lo, .i hi] (.b (Qa6 n lo hi)) := by
 refine Qa4 Ze8 hmix Tryz.func20 cf20.b cf20.c cf20.s cf20.n ?_
 simp only [rc20, rs20, Qa0, ↓reduceIte, Nat.reduceEqDiff, Nat.reduceAdd, rvs, zipA, V.b.injEq, decide_eq_true_eq, decide_eq_false_iff_not, implies_true, reduceCtorEq, Qmq, imp_self, BU1]
 by_cases h : lo ≤ n <;> simp [h, Qa6]
def s56 : List V → Prop × V | [.i n, .i lo, .i hi] => (True, .b (Qa6 n lo hi)) | _ => (False, .u)
theorem Zgf (vs : List V) (h : (s56 vs).1) : Qa5 Tryz.prog 20 vs (s56 vs).2 := by
 unfold s56 at h ⊢
 split at h
 ·exact W56 _ _ _
 ·exact h.elim
noncomputable def H27 : Gam := H26.ext 20 s56
theorem Zi0 : GOk Tryz.prog H27 := Ze8.ext (f := 20) (r := s56) (fun a w => Tryz.call20 a w) Zgf
theorem h56 (n lo hi : Int) : H27 20 [.i n, .i lo, .i hi] = (True, .b (Qa6 n lo hi)) := rfl
noncomputable def H28 : Gam := H27
theorem Zi1 : GOk Tryz.prog H28 := Zi0
noncomputable def H29 : Gam := H28
theorem Ze9 : GOk Tryz.prog H29 := Zi1
end Go.C06
set_option linter.unusedSimpArgs false
set_option linter.unusedVariables false
namespace Go.C06
open Go.Fam Go.Proofs
def exS : Box := ⟨2, [⟨10, 5⟩, ⟨20, 3⟩, ⟨5, 4⟩]⟩
theorem exS_quick : quickR exS = (27, 0) := by decide +kernel
end Go.C06
set_option linter.unusedSimpArgs false
set_option linter.unusedVariables false
namespace Go.C06
open Go.Fam Go.Proofs
variable {Γ : Gam}
theorem W58 : Qa5 Tryz.prog 22 [] (.ag (eBox exS)) := by
 refine Qa4 Ze9 hmix Tryz.func22 cf22.b cf22.c cf22.s cf22.n ?_
 simp only [rc22, rs22, Qa0, Qak, Qaw, Qb2, Qah, Qa2, Qa1, ↓reduceIte, Nat.reduceEqDiff, Nat.reduceAdd, Nat.reduceMul, Nat.reduceLeDiff, Qv, rvs, zipA, reduceCtorEq, not_false_eq_true, ne_eq, eBox, BU1]
 rfl
def cst (v : V) : List V → Prop × V | [] => (True, v) | _ => (False, .u)
theorem Zcr {f : Nat} {v : V} (h : Qa5 Tryz.prog f [] v) (vs : List V) (h2 : (cst v vs).1) : Qa5 Tryz.prog f vs (cst v vs).2 := by
 unfold cst at h2 ⊢
 split at h2
 ·exact h
 ·exact h2.elim
noncomputable def H30 : Gam := H29.ext 22 (cst (.ag (eBox exS)))
theorem Zi2 : GOk Tryz.prog H30 := Ze9.ext (f := 22) (r := cst (.ag (eBox exS))) (fun a w => Tryz.call22 a w) (Zcr W58)
theorem h58 : H30 22 [] = (True, .ag (eBox exS)) := rfl
noncomputable def H31 : Gam := H30
theorem Zi3 : GOk Tryz.prog H31 := Zi2
end Go.C06
set_option linter.unusedSimpArgs false
set_option linter.unusedVariables false
namespace Go.C06
open Go.Fam Go.Proofs
variable {Γ : Gam}
noncomputable def H32 : Gam := H31
theorem Zi4 : GOk Tryz.prog H32 := Zi3
noncomputable def H33 : Gam := H32
theorem Zi5 : GOk Tryz.prog H33 := Zi4
noncomputable def H34 : Gam := H33
theorem Zi6 : GOk Tryz.prog H34 := Zi5
end Go.C06
set_option linter.unusedSimpArgs false
set_option linter.unusedVariables false
namespace Go.C06
open Go.Fam Go.Proofs
def eLL (a : List Int × List Int) : List V := [.sl 1 (a.1.map eI), .sl 1 (a.2.map eI)]
def dLL : List V → List Int × List Int | [.sl _ l, .sl _ m] => (l.map dI, m.map dI) | _ => ([], [])
theorem Zhc (a : List Int × List Int) : dLL (eLL a) = a := by obtain ⟨k, l⟩ := a; simp [dLL, eLL, Function.comp_def, Qbl]
noncomputable def K1 : Gam := H34
theorem okK1 : GOk Tryz.prog K1 := Zi6
noncomputable def K2 : Gam := K1
theorem okK2 : GOk Tryz.prog K2 := okK1
end Go.C06
set_option linter.unusedSimpArgs false
set_option linter.unusedVariables false
namespace Go.C06
open Go.Fam Go.Proofs Go.RowKit
set_option maxRecDepth 100000 in
set_option maxHeartbeats 2000000 in
theorem Zbd (F : Fence) (n : Nat) (h7 : F.fn 52) (hro : F.round = none) (hdep : F.depth = none) (l Bs off0 b off len cap : Nat) (zs : List Int) (hlen : zs.length = len) (hreach : len ≤ 1000000) (J Jx : Nat → World → Prop)
  (hcell : ∀ k W, J k W → W.cell? ⟨Bs, off0, none⟩ = some (.slice (some ⟨b, off, none⟩) len cap) ∧ ∀ j, j < len → W.cell? ⟨b, off + j, none⟩ = some (.int .i64 (zs[j]?.getD 0)))
  (hY : ∀ k x W, zs[k]? = some x → J k W → YieldAt F (n - 1) Tryz.prog l #[.int .i64 x] W fun e W' =>
   (e = .returned (.bool true) ∧ J (k + 1) W') ∨ (e = .returned (.bool false) ∧ Jx k W'))
  (W : World) (h0 : J 0 W) :
  CallsIn F n Tryz.prog 52 #[.func (.yield l) #[] #[], .pointer (some ⟨Bs, off0, none⟩)] W fun e W' => (∃ v, e = .returned v) ∧ (J len W' ∨ ∃ k, Jx k W') := by
 refine callsIn_of_wp Tryz.func52 rfl h7 ?_ hro
 simp only [Tryz.ntmps52, Z0, Qt, Q1, Nat.reduceAdd, Nat.reduceSub, Array.replicate_succ, Array.replicate_zero, Z1, Zo, Zh, Za]
 have hBs := (hcell 0 W h0).1
 gi_wp2
 gi_loopw [7] (fun i wr => ∃ k : Nat, k ≤ len ∧ i = .int .i64 k ∧ J k wr)
  (fun i _ => len - (Go.RowKit.intOf i).toNat)
 case atStart => exact ⟨0, Z7 _, rfl, h0⟩
 case round =>
  obtain ⟨k, hk, rfl, hJs⟩ := hrel
  have hcx : k < len → wr.cell? ⟨b, off + k, none⟩ = some (.int .i64 (zs[k]?.getD 0)) := fun h => (hcell k wr hJs).2 k h
  by_cases hlt : k < len
  ·obtain ⟨x, hx⟩ : ∃ x, zs[k]? = some x := ⟨_, Qb (by omega)⟩
   obtain ⟨fn, tmps, assign, body, hy, hR⟩ := hY k x wr hx hJs
   have hcx' := hcx hlt
   rw [hx, Zb] at hcx'
   clear hcx
   obtain ⟨hcb, _⟩ := hcell k wr hJs
   gi_wp2
   refine hR.mono ?_
   rintro e W3 (⟨rfl, hJ3⟩ | ⟨rfl, hJx3⟩)
   ·gi_wp2
    go_roundw
    case rel => exact ⟨k + 1, by omega, by simp, hJ3⟩
    case measure => simp [Go.RowKit.intOf]; omega
   ·gi_wp2
    refine bodyPost_ret (results_none rfl _ _ _) rfl ?_
    exact ⟨⟨_, rfl⟩, .inr ⟨_, hJx3⟩⟩
  ·obtain rfl : k = len := by omega
   gi_wp2
   go_end0
   exact ⟨⟨_, rfl⟩, .inl hJs⟩
set_option maxRecDepth 100000 in
set_option maxHeartbeats 1000000 in
theorem Zbc (F : Fence) (n : Nat) (h7 : F.fn 52) (hro : F.round = none) (l Bs off0 cap : Nat) (a : Option Addr) (J : Nat → World → Prop) (W : World) (hBs : W.cell? ⟨Bs, off0, none⟩ = some (.slice a 0 cap)) (h0 : J 0 W) :
  CallsIn F n Tryz.prog 52 #[.func (.yield l) #[] #[], .pointer (some ⟨Bs, off0, none⟩)] W fun e W' => (∃ v, e = .returned v) ∧ J 0 W' := by
 refine callsIn_of_wp Tryz.func52 rfl h7 ?_ hro
 simp only [Tryz.ntmps52, Z0, Qt, Q1, Nat.reduceAdd, Nat.reduceSub, Array.replicate_succ, Array.replicate_zero, Z1, Zo, Zh, Za]
 gi_wp2
 gi_loopw [7] (fun i wr => i = .int .i64 0 ∧ J 0 wr) (fun _ _ => 0)
 case atStart => exact ⟨rfl, h0⟩
 case round =>
  obtain ⟨rfl, hJs⟩ := hrel
  gi_wp2
  go_end0
  exact ⟨⟨_, rfl⟩, hJs⟩
theorem I95 (zs : List Int) (hl : zs.length ≤ 1000000) : Qm7 Tryz.prog 52 [.pa [.sl 1 (zs.map eI)]] (zs.map eI) := by
 intro F n S w ccaps l J Jx hF hro hS hsz hrep hJ hJx hJS hyl hJ0
 obtain ⟨c, hc⟩ : ∃ c, ccaps = #[c] := by
  match ccaps, hsz with
  | ⟨[c]⟩, _ => exact ⟨c, rfl⟩
 subst hc
 simp only [RepL, Rep, and_true] at hrep
 obtain ⟨Bs, off0, cur, e, fr, rfl, hSB, hheap, hrow⟩ := hrep
 cases hd : cur.toList.drop off0 with
 | nil => rw [hd] at hrow; exact hrow.elim
 | cons sv rest =>
  rw [hd] at hrow
  obtain ⟨⟨a, cap, rfl, hcap, hz⟩, _⟩ := hrow
  have hg0 : cur[off0]? = some (.slice a (zs.map eI).length cap) := by
   have := congrArg (·[0]?) hd
   simpa using this
  have hc0 : ∀ W : World, W.heap[Bs]? = w.heap[Bs]? → W.cell? ⟨Bs, off0, none⟩ = some (.slice a (zs.map eI).length cap) := fun W e => by
   simp only [World.cell?, e, hheap, hg0]
   rfl
  simp only [Zi] at hc0 ⊢
  by_cases hne : zs = []
  ·subst hne
   refine (Zbc F n (hF.1 52) hro l Bs off0 cap a J w (hc0 w rfl) hJ0).mono ?_
   rintro e W' ⟨h1, h2⟩
   exact ⟨h1, .inl h2⟩
  ·rcases hz with hz | ⟨blk, off, cur2, e2, fr2, rfl, hS2, hh2, hr2⟩
   ·exact absurd (List.map_eq_nil_iff.1 hz) hne
   ·have hcs : ∀ W : World, W.heap[blk]? = w.heap[blk]? → ∀ j, j < zs.length → W.cell? ⟨blk, off + j, none⟩ = some (.int .i64 (zs[j]?.getD 0)) := fun W e j hj => by
     have key : ∀ (zs : List Int) (cs : List Value), Qax S w 1 (zs.map eI) cs → ∀ j, j < zs.length → cs[j]? = some (.int .i64 (zs[j]?.getD 0)) := by
      intro zs
      induction zs with
      | nil => intro cs _ j hj; simp at hj
      | cons z zs ih =>
       intro cs hr j hj
       cases cs with
       | nil => simp [eI, Qax, RepL] at hr
       | cons c cs =>
        simp only [Qo, eI, Qax, RepL, Rep, and_true, List.drop_succ_cons, Xa] at hr
        cases j with
        | zero => simp [hr.2.1]
        | succ j =>
         have := ih cs hr.2.2 j (by simpa using hj)
         simpa using this
     have h5 := key zs _ hr2 j hj
     rw [List.getElem?_drop, Array.getElem?_toList] at h5
     simp only [World.cell?, e, hh2, h5]
     rfl
    refine Zbd F n (hF.1 52) hro hF.2.1 l Bs off0 blk off zs.length cap zs rfl hl J Jx (fun k W hk => ?_) (fun k x W hx hk => ?_) w hJ0
    ·have hkeep := (hJS k W (.inl hk)).2
     exact ⟨hc0 W (hkeep Bs hSB), hcs W (hkeep blk hS2)⟩
    ·exact hyl k [.i x] W #[.int .i64 x] (by rw [Qy, hx]; rfl) hk ⟨rfl, trivial⟩ rfl
end Go.C06
set_option maxRecDepth 8000
namespace Go.C06
open Go.Fam Go.Proofs
def rc26 : RC := (.seq (.reg false [(cX 1 0), (cQ 2 [] (.mv (.k .u)))]) (.keep [1] (.seq (.reg false [(cQ 3 [1] (.mkf 52 [(.t 1)])), (cMv 2 3)]) .ret)))
def rs26 : List RV := [.t 2]
theorem cf26 : CF Tryz.prog Tryz.f26 [1] 0 1 rc26 rs26 1 := ⟨by kernel_rfl, by kernel_rfl, by kernel_rfl, by decide⟩
def rc27 : RC := (.seq (.reg false [(cQ 4 [] (.mv (kB false)))]) (.keep [0,1] (.seq (.seq (.reg false [(cMv 6 0), (cLn 7 6), (cMv 8 1), (cLn 9 8), (cB 10 .neq 7 9)]) (.keep [0,1,10] (.cond (.t 10) (.seq (.reg false [(cQ 4 [] (.mv (kB false)))]) .ret) .skip))) (.keep [0,1] (.seq (.seq (.reg false [(cMv 11 0), (cLn 12 11), (cI 13 0)]) (.keep [0,1,12,13] (.block 0 (.loop [0,1,12,13] none (.seq (.reg false [(cB 14 .lss 13 12)]) (.keep [0,1,12,13,14] (.seq (.cond (.t 14) .skip (.exit 0)) (.keep [0,1,12,13] (.seq (.block 1 (.seq (.reg false [(cMv 15 13), (cMv 5 15)]) (.keep [0,1,5,12,13] (.seq (.any false 0 [⟨(cMv 16 0), [], []⟩, ⟨(cMv 17 5), [], []⟩, ⟨(cA 18 1 16 17), [], [0,1]⟩, ⟨(cLd 19 18 false 1), [], [2,0,1]⟩, ⟨(cMv 20 1), [], []⟩, ⟨(cMv 21 5), [], []⟩, ⟨(cA 22 1 20 21), [], [4,5]⟩, ⟨(cLd 23 22 false 1), [], [6,4,5]⟩, ⟨(cB 24 .neq 19 23), [], [3,2,0,1,7,6,4,5]⟩]) (.keep [0,1,12,13,24] (.cond (.t 24) (.seq (.reg false [(cQ 4 [] (.mv (kB false)))]) .ret) .skip)))))) (.keep [0,1,12,13] (.reg false [(cC 25 .add 13 1), (cMv 13 25)]))))))))))) (.keep [] (.seq (.reg false [(cQ 4 [] (.mv (kB true)))]) .ret)))))))
def rs27 : List RV := [.t 4]
theorem cf27 : CF Tryz.prog Tryz.f27 [] 0 1 rc27 rs27 2 := ⟨by kernel_rfl, by kernel_rfl, by kernel_rfl, by decide⟩
def rc25 : RC := (.seq (.reg false [(cQ 2 [] (.mv (.k (.z 1))))]) (.keep [0] (.seq (.reg false [(cMv 4 0), ⟨(some 5), none, [4], none, .o (kF 50) [(.t 4)]⟩, (cMv 3 5)]) (.keep [3] (.seq (.hcl false [(cMv 6 3)] ⟨(some 7), none, [6], none, .o (kF 51) [(.t 6)]⟩ []) (.keep [3] (.seq (.reg false [(cMv 8 3), (cMv 2 8)]) .ret)))))))
def rs25 : List RV := [.t 2]
theorem cf25 : CF Tryz.prog Tryz.f25 [1000005] 0 1 rc25 rs25 1 := ⟨by kernel_rfl, by kernel_rfl, by kernel_rfl, by decide⟩
def rc9 : RC := (.seq (.reg false [(cX 2 0), (cI 4 0), (cI 5 0)]) (.keep [1,2] (.seq (.seq (.reg false [(cLd 8 2 true 2), (cQ 9 [8] (.call (kF 24) [(.t 8)])), (cMv 6 9)]) (.keep [1,2,6] (.seq (.reg false [(cMv 10 6), (cC 11 .neq 10 0)]) (.keep [1,2,6,11] (.cond (.t 11) (.seq (.reg false [(cMv 12 6), (cI 4 0), (cMv 5 12)]) .ret) .skip))))) (.keep [1,2] (.seq (.seq (.reg false [(cMv 13 1), (cQ 14 [13] (.call (kF 26) [(.t 13)])), (cQ 15 [14] (.call (kF 25) [(.t 14)])), (cMv 7 15)]) (.keep [1,2,7] (.seq (.reg false [(cMv 16 7), (cFa 17 2 1), (cLd 18 17 false 1), (cLn 19 18), (cQ 20 [19] (.call (kF 28) [(.t 19)])), (cQ 21 [16,20] (.call (kF 27) [(.t 16), (.t 20)])), (cN 22 21)]) (.keep [1,2,22] (.cond (.t 22) (.seq (.reg false [(cI 4 0), (cI 5 1)]) .ret) .skip))))) (.keep [1,2] (.seq (.reg false [(cLd 23 2 true 2), (cMv 24 1), (cQ 25 [23,24] (.call (kF 29) [(.t 23), (.t 24)])), (cMv 4 25), (cI 5 0)]) .ret)))))))
def rs9 : List RV := [.t 4, .t 5]
theorem cf9 : CF Tryz.prog Tryz.f9 [2] 0 1 rc9 rs9 2 := ⟨by kernel_rfl, by kernel_rfl, by kernel_rfl, by decide⟩
end Go.C06
namespace Go.Proofs
open Go.Shelf
def Tryz.lays189_ren : Go.Shelf.Ren := ⟨fun | 189 => 51 | 125 => 73 | 257 => 72 | 128 => 101 | 129 => 102 | 294 => 92 | 295 => 93 | 296 => 94 | 297 => 95 | 298 => 96 | 299 => 97 | 216 => 98 | 300 => 99 | 301 => 100 | 328 => 125 | 329 => 126 | 330 => 127 | 331 => 128 | 332 => 129 | 215 => 130 | 343 => 149 | n => n, fun | 28 => 27 | 3 => 3 | 46 => 129 | 0 => 0 | 51 => 148 | 53 => 151 | 4 => 4 | 183 => 158 | 182 => 157 | 131 => 163 | 5 => 5 | 9 => 9 | 218 => 182 | 222 => 186 | 228 => 197 | 229 => 198 | n => n, fun | n => n⟩
theorem Tryz.lays189 : Go.Proofs.Lays.n189 Tryz.prog Tryz.lays189_ren := {
 mixed := by kernel_rfl
 f125 := Tryz.func73.trans (congrArg some (by kernel_rfl))
 f128 := Tryz.func101.trans (congrArg some (by kernel_rfl))
 f129 := Tryz.func102.trans (congrArg some (by kernel_rfl))
 f189 := Tryz.func51.trans (congrArg some (by kernel_rfl))
 f215 := Tryz.func130.trans (congrArg some (by kernel_rfl))
 f216 := Tryz.func98.trans (congrArg some (by kernel_rfl))
 f257 := Tryz.func72.trans (congrArg some (by kernel_rfl))
 f294 := Tryz.func92.trans (congrArg some (by kernel_rfl))
 f295 := Tryz.func93.trans (congrArg some (by kernel_rfl))
 f296 := Tryz.func94.trans (congrArg some (by kernel_rfl))
 f297 := Tryz.func95.trans (congrArg some (by kernel_rfl))
 f298 := Tryz.func96.trans (congrArg some (by kernel_rfl))
 f299 := Tryz.func97.trans (congrArg some (by kernel_rfl))
 f300 := Tryz.func99.trans (congrArg some (by kernel_rfl))
 f301 := Tryz.func100.trans (congrArg some (by kernel_rfl))
 f328 := Tryz.func125.trans (congrArg some (by kernel_rfl))
 f329 := Tryz.func126.trans (congrArg some (by kernel_rfl))
 f330 := Tryz.func127.trans (congrArg some (by kernel_rfl))
 f331 := Tryz.func128.trans (congrArg some (by kernel_rfl))
 f332 := Tryz.func129.trans (congrArg some (by kernel_rfl))
 f343 := Tryz.func149.trans (congrArg some (by kernel_rfl))
 t0 := Tryz.underlying0
 a0 := Tryz.isAgg0
 z0 := Tryz.sizeOf0
 v0 := Tryz.zeroValue0
 t3 := Tryz.underlying3
 a3 := Tryz.isAgg3
 z3 := Tryz.sizeOf3
 v3 := Tryz.zeroValue3
 t4 := Tryz.underlying4
 a4 := Tryz.isAgg4
 z4 := Tryz.sizeOf4
 v4 := Tryz.zeroValue4
 t5 := Tryz.underlying5
 a5 := Tryz.isAgg5
 z5 := Tryz.sizeOf5
 v5 := Tryz.zeroValue5
 t9 := Tryz.underlying9
 a9 := Tryz.isAgg9
 z9 := Tryz.sizeOf9
 v9 := Tryz.zeroValue9
 t28 := Tryz.underlying27
 a28 := Tryz.isAgg27
 z28 := Tryz.sizeOf27
 v28 := Tryz.zeroValue27
 t46 := Tryz.underlying129
 a46 := Tryz.isAgg129
 z46 := Tryz.sizeOf129
 v46 := Tryz.zeroValue129
 t51 := Tryz.underlying148
 a51 := Tryz.isAgg148
 z51 := Tryz.sizeOf148
 v51 := Tryz.zeroValue148
 t53 := Tryz.underlying151
 a53 := Tryz.isAgg151
 z53 := Tryz.sizeOf151
 v53 := Tryz.zeroValue151
 t131 := Tryz.underlying163
 a131 := Tryz.isAgg163
 z131 := Tryz.sizeOf163
 v131 := Tryz.zeroValue163
 t182 := Tryz.underlying157
 a182 := Tryz.isAgg157
 z182 := Tryz.sizeOf157
 v182 := Tryz.zeroValue157
 t183 := Tryz.underlying158
 a183 := Tryz.isAgg158
 z183 := Tryz.sizeOf158
 v183 := Tryz.zeroValue158
 t218 := Tryz.underlying182
 a218 := Tryz.isAgg182
 z218 := Tryz.sizeOf182
 v218 := Tryz.zeroValue182
 t222 := Tryz.underlying186
 a222 := Tryz.isAgg186
 z222 := Tryz.sizeOf186
 v222 := Tryz.zeroValue186
 t228 := Tryz.underlying197
 a228 := Tryz.isAgg197
 z228 := Tryz.sizeOf197
 v228 := Tryz.zeroValue197
 t229 := Tryz.underlying198
 a229 := Tryz.isAgg198
 z229 := Tryz.sizeOf198
 v229 := Tryz.zeroValue198 }
open Go.Sort Go.RowKit in
theorem Tryz.slices_Sort_int (blk off cap : Nat) (zs : List Int) (w : World) (hH : Holds (Value.int .i64) w blk off zs.toArray) (hblk : blk < w.heap.size) (hsz : zs.length < 4611686018427387904) :
  Calls Tryz.prog 51 #[.slice (some ⟨blk, off, none⟩) zs.length cap] w fun e w' =>
   e = .returned (.tuple #[]) ∧ ∃ n os, w' = grow (putRow (Value.int .i64) (Sort.ahead w n) blk off (zs.mergeSort fun x y => decide (x ≤ y)).toArray) os := Any.slices_Sort_int Tryz.lays189 blk off cap zs w hH hblk hsz
def Tryz.lays212_ren : Go.Shelf.Ren := ⟨fun | 212 => 67 | 263 => 85 | 264 => 86 | n => n, fun | 46 => 129 | 51 => 148 | 146 => 149 | 53 => 151 | 148 => 152 | n => n, fun | n => n⟩
theorem Tryz.lays212 : Go.Proofs.Lays.n212 Tryz.prog Tryz.lays212_ren := {
 mixed := by kernel_rfl
 f212 := Tryz.func67.trans (congrArg some (by kernel_rfl))
 f263 := Tryz.func85.trans (congrArg some (by kernel_rfl))
 f264 := Tryz.func86.trans (congrArg some (by kernel_rfl))
 t46 := Tryz.underlying129
 a46 := Tryz.isAgg129
 z46 := Tryz.sizeOf129
 v46 := Tryz.zeroValue129
 t51 := Tryz.underlying148
 a51 := Tryz.isAgg148
 z51 := Tryz.sizeOf148
 v51 := Tryz.zeroValue148
 t53 := Tryz.underlying151
 a53 := Tryz.isAgg151
 z53 := Tryz.sizeOf151
 v53 := Tryz.zeroValue151
 t146 := Tryz.underlying149
 a146 := Tryz.isAgg149
 z146 := Tryz.sizeOf149
 v146 := Tryz.zeroValue149
 t148 := Tryz.underlying152
 a148 := Tryz.isAgg152
 z148 := Tryz.sizeOf152
 v148 := Tryz.zeroValue152 }
open Go.RowKit Go.Lib in
theorem Tryz.bits_Mul (x y : Nat) (hx : x < 18446744073709551616) (hy : y < 18446744073709551616) (w : World) :
  Calls Tryz.prog 67 #[.int .u64 x, .int .u64 y] w fun e w' => e = .returned (.tuple #[.int .u64 ((x * y / 18446744073709551616 : Nat) : Int), .int .u64 ((x * y % 18446744073709551616 : Nat) : Int)]) ∧ w' = w := Any.bits_Mul Tryz.lays212 x y hx hy w
open Go.RowKit Go.Sort in
theorem Tryz.slices_Sort_int_none (p : Option Addr) (cap : Nat) (w : World) :
  Calls Tryz.prog 51 #[.slice p 0 cap] w fun e w' => e = .returned (.tuple #[]) ∧ w' = w := Any.slices_Sort_int_none Tryz.lays189 p cap w
end Go.Proofs
set_option linter.unusedSimpArgs false
set_option linter.unusedVariables false
namespace Go.C06
open Go.Fam Go.Proofs
variable {Γ : Gam}
theorem Quf (p : Option Addr) (cap : Nat) (w : World) : Calls Tryz.prog 51 #[.slice p 0 cap] w fun e w' => e = .returned (.tuple #[]) ∧ w' = w := Any.slices_Sort_int_none Tryz.lays189 p cap w
def eVs (l : List Int) : List V := [.pa [.sl 1 (l.map eI)]]
def dVs : List V → List Int | [.pa [.sl _ l]] => l.map dI | _ => []
theorem Zho (l : List Int) : dVs (eVs l) = l := by simp [dVs, eVs, Function.comp_def, Qbl]
def okLn (l : List Int) : Prop := l.length ≤ 1000000
noncomputable def KA1 : Gam := (K2.ext 2000052 (fnG eVs dVs okLn (fun l => l.map eI) (.sl 0)))
theorem Zan : GOk Tryz.prog KA1 := by
 refine okK2.extI (f := 52) (fun a w => Tryz.call52 a w) fun vs ys h1 h2 => ?_
 simp only [fnG, V.sl.injEq, true_and] at h1 h2
 rw [← h1.1, ← h2]
 exact I95 _ h1.2
theorem h95 (l : List Int) : KA1 2000052 [.pa [.sl 1 (l.map eI)]] = (okLn l, .sl 0 (l.map eI)) :=
 (show KA1 2000052 _ = fnG eVs dVs okLn (fun l => l.map eI) (.sl 0) (eVs l) from rfl).trans (Qab _ (Zho l))
def eQ1 (l : List Int) : List V := [.sl 1 (l.map eI)]
def dQ1 : List V → List Int | [.sl _ l] => l.map dI | _ => []
theorem Zhh (l : List Int) : dQ1 (eQ1 l) = l := by simp [dQ1, eQ1, Function.comp_def, Qbl]
theorem W76 (l : List Int) : Qa5 Tryz.prog 26 [.sl 1 (l.map eI)] (.fn 52 [.pa [.sl 1 (l.map eI)]]) := by
 refine Qa4 Zan hmix Tryz.func26 cf26.b cf26.c cf26.s cf26.n ?_
 simp only [rc26, rs26, Qa0, Qa2, ↓reduceIte, Nat.reduceEqDiff, rvs, zipA, BU1]
def eVA (l : List Int) : List V := [.z 1, .fn 52 [.pa [.sl 1 (l.map eI)]]]
def dVA : List V → List Int | [_, .fn _ [.pa [.sl _ l]]] => l.map dI | _ => []
theorem Zhn (l : List Int) : dVA (eVA l) = l := by simp [dVA, eVA, Function.comp_def, Qbl]
def RVA (l : List Int) (r : V) (hp : List Blk) : Prop := r = .rf 1 l.length 0 l.length 1 ∧ hp = seqH l l.length
theorem W99v (l : List Int) (h : okLn l) : Qe8 Tryz.prog 71 (eVA l) [] (RVA l) := by
 refine Qo8 Zan hmix Tryz.func71 cf71.b cf71.c cf71.s (args := eVA l) (hp := []) (by exact cf71.n) (by decide) (by decide) ?_
 have hlen : l.length ≤ 1000000 := h
 unfold eVA
 simp only [rc71, rs71, Qkx, Qa0, Qah, ↓reduceIte, Nat.reduceEqDiff, zipA, reduceCtorEq, BU1]
 refine Zb3 (gf := 52) (caps := [.pa [.sl 1 (l.map eI)]]) (ok := okLn l) (ys := l.map eI) (fun k => seqH l k) (fun _ => True) ?_ ?_ (by decide) h rfl ?_ ?_ trivial ?_ ?_
 ·simp only [evO, Qcz, ↓reduceIte, Nat.reduceEqDiff]
 ·exact h95 l
 ·intro x hx
  obtain ⟨n, _, rfl⟩ := Zf.1 hx
  rfl
 ·simp only [seqH, Qp, cutV, cutL, cutB, ↓reduceIte, Nat.reduceLT, BU1]
 ·intro k x hx _
  rw [Qy, Zg] at hx
  obtain ⟨n, hn, rfl⟩ := hx
  have hk := Qaf hn
  have h1 : Qao (k + 1) := by unfold Qao; omega
  have hl : ((l.take k).map eI).flatten.length = k * 1 := by rw [Qc5, Zd, Z9 (by omega)]
  have ht : ((l.take k).map eI).flatten ++ [V.i n] = ((l.take (k + 1)).map eI).flatten := by rw [Qa8 hn]; simp [eI]
  simp only [seqH, h1, hl, ht, Qa3 _ _ _ (Qay _), Qm, Qp, Qck, ↓Qam, rnQ, rndQ, updL, Qa0, Qbt, Qak, Qaw, Qb2, Qah, Qa2, Qa1, cutV, cutL, cutB, ↓reduceIte, Nat.reduceEqDiff, Nat.reduceMul, Nat.reduceLT, Nat.reduceLeDiff, Qv, Qa, reduceCtorEq, not_false_eq_true, ne_eq, eI, BU1]
 ·intro _
  simp only [seqH, RVA, ↓Qam, endK, Qa0, cutV, cutL, ↓reduceIte, Nat.reduceLT, Nat.reduceLeDiff, rvs, Qa, BU1]
noncomputable def KA2 : Gam := (KA1.ext 26 (fnG eQ1 dQ1 (fun _ => True) (fun l => l) fun l => .fn 52 [.pa [.sl 1 (l.map eI)]])).extH 71 (hpG eVA (fun _ => []) (fun vs _ => dVA vs) okLn RVA)
theorem Zfx : GOk Tryz.prog KA2 := by
 refine (Zan.ext (f := 26) (fun a w => Tryz.call26 a w) (Qad (e := eQ1) (d := dQ1) (ok := fun _ => True) (g := fun l => l) (eb := fun l => .fn 52 [.pa [.sl 1 (l.map eI)]]) fun l _ => W76 l)).extH (f := 71) (fun a w => Tryz.call71 a w) (Qq9 fun c h => ⟨fun r hp' _ y hy => (by cases hy), W99v c h⟩)
theorem h76 (l : List Int) : KA2 26 [.sl 1 (l.map eI)] = (True, .fn 52 [.pa [.sl 1 (l.map eI)]]) :=
 (show KA2 26 _ = fnG eQ1 dQ1 (fun _ => True) (fun l => l) (fun l => .fn 52 [.pa [.sl 1 (l.map eI)]]) (eQ1 l) from rfl).trans (Qab _ (Zhh l))
theorem h99v (l : List Int) : KA2.h 71 (eVA l) [] = (okLn l, RVA l) :=
 (show KA2.h 71 _ _ = hpG eVA (fun _ => []) (fun vs _ => dVA vs) okLn RVA (eVA l) [] from rfl).trans (Qo9 (eA := eVA) (eH := fun _ => []) l (Zhn l))
def eF5 (l : List Int) : List V := [.fn 52 [.pa [.sl 1 (l.map eI)]]]
def dF5 : List V → List Int | [.fn _ [.pa [.sl _ l]]] => l.map dI | _ => []
theorem Zcy (l : List Int) : dF5 (eF5 l) = l := by simp [dF5, eF5, Function.comp_def, Qbl]
def seqZ (l : List Int) : List Blk := [.cells 0 [.rf 1 l.length 0 l.length 1], .cells l.length (l.map V.i)]
theorem W85v (l : List Int) (h : okLn l) : Qdb Tryz.prog 50 (eF5 l) (.rf 1 l.length 0 l.length 1) (seqZ l) := by
 refine Qhp Zfx hmix Tryz.func50 cf50.b cf50.c cf50.s cf50.n ?_
 have g1 := h99v l
 unfold eVA at g1
 simp only [rc50, rs50, eF5, g1, Qu6, endO, Qa0, ↓reduceIte, rvs, zipA, reduceCtorEq, BU1]
 refine ⟨h, ?_⟩
 rintro r hp ⟨rfl, rfl⟩
 simp only [seqH, Qu, flat_I, seqZ, and_self]
noncomputable def KA3 : Gam := KA2.ext 1000050 (fnG eF5 dF5 okLn (fun l => l) fun l => .tp [.rf 1 l.length 0 l.length 1, .tp ((seqZ l).map bV)])
theorem Zii : GOk Tryz.prog KA3 := by
 refine Zfx.extO (f := 50) (fun a w => Tryz.call50 a w) fun vs v bs h1 h2 => ?_
 simp only [fnG, V.tp.injEq, Xb.injEq, and_true] at h1 h2
 obtain ⟨rfl, rfl⟩ := h2
 have := W85v _ h1.2
 rw [h1.1] at this
 simpa only [seqZ, Qo, Qx, Qa9] using this
theorem h85v (l : List Int) : KA3 1000050 [.fn 52 [.pa [.sl 1 (l.map eI)]]] = (okLn l, .tp [.rf 1 l.length 0 l.length 1, .tp ((seqZ l).map bV)]) :=
 (show KA3 1000050 _ = fnG eF5 dF5 okLn (fun l => l) (fun l => .tp [.rf 1 l.length 0 l.length 1, .tp ((seqZ l).map bV)]) (eF5 l) from rfl).trans (Qab _ (Zcy l))
def eA94 (l : List Int) : List V := [.rf 1 l.length 0 l.length 1]
def Zdc : List V → List Blk → List Int | _, [_, .cells _ cs] => cs.map gI | _, _ => []
def Qf3 (l : List Int) : List Int := l.mergeSort fun x y => decide (x ≤ y)
def R94 (l : List Int) (r : V) (hp : List Blk) : Prop := r = .tp [] ∧ hp = [.cells 0 [.rf 1 l.length 0 l.length 1], .cells l.length ((Qf3 l).map V.i)]
noncomputable def KA4 : Gam := KA3.extH 51 (hpG eA94 seqZ Zdc okLn R94)
theorem Zao : GOk Tryz.prog KA4 := by
 refine Zii.extH (f := 51) (fun a w => Tryz.call51 a w) (Qq9 fun l h => ⟨fun r hp' _ y hy => (by cases hy), ?_⟩)
 exact Qrm (fun blk off cap zs w h1 h2 h3 => Tryz.slices_Sort_int blk off cap zs w h1 h2 h3) Quf (hp := seqZ l) (id := 1) (g := l.length) (zs := l) rfl h
theorem h94 (l : List Int) : KA4.h 51 [.rf 1 l.length 0 l.length 1] (seqZ l) = (okLn l, R94 l) :=
 (show KA4.h 51 _ _ = hpG eA94 seqZ Zdc okLn R94 (eA94 l) (seqZ l) from rfl).trans (Qo9 l (Qyg l))
theorem Qzg (l : List Int)  : KA4 1000050 [.fn 52 [.pa [.sl 1 (l.map eI)]]] = (okLn l, .tp [.rf 1 l.length 0 l.length 1, .tp ((seqZ l).map bV)]) := h85v l
theorem Qp3 (l : List Int) : (Qf3 l).length = l.length := List.length_mergeSort _
theorem W75 (l : List Int) (h : okLn l) : Qa5 Tryz.prog 25 [.fn 52 [.pa [.sl 1 (l.map eI)]]] (.sl 1 ((Qf3 l).map eI)) := by
 refine Qa4 Zao hmix Tryz.func25 cf25.b cf25.c cf25.s cf25.n ?_
 have g1 := Qzg l
 have g2 := h94 l
 unfold seqZ at g2
 have hb := noref_Is l
 simp only [rc25, rs25, g1, h, seqZ, Qdi _ _ hb, g2, Qu6, Ql2, ocV, nidQ, plO, plQ, plB, Qdh, Qj2, Qdm, shV, shL, shB, Qa9, Qa0, Qa2, Qa1, ↓reduceIte, Nat.reduceEqDiff, Nat.reduceAdd, Nat.reduceLT, rvs, Qdk, zipA, Q0, reduceCtorEq, BU1]
 rintro r hp ⟨rfl, rfl⟩
 have e1 : (Qf3 l).length = l.length := Qp3 l
 have e2 : ((Qf3 l).map V.i).length = l.length := by rw [Zi, e1]
 have hck := chunkI (Qf3 l)
 rw [e1] at hck
 simp only [e2, Qr, Qn, hck, vw_I, ↓reduceIte, List.getElem?_cons_zero, List.getElem?_cons_succ, and_self]
theorem W77 (l m : List Int) (h : l.length ≤ 1000000) : Qa5 Tryz.prog 27 [.sl 1 (l.map eI), .sl 1 (m.map eI)] (.b (decide (l = m))) := by
 refine Qa4 Zao hmix Tryz.func27 cf27.b cf27.c cf27.s cf27.n ?_
 simp only [rc27, rs27, Qdp, Qa0, ↓reduceIte, Nat.reduceEqDiff, rvs, zipA, V.b.injEq, decide_eq_false_iff_not, reduceCtorEq, Qj, Classical.not_not, BU1]
 refine ⟨fun h1 => ?_, fun h1 => ?_⟩
 ·have : ¬ l = m := fun e => by rw [e] at h1; omega
  simp only [this, decide_false]
 ·have hlm : l.length = m.length := by omega
  refine Qap l.length (fun i => ⟨lkp [(0, .sl 1 (l.map eI)), (1, .sl 1 (m.map eI)), (12, .i m.length), (13, .i i)], []⟩) (fun i => ∀ j : Nat, j < i → l[j]? = m[j]?) ?_ ?_ ?_ ?_
  ·simp only [Qe, hlm, ↓reduceIte, Nat.reduceEqDiff, reduceCtorEq, BU1]
  ·intro j hj; omega
  ·intro i hi hc
   obtain ⟨n, hn⟩ : ∃ n, l[i]? = some n := ⟨_, Qb hi⟩
   obtain ⟨n', hn'⟩ : ∃ n, m[i]? = some n := ⟨_, Qb (by omega)⟩
   have hlt : (i : Int) < l.length := by omega
   have hlt' : (i : Int) < m.length := by omega
   have h4 : inI ((i : Int) + 1) := by unfold inI; omega
   simp only [hn, hn', hlt, hlt', h4, Qg, Qh, Qdp, Qaq, Qa0, runX, fpQ, fpV, ↓reduceIte, Nat.reduceEqDiff, Nat.reduceLeDiff, rvs, V.b.injEq, Qa, decide_eq_false_iff_not, reduceCtorEq, Qf, Qj, Classical.not_not, eI, BU1]
   refine ⟨fun hne => ?_, fun he => ?_⟩
   ·have : ¬ l = m := fun e => by rw [e, hn'] at hn; cases hn; exact hne rfl
    simp only [this, decide_false]
   ·intro j hj
    by_cases hji : j < i
    ·exact hc j hji
    ·have : j = i := by omega
     subst this
     rw [hn, hn', he]
  ·intro hc
   have h77 : ¬ ((l.length : Int) < m.length) := by omega
   have : l = m := List.ext_getElem? fun j => by
    by_cases hj : j < l.length
    ·exact hc j hj
    ·rw [Zj (by omega), Zj (by omega)]
   simp only [this, Qa0, ↓reduceIte, Nat.reduceEqDiff, rvs, Qi, Qa, reduceCtorEq, BU1]
noncomputable def KA5 : Gam := (KA4.ext 25 (fnG eF5 dF5 okLn Qf3 fun l => .sl 1 (l.map eI))).ext 27 (fnG eLL dLL (fun a => a.1.length ≤ 1000000) (fun a => decide (a.1 = a.2)) .b)
theorem Zfy : GOk Tryz.prog KA5 := (Zao.ext (f := 25) (fun a w => Tryz.call25 a w) (Qad (e := eF5) (d := dF5) (ok := okLn) (g := Qf3) (eb := fun l => .sl 1 (l.map eI)) fun l h => W75 l h)).ext (f := 27) (fun a w => Tryz.call27 a w) (Qad (e := eLL) (d := dLL) (ok := fun a => a.1.length ≤ 1000000) (g := fun a => decide (a.1 = a.2)) (eb := .b) fun a h => W77 a.1 a.2 h)
theorem h75 (l : List Int) : KA5 25 [.fn 52 [.pa [.sl 1 (l.map eI)]]] = (okLn l, .sl 1 ((Qf3 l).map eI)) :=
 (show KA5 25 _ = fnG eF5 dF5 okLn Qf3 (fun l => .sl 1 (l.map eI)) (eF5 l) from rfl).trans (Qab _ (Zcy l))
theorem h77 (l m : List Int) : KA5 27 [.sl 1 (l.map eI), .sl 1 (m.map eI)] = (l.length ≤ 1000000, .b (decide (l = m))) :=
 (show KA5 27 _ = fnG eLL dLL (fun a => a.1.length ≤ 1000000) (fun a => decide (a.1 = a.2)) .b (eLL (l, m)) from rfl).trans (Qab _ (Zhc _))
theorem Zcd (l : List Int)  : KA5 26 [.sl 1 (l.map eI)] = (True, .fn 52 [.pa [.sl 1 (l.map eI)]]) := h76 l
theorem Zcc (s : Box)  : KA5 24 [.ag (eBox s)] = (True, .i (boxE s)) := h74 s
theorem Zce (n : Int)  : KA5 28 [.i n] = (0 ≤ n ∧ n ≤ 1000000, .sl 1 ((Qbv n.toNat).map eI)) := h78 n
theorem Zcf (s : Box) (l : List Int)  : KA5 29 [.ag (eBox s), .sl 1 (l.map eI)] = (OkD (s, l), .i (Qcb s l)) := h79 s l
def Qgz (s : Box) (l : List Int) : Int × Int := if boxE s ≠ 0 then (0, boxE s) else if Qf3 l = Qbv s.boils.length then (Qcb s l, 0) else (0, 1)
theorem Qxm {s : Box} {l : List Int} (hs : OkX s) (h : Qf3 l = Qbv s.boils.length) : OkD (s, l) := by
 have hp : (Qf3 l).Perm l := List.mergeSort_perm l _
 have hn := Qkk s.boils.length
 refine ⟨hs, ?_, fun b hb => ?_⟩
 ·have := hp.length_eq
  rw [h, hn.1] at this
  have := hs.len
  show l.length ≤ 1000
  omega
 ·have := hp.mem_iff.2 hb
  rw [h] at this
  exact hn.2 b this
theorem W50 (s : Box) (l : List Int) (h : okLn l) : Qa5 Tryz.prog 9 [.ag (eBox s), .sl 1 (l.map eI)] (.tp [.i (Qgz s l).1, .i (Qgz s l).2]) := by
 refine Qa4 Zfy hmix Tryz.func9 cf9.b cf9.c cf9.s cf9.n ?_
 have g1 := Zcc s
 have g2 := Zcd l
 have g3 := h75 l
 have g4 := Zce s.boils.length
 have g5 := h77 (Qf3 l) (Qbv s.boils.length)
 have g6 := Zcf s l
 simp only [eBox] at g1 g6
 by_cases hb : boxE s = 0
 ·have hX := Qnj.1 hb
  have hl := hX.len
  have hin : (s.boils.length : Int) ≤ 1000000 := by omega
  have e1 : (Qf3 l).length ≤ 1000000 := by rw [Qp3]; exact h
  by_cases he : Qf3 l = Qbv s.boils.length
  ·have hD := Qxm hX he
   rw [he] at g5 e1
   simp only [rc9, rs9, g1, hb, g2, g3, h, g4, hin, g5, e1, he, g6, hD, Qgz, Qa0, Qa2, Qa1, flat, ↓reduceIte, Nat.reduceEqDiff, Nat.reduceAdd, Nat.reduceLT, Nat.reduceLeDiff, rvs, Qd7, zipA, Qa, implies_true, reduceCtorEq, not_true_eq_false, ne_eq, imp_self, eBox, BU1]
  ·simp only [rc9, rs9, g1, hb, g2, g3, h, g4, hin, g5, e1, he, Qgz, Qa0, Qa2, Qa1, flat, ↓reduceIte, Nat.reduceEqDiff, Nat.reduceAdd, Nat.reduceLT, Nat.reduceLeDiff, rvs, Qd7, zipA, Qa, implies_true, reduceCtorEq, not_true_eq_false, ne_eq, imp_self, eBox, BU1]
 ·simp only [rc9, rs9, g1, hb, Qgz, Qa0, Qa2, Qa1, flat, ↓reduceIte, Nat.reduceEqDiff, Nat.reduceAdd, Nat.reduceLT, Nat.reduceLeDiff, rvs, Qd7, zipA, Qa, implies_true, reduceCtorEq, not_false_eq_true, ne_eq, eBox, BU1]
noncomputable def KA6 : Gam := KA5.ext 9 (fnG eXL dXL (fun a => okLn a.2) (fun a => Qgz a.1 a.2) fun r => .tp [.i r.1, .i r.2])
theorem Zap : GOk Tryz.prog KA6 := Zfy.ext (f := 9) (fun a w => Tryz.call9 a w) (Qad (e := eXL) (d := dXL) (ok := fun a => okLn a.2) (g := fun a => Qgz a.1 a.2) (eb := fun r => .tp [.i r.1, .i r.2]) fun a h => W50 a.1 a.2 h)
theorem h50 (s : Box) (l : List Int) : KA6 9 [.ag (eBox s), .sl 1 (l.map eI)] = (okLn l, .tp [.i (Qgz s l).1, .i (Qgz s l).2]) :=
 (show KA6 9 _ = fnG eXL dXL (fun a => okLn a.2) (fun a => Qgz a.1 a.2) (fun r => .tp [.i r.1, .i r.2]) (eXL (s, l)) from rfl).trans (Qab _ (Qzp _))
end Go.C06
set_option maxRecDepth 8000
namespace Go.C06
open Go.Fam Go.Proofs
def rc21 : RC := (.seq (.reg false [(cQ 4 [] (.mv (kB false)))]) (.keep [0,1] (.seq (.seq (.reg false [(cI 5 0)]) (.keep [0,1,5] (.block 0 (.loop [0,1,5] none (.seq (.seq (.reg false [(cMv 6 5), (cMv 7 0), (cLn 8 7), (cB 9 .lss 6 8)]) (.keep [0,1,5,9] (.cond (.t 9) .skip (.exit 0)))) (.keep [0,1,5] (.seq (.block 1 (.seq (.reg false [(cMv 12 0), (cMv 13 5), (cA 14 1 12 13), (cLd 15 14 false 1), (cMv 16 1), (cB 17 .eql 15 16)]) (.keep [0,1,5,17] (.cond (.t 17) (.seq (.reg false [(cQ 4 [] (.mv (kB true)))]) .ret) .skip)))) (.keep [0,1,5] (.reg false [(cMv 10 5), (cC 11 .add 10 1), (cMv 5 11)]))))))))) (.keep [] (.seq (.reg false [(cQ 4 [] (.mv (kB false)))]) .ret)))))
def rs21 : List RV := [.t 4]
theorem cf21 : CF Tryz.prog Tryz.f21 [] 0 1 rc21 rs21 2 := ⟨by kernel_rfl, by kernel_rfl, by kernel_rfl, by decide⟩
def rc5 : RC := (.seq (.reg false [(cX 1 0), (cQ 2 [] (.mv (kB false)))]) (.keep [1] (.seq (.reg true [(cFa 3 1 1), (cLd 4 3 false 1), (cLn 5 4), (cC 6 .gtr 5 60), (cMv 7 6), (gQ 8 7 false [1] (.ld true 2 (.t 1))), (gQ 9 7 false [8] (.call (kF 6) [(.t 8)])), (gQ 10 7 false [9] (.bin .eql (.t 9) (kI 0))), (gMv 11 7 false 10), (gQ 12 11 true [1] (.fad 1 (.t 1))), (gQ 13 11 true [12] (.ld false 1 (.t 12))), (gQ 14 11 true [13] (.len (.t 13))), (gQ 15 11 true [14] (.bin .gtr (.t 14) (kI 5))), (gQ 16 7 false [11,15] (.pick (.t 11) (.t 15) (kB false))), (cQ 17 [7,16] (.pick (.t 7) (kB true) (.t 16))), (cMv 2 17)]) .ret)))
def rs5 : List RV := [.t 2]
theorem cf5 : CF Tryz.prog Tryz.f5 [1] 0 1 rc5 rs5 1 := ⟨by kernel_rfl, by kernel_rfl, by kernel_rfl, by decide⟩
def rc7 : RC := (.seq (.reg false [(cX 2 0), (cQ 4 [] (.mv (kB false)))]) (.keep [1,2] (.seq (.seq (.reg false [(cI 5 0)]) (.keep [1,2,5] (.block 0 (.loop [1,2,5] none (.seq (.seq (.reg false [(cMv 6 5), (cMv 7 1), (cLn 8 7), (cB 9 .lss 6 8)]) (.keep [1,2,5,9] (.cond (.t 9) .skip (.exit 0)))) (.keep [1,2,5] (.seq (.block 1 (.seq (.any true 0 [⟨(cMv 12 1), [], []⟩, ⟨(cMv 13 5), [], []⟩, ⟨(cA 14 1 12 13), [], [0,1]⟩, ⟨(cLd 15 14 false 1), [], [2,0,1]⟩, ⟨(cC 16 .lss 15 0), [], [3,2,0,1]⟩, ⟨(cMv 17 16), [], [4,3,2,0,1]⟩, ⟨(gMv 18 17 false 1), [], [5,4,3,2,0,1]⟩, ⟨(gMv 19 17 false 5), [], [5,4,3,2,0,1]⟩, ⟨(gQ 20 17 false [18,19] (.iad 1 (.t 18) (.t 19))), [], [6,5,4,3,2,0,1,7]⟩, ⟨(gQ 21 17 false [20] (.ld false 1 (.t 20))), [], [8,6,5,4,3,2,0,1,7]⟩, ⟨(gQ 22 17 false [2] (.fad 1 (.t 2))), [], [5,4,3,2,0,1]⟩, ⟨(gQ 23 17 false [22] (.ld false 1 (.t 22))), [], [10,5,4,3,2,0,1]⟩, ⟨(gQ 24 17 false [23] (.len (.t 23))), [], [11,10,5,4,3,2,0,1]⟩, ⟨(gQ 25 17 false [21,24] (.bin .geq (.t 21) (.t 24))), [], [9,8,6,5,4,3,2,0,1,7,12,11,10]⟩, ⟨(cQ 26 [17,25] (.pick (.t 17) (kB true) (.t 25))), [], [5,4,3,2,0,1,13,9,8,6,7,12,11,10]⟩, ⟨(cMv 27 26), [], [14,5,4,3,2,0,1,13,9,8,6,7,12,11,10]⟩, ⟨(gMv 28 27 false 1), [], [15,14,5,4,3,2,0,1,13,9,8,6,7,12,11,10]⟩, ⟨(gMv 29 27 false 5), [], [15,14,5,4,3,2,0,1,13,9,8,6,7,12,11,10]⟩, ⟨(gQ 30 27 false [28,29] (.slc 1 (.t 28) none (some (.t 29)))), [], [16,15,14,5,4,3,2,0,1,13,9,8,6,7,12,11,10,17]⟩, ⟨(gMv 31 27 false 1), [], [15,14,5,4,3,2,0,1,13,9,8,6,7,12,11,10]⟩, ⟨(gMv 32 27 false 5), [], [15,14,5,4,3,2,0,1,13,9,8,6,7,12,11,10]⟩, ⟨(gQ 33 27 false [31,32] (.iad 1 (.t 31) (.t 32))), [], [19,15,14,5,4,3,2,0,1,13,9,8,6,7,12,11,10,20]⟩, ⟨(gQ 34 27 false [33] (.ld false 1 (.t 33))), [], [21,19,15,14,5,4,3,2,0,1,13,9,8,6,7,12,11,10,20]⟩, ⟨(gQ 35 27 false [30,34] (.call (kF 21) [(.t 30), (.t 34)])), [], [18,16,15,14,5,4,3,2,0,1,13,9,8,6,7,12,11,10,17,22,21,19,20]⟩, ⟨(cQ 36 [27,35] (.pick (.t 27) (kB true) (.t 35))), [], [15,14,5,4,3,2,0,1,13,9,8,6,7,12,11,10,23,18,16,17,22,21,19,20]⟩]) (.keep [1,2,5,36] (.cond (.t 36) (.seq (.reg false [(cQ 4 [] (.mv (kB false)))]) .ret) .skip)))) (.keep [1,2,5] (.reg false [(cMv 10 5), (cC 11 .add 10 1), (cMv 5 11)]))))))))) (.keep [1,2] (.seq (.reg false [(cMv 37 1), (cLn 38 37), (cFa 39 2 1), (cLd 40 39 false 1), (cLn 41 40), (cB 42 .eql 38 41), (cMv 4 42)]) .ret)))))
def rs7 : List RV := [.t 4]
theorem cf7 : CF Tryz.prog Tryz.f7 [2] 0 1 rc7 rs7 2 := ⟨by kernel_rfl, by kernel_rfl, by kernel_rfl, by decide⟩
end Go.C06
set_option linter.unusedSimpArgs false
set_option linter.unusedVariables false
namespace Go.C06
open Go.Fam Go.Proofs
variable {Γ : Gam}
theorem Qle (n lo hi : Int)  : KA6 20 [.i n, .i lo, .i hi] = (True, .b (Qa6 n lo hi)) := h56 n lo hi
theorem Qkl {b : Boil} {p q : Bool} (h1 : Qa6 b.soak 0 999 = p) (h2 : Qa6 b.bend 0 999 = q) : Qcq b = (p && q) := by unfold Qcq; rw [h1, h2]
theorem W48 (s : Box) : Qa5 Tryz.prog 6 [.ag (eBox s)] (.i (boxE s)) := by
 refine Qa4 Zap hmix Tryz.func6 cf6.b cf6.c cf6.s cf6.n ?_
 have hE : boxE s = if Qa6 s.room 1 7 && decide ((s.boils.length : Int) ≤ 7) && !(s.boils.any fun b => !Qcq b) then 0 else 62 := rfl
 by_cases h1 : Qa6 s.room 1 7 = true
 rotate_left
 ·simp only [rc6, rs6, Qle, h1, hE, Qa0, Qa2, Qa1, flat, ↓reduceIte, Nat.reduceEqDiff, Nat.reduceAdd, Nat.reduceLT, Nat.reduceLeDiff, rvs, zipA, Qa, Qk, forall_const, implies_true, imp_self, eBox, BU1]
 by_cases h2 : (7 : Int) < s.boils.length
 ·have h3 : ¬ (s.boils.length : Int) ≤ 7 := by omega
  simp only [rc6, rs6, Qle, h1, h2, h3, hE, Qa0, Qa2, Qa1, flat, ↓reduceIte, Nat.reduceEqDiff, Nat.reduceAdd, Nat.reduceLT, Nat.reduceLeDiff, rvs, zipA, beq_self_eq_true, Q6, Qa, forall_const, implies_true, eBox, BU1]
 have h3 : (s.boils.length : Int) ≤ 7 := by omega
 simp only [rc6, rs6, Qle, h1, h2, Qa0, Qa2, Qa1, flat, ↓reduceIte, Nat.reduceEqDiff, Nat.reduceAdd, Nat.reduceLT, Nat.reduceLeDiff, zipA, beq_self_eq_true, Qa, forall_const, implies_true, eBox, BU1]
 refine Qap s.boils.length (fun i => ⟨lkp [(1, .pa (eBox s)), (3, .i i)], []⟩) (fun i => ∀ j x, j < i → s.boils[j]? = some x → Qcq x = true) ?_ ?_ ?_ ?_
 ·simp only [Qe, ↓reduceIte, Nat.reduceEqDiff, eBox, BU1]
 ·intro j x h; omega
 ·intro i hi hc
  obtain ⟨x, hx⟩ : ∃ x, s.boils[i]? = some x := ⟨_, Qb hi⟩
  have hlt : (i : Int) < s.boils.length := by omega
  have h4 : inI ((i : Int) + 1) := by unfold inI; omega
  have hno : Qcq x = false → boxE s = 62 := fun e => by
   have : (s.boils.any fun b => !Qcq b) = true := Z3.2 ⟨x, Qd hx, by rw [e]; rfl⟩
   rw [hE, this]; simp
  have hyes : Qcq x = true → ∀ j y, j < i + 1 → s.boils[j]? = some y → Qcq y = true := fun e j y hj hy => by
   by_cases hji : j < i
   ·exact hc j y hji hy
   ·have : j = i := by omega
    subst this
    rw [hx] at hy; cases hy; exact e
  cases hs : Qa6 x.soak 0 999 with
  | false =>
   have := hno (by rw [Qkl hs rfl]; rfl)
   simp only [hx, hlt, Qle, hs, this, Qa0, Qa2, Qa1, flat, ↓reduceIte, Nat.reduceEqDiff, Nat.reduceAdd, Nat.reduceLT, Nat.reduceLeDiff, rvs, Qa, Qk, forall_const, implies_true, imp_self, Qeg, eBox, BU1]
  | true =>
   cases hb : Qa6 x.bend 0 999 with
   | false =>
    have := hno (by rw [Qkl hs hb]; rfl)
    simp only [hx, hlt, Qle, hs, hb, this, Qa0, Qa2, Qa1, flat, ↓reduceIte, Nat.reduceEqDiff, Nat.reduceAdd, Nat.reduceLT, Nat.reduceLeDiff, rvs, beq_self_eq_true, Qa, forall_const, implies_true, Qeg, eBox, BU1]
   | true =>
    simp only [hx, hlt, Qle, hs, hb, h4, Qg, Qh, Qa0, Qa2, Qa1, flat, ↓reduceIte, Nat.reduceEqDiff, Nat.reduceAdd, Nat.reduceLT, Nat.reduceLeDiff, beq_self_eq_true, Qa, forall_const, implies_true, Qeg, eBox, BU1]
    exact hyes (by rw [Qkl hs hb]; rfl)
 ·intro hc
  have hlt : ¬ ((s.boils.length : Int) < s.boils.length) := by omega
  have : (s.boils.any fun b => !Qcq b) = false := by
   rw [Zx]
   intro x hx
   obtain ⟨j, hj⟩ := Qs hx
   rw [hc j x (Qaf hj) hj]; simp
  have he : boxE s = 0 := by rw [hE, h1, this]; simp; omega
  simp only [hlt, he, Qa0, ↓reduceIte, Nat.reduceEqDiff, Nat.reduceLeDiff, rvs, Qa, eBox, BU1]
theorem W73 (l : List Int) (n : Int) (h : l.length ≤ 1000000) : Qa5 Tryz.prog 21 [.sl 1 (l.map eI), .i n] (.b (decide (n ∈ l))) := by
 refine Qa4 Zap hmix Tryz.func21 cf21.b cf21.c cf21.s cf21.n ?_
 simp only [rc21, rs21, Qa0, ↓reduceIte, Nat.reduceEqDiff, zipA, reduceCtorEq, BU1]
 refine Qap l.length (fun i => ⟨lkp [(0, .sl 1 (l.map eI)), (1, .i n), (5, .i i)], []⟩) (fun i => ∀ j : Nat, j < i → ¬ l[j]? = some n) ?_ ?_ ?_ ?_
 ·simp only [Qe, ↓reduceIte, Nat.reduceEqDiff, reduceCtorEq, BU1]
 ·intro j hj; omega
 ·intro i hi hc
  obtain ⟨x, hx⟩ : ∃ n, l[i]? = some n := ⟨_, Qb hi⟩
  have hlt : (i : Int) < l.length := by omega
  have h4 : inI ((i : Int) + 1) := by unfold inI; omega
  simp only [hx, hlt, h4, Qg, Qh, Qdp, Qa0, ↓reduceIte, Nat.reduceEqDiff, Nat.reduceLeDiff, rvs, V.b.injEq, Qa, decide_eq_true_eq, reduceCtorEq, eI, BU1]
  refine ⟨fun he => ?_, fun he => ?_⟩
  ·have : n ∈ l := by rw [← he]; exact Qd hx
   simp only [this, decide_true]
  ·intro j hj
   by_cases hji : j < i
   ·exact hc j hji
   ·have : j = i := by omega
    subst this
    rw [hx]
    simpa using he
 ·intro hc
  have h77 : ¬ ((l.length : Int) < l.length) := by omega
  have : ¬ n ∈ l := fun hn => by
   obtain ⟨j, hj⟩ := Qs hn
   exact hc j (Qaf hj) hj
  simp only [h77, this, Qa0, ↓reduceIte, Nat.reduceEqDiff, rvs, Qa, reduceCtorEq, BU1]
noncomputable def KB1 : Gam := (KA6.ext 6 (fnG eX1 dX1 (fun _ => True) boxE .i)).ext 21 (fnG eLI dLI (fun a => a.1.length ≤ 1000000) (fun a => decide (a.2 ∈ a.1)) .b)
theorem Zaq : GOk Tryz.prog KB1 := (Zap.ext (f := 6) (fun a w => Tryz.call6 a w) (Qad (e := eX1) (d := dX1) (ok := fun _ => True) (g := boxE) (eb := .i) fun s _ => W48 s)).ext (f := 21) (fun a w => Tryz.call21 a w) (Qad (e := eLI) (d := dLI) (ok := fun a => a.1.length ≤ 1000000) (g := fun a => decide (a.2 ∈ a.1)) (eb := .b) fun a h => W73 a.1 a.2 h)
theorem h48 (s : Box) : KB1 6 [.ag (eBox s)] = (True, .i (boxE s)) := (show KB1 6 _ = fnG eX1 dX1 (fun _ => True) boxE .i (eX1 s) from rfl).trans (Qab _ (Qmg _))
theorem h73 (l : List Int) (n : Int) : KB1 21 [.sl 1 (l.map eI), .i n] = (l.length ≤ 1000000, .b (decide (n ∈ l))) :=
 (show KB1 21 _ = fnG eLI dLI (fun a => a.1.length ≤ 1000000) (fun a => decide (a.2 ∈ a.1)) .b (eLI (l, n)) from rfl).trans (Qab _ (Qca _))
def farX (s : Box) : Bool := decide ((60 : Int) < s.boils.length) || (decide (boxE s = 0) && decide ((5 : Int) < s.boils.length))
theorem W47 (s : Box) : Qa5 Tryz.prog 5 [.ag (eBox s)] (.b (farX s)) := by
 refine Qa4 Zaq hmix Tryz.func5 cf5.b cf5.c cf5.s cf5.n ?_
 have g1 := h48 s
 simp only [eBox] at g1
 by_cases h1 : (60 : Int) < s.boils.length
 ·by_cases h2 : boxE s = 0 <;> simp only [rc5, rs5, g1, h1, h2, farX, Qa0, Qa2, Qa1, flat, ↓reduceIte, Nat.reduceEqDiff, Nat.reduceAdd, Nat.reduceLT, Nat.reduceLeDiff, rvs, zipA, beq_self_eq_true, Q0, Bool.true_or, Qa, Qk, forall_const, implies_true, imp_self, eBox, BU1]
 ·by_cases h2 : boxE s = 0
  ·simp only [rc5, rs5, g1, h1, h2, farX, Qa0, Qa2, Qa1, flat, ↓reduceIte, Nat.reduceEqDiff, Nat.reduceAdd, Nat.reduceLT, Nat.reduceLeDiff, rvs, zipA, beq_self_eq_true, Q0, Zq, Qa, Qk, forall_const, implies_true, eBox, BU1]
  ·simp only [rc5, rs5, g1, h1, h2, farX, Qa0, Qa2, Qa1, flat, ↓reduceIte, Nat.reduceEqDiff, Nat.reduceAdd, Nat.reduceLT, Nat.reduceLeDiff, rvs, zipA, beq_self_eq_true, Q6, Qa, forall_const, implies_true, imp_self, eBox, BU1]
structure IsOrd (n : Nat) (l : List Int) : Prop where
 len : l.length = n
 in_ : ∀ x ∈ l, 0 ≤ x ∧ x < n
 nodup : l.Nodup
instance (n : Nat) (l : List Int) : Decidable (IsOrd n l) := decidable_of_iff (l.length = n ∧ (∀ x ∈ l, 0 ≤ x ∧ x < n) ∧ l.Nodup) ⟨fun h => ⟨h.1, h.2.1, h.2.2⟩, fun h => ⟨h.1, h.2, h.3⟩⟩
theorem Qri {l : List Int} {x : Int} (h : l.Nodup) (hx : x ∉ l) : (l ++ [x]).Nodup := by
 rw [Z2]
 exact ⟨h, by simp, fun a ha b hb e => by rw [Zu] at hb; subst hb; subst e; exact hx ha⟩
theorem W49 (s : Box) (l : List Int) (h : l.length ≤ 1000000) : Qa5 Tryz.prog 7 [.ag (eBox s), .sl 1 (l.map eI)] (.b (decide (IsOrd s.boils.length l))) := by
 refine Qa4 Zaq hmix Tryz.func7 cf7.b cf7.c cf7.s cf7.n ?_
 simp only [rc7, rs7, Qa0, Qa2, Qa1, ↓reduceIte, Nat.reduceEqDiff, zipA, reduceCtorEq, eBox, BU1]
 refine Qap l.length (fun i => ⟨lkp [(1, .sl 1 (l.map eI)), (2, .pa (eBox s)), (5, .i i)], []⟩) (fun i => (∀ x ∈ l.take i, 0 ≤ x ∧ x < s.boils.length) ∧ (l.take i).Nodup) ?_ ?_ ?_ ?_
 ·simp only [Qe, ↓reduceIte, Nat.reduceEqDiff, eBox, BU1]
 ·exact ⟨by simp, by simp⟩
 ·intro i hi hc
  obtain ⟨x, hx⟩ : ∃ n, l[i]? = some n := ⟨_, Qb hi⟩
  have hlt : (i : Int) < l.length := by omega
  have h4 : inI ((i : Int) + 1) := by unfold inI; omega
  have hxl := Qd hx
  have g1 := h73 (l.take i) x
  have htl : (l.take i).length ≤ 1000000 := by rw [Zd]; omega
  have hii : (i : Int) ≤ l.length := by omega
  rw [List.map_take] at g1
  by_cases k0 : x < 0
  ·have hno : ¬ IsOrd s.boils.length l := fun h => by have := h.in_ x hxl; omega
   simp only [hx, hlt, k0, hno, Qaq, Qa0, runX, fpQ, fpV, Qb7, slcV, Qfo, Qa2, Qa1, ↓reduceIte, Nat.reduceEqDiff, Nat.reduceLT, Nat.reduceLeDiff, Q7, Int.reduceLE, rvs, Qa, Qk, forall_const, implies_true, Q2, Qf, imp_self, eBox, eI, BU1]
  by_cases k1 : (s.boils.length : Int) ≤ x
  ·have hno : ¬ IsOrd s.boils.length l := fun h => by have := h.in_ x hxl; omega
   simp only [hx, hlt, k0, k1, hno, Qaq, Qa0, runX, fpQ, fpV, Qb7, slcV, Qfo, Qa2, Qa1, ↓reduceIte, Nat.reduceEqDiff, Nat.reduceLT, Nat.reduceLeDiff, Q7, Int.reduceLE, rvs, beq_self_eq_true, Qa, Qk, forall_const, implies_true, Q2, Qf, imp_self, eBox, eI, BU1]
  by_cases k2 : x ∈ l.take i
  ·have hno : ¬ IsOrd s.boils.length l := fun h => by
    have h5 : l.take (i + 1) = l.take i ++ [x] := Qa8 hx
    have h6 : (l.take (i + 1)).Nodup := h.nodup.sublist (List.take_sublist _ _)
    rw [h5, Z2] at h6
    exact h6.2.2 x k2 x (by simp) rfl
   simp only [hx, hlt, k0, k1, g1, htl, hii, k2, hno, Qaq, Qa0, runX, fpQ, fpV, slcV, Qfo, Qa2, Qa1, flat, ↓reduceIte, Nat.reduceEqDiff, Nat.reduceLT, Nat.reduceLeDiff, Q7, Int.reduceLE, rvs, beq_self_eq_true, Qa, forall_const, implies_true, Q2, Qf, eBox, eI, BU1]
  ·simp only [hx, hlt, k0, k1, g1, htl, hii, k2, h4, Qg, Qh, Qaq, Qa0, runX, fpQ, fpV, slcV, Qfo, Qa2, Qa1, flat, ↓reduceIte, Nat.reduceEqDiff, Nat.reduceLT, Nat.reduceLeDiff, Q7, Int.reduceLE, beq_self_eq_true, Qa, forall_const, implies_true, Q2, Qf, eBox, eI, BU1]
   rw [Qa8 hx]
   refine ⟨fun y hy => ?_, Qri hc.2 k2⟩
   rcases Z8.1 hy with hy | hy
   ·exact hc.1 y hy
   ·rw [Zu] at hy; omega
 ·intro hc
  have h77 : ¬ ((l.length : Int) < l.length) := by omega
  rw [Qu] at hc
  by_cases e : (l.length : Int) = s.boils.length
  ·have : IsOrd s.boils.length l := ⟨by omega, hc.1, hc.2⟩
   simp only [e, this, Qa0, ↓reduceIte, Nat.reduceEqDiff, Nat.reduceLeDiff, rvs, Qi, Qa, eBox, BU1]
  ·have : ¬ IsOrd s.boils.length l := fun h => by have := h.len; omega
   simp only [h77, e, this, Qa0, ↓reduceIte, Nat.reduceEqDiff, Nat.reduceLeDiff, rvs, Qa, eBox, BU1]
noncomputable def KB2 : Gam := (KB1.ext 5 (fnG eX1 dX1 (fun _ => True) farX .b)).ext 7 (fnG eXL dXL (fun a => a.2.length ≤ 1000000) (fun a => decide (IsOrd a.1.boils.length a.2)) .b)
theorem okKB2 : GOk Tryz.prog KB2 := (Zaq.ext (f := 5) (fun a w => Tryz.call5 a w) (Qad (e := eX1) (d := dX1) (ok := fun _ => True) (g := farX) (eb := .b) fun s _ => W47 s)).ext (f := 7) (fun a w => Tryz.call7 a w) (Qad (e := eXL) (d := dXL) (ok := fun a => a.2.length ≤ 1000000) (g := fun a => decide (IsOrd a.1.boils.length a.2)) (eb := .b) fun a h => W49 a.1 a.2 h)
theorem h47 (s : Box) : KB2 5 [.ag (eBox s)] = (True, .b (farX s)) := (show KB2 5 _ = fnG eX1 dX1 (fun _ => True) farX .b (eX1 s) from rfl).trans (Qab _ (Qmg _))
theorem h49 (s : Box) (l : List Int) : KB2 7 [.ag (eBox s), .sl 1 (l.map eI)] = (l.length ≤ 1000000, .b (decide (IsOrd s.boils.length l))) :=
 (show KB2 7 _ = fnG eXL dXL (fun a => a.2.length ≤ 1000000) (fun a => decide (IsOrd a.1.boils.length a.2)) .b (eXL (s, l)) from rfl).trans (Qab _ (Qzp _))
end Go.C06
set_option linter.unusedSimpArgs false
set_option linter.unusedVariables false
namespace Go.C06
open Go.Fam Go.Proofs
variable {Γ : Gam}
end Go.C06
set_option linter.unusedSimpArgs false
set_option linter.unusedVariables false
namespace Go.C06
open Go.Fam Go.Proofs
theorem Qmx {n : Nat} {x : Int} : x ∈ Qbv n ↔ 0 ≤ x ∧ x < n := by
 unfold Qbv
 rw [Zf]
 constructor
 ·rintro ⟨i, hi, rfl⟩
  rw [Qq] at hi
  omega
 ·intro h
  exact ⟨x.toNat, Qq.2 (by omega), by omega⟩
theorem nums_pair (n : Nat) : (Qbv n).Pairwise (· < ·) := by
 unfold Qbv
 rw [List.pairwise_map]
 exact List.pairwise_lt_range.imp fun h => by omega
theorem Qil (n : Nat) : (Qbv n).Nodup := Q8.2 ((nums_pair n).imp fun h e => by omega)
theorem IsOrd.sur {n : Nat} {l : List Int} (h : IsOrd n l) {x : Int} (hx : 0 ≤ x ∧ x < n) : x ∈ l := by
 refine Classical.byContradiction fun hno => ?_
 have h1 : (x :: l).Nodup := List.nodup_cons.2 ⟨hno, h.nodup⟩
 have h2 := h1.length_le_of_subset (l₂ := Qbv n) fun y hy => by
  rw [Qmx]
  rcases Zr.1 hy with rfl | hy
  ·exact hx
  ·exact h.in_ y hy
 have := (Qkk n).1
 have := h.len
 simp only [Qt] at h2
 omega
theorem IsOrd.perm {n : Nat} {l : List Int} (h : IsOrd n l) : l.Perm (Qbv n) := by
 rw [List.perm_ext_iff_of_nodup h.nodup (Qil n)]
 intro x
 rw [Qmx]
 exact ⟨h.in_ x, h.sur⟩
theorem Zfz {n : Nat} {l : List Int} (h : l.Perm (Qbv n)) : IsOrd n l :=
 ⟨h.length_eq.trans (Qkk n).1, fun x hx => Qmx.1 (h.mem_iff.1 hx), h.symm.nodup (Qil n)⟩
theorem Qjb {L : List Int} {i : Nat} (h : i < L.length) : L.getD i 0 = L[i] := by rw [Qc, Qb h]; rfl
theorem Qir {L : List Int} {i j : Nat} (hi : i < L.length) (hj : j < L.length) : (Qfg L i j).Perm L := by
 unfold Qfg
 rw [Qjb hi, Qjb hj]
 exact List.set_set_perm hi hj
theorem Qm2 : ∀ (k : Nat) (L : List Int) (f : Nat), f + k = L.length → ∀ p ∈ Qg2 k L f, p.Perm L
 | 0, L, f, _, p, hp => by
  have : p = L := by simpa [Qg2] using hp
  rw [this]
 | k + 1, L, f, hf, p, hp => by
  simp only [Qg2, Ze, Qq] at hp
  obtain ⟨i, hi, hp⟩ := hp
  exact (Qm2 k (Qfg L f (f + i)) (f + 1) (by rw [Qd2]; omega) p hp).trans (Qir (by omega) (by omega))
theorem Qui {L : List Int} {f j : Nat} (hf : f < L.length) (hj : j < L.length) (hfj : f ≤ j) : (Qfg L f j).take f = L.take f := by
 unfold Qfg
 rw [Zp (by omega), Zp (by omega)]
theorem Qoo : ∀ (k : Nat) (L : List Int) (f : Nat), f + k = L.length → L.Nodup → ∀ p : List Int, p.Perm L → p.take f = L.take f → p ∈ Qg2 k L f
 | 0, L, f, hf, hn, p, hp, ht => by
  have h1 := hp.length_eq
  rw [Ql (by omega), Ql (by omega)] at ht
  simp [Qg2, ht]
 | k + 1, L, f, hf, hn, p, hp, ht => by
  have h1 := hp.length_eq
  have hfp : f < p.length := by omega
  have hfL : f < L.length := by omega
  have hx : p[f] ∈ L := hp.mem_iff.1 (Z4 hfp)
  obtain ⟨j, hj, e⟩ := Zl.1 hx
  have hfj : f ≤ j := by
   refine Classical.byContradiction fun hlt => ?_
   have h2 : p[j]'(by omega) = L[j] := by
    have h3 : (p.take f)[j]? = (L.take f)[j]? := by rw [ht]
    rw [Zv, Zv, if_pos (by omega), if_pos (by omega), Qb (by omega), Qb hj] at h3
    exact Z6.inj h3
   have hpn := Q8.1 (hp.symm.nodup hn)
   rw [List.pairwise_iff_getElem] at hpn
   exact hpn j f (by omega) hfp (by omega) (h2.trans e)
  simp only [Qg2, Ze, Qq]
  refine ⟨j - f, by omega, ?_⟩
  rw [show f + (j - f) = j by omega]
  refine Qoo k _ (f + 1) (by rw [Qd2]; omega) ((Qir hfL hj).symm.nodup hn) p (hp.trans (Qir hfL hj).symm) ?_
  have hs : (Qfg L f j)[f]? = some p[f] := by
   have := Qg4 L (k := f) hfL hj
   rw [Qc, Qb (by rw [Qd2]; exact hfL), Zb] at this
   rw [Qb (by rw [Qd2]; exact hfL), this, ← e]
   by_cases h : f = j
   ·subst h; rw [if_pos rfl, Qjb hfL]
   ·rw [if_neg h, if_pos rfl, Qjb hj]
  rw [Qa8 (Qb hfp), Qa8 hs, ht, Qui hfL hj hfj]
theorem Qur {n : Nat} {p : List Int} : p ∈ allO n ↔ IsOrd n p := by
 have hl := (Qkk n).1
 constructor
 ·intro h
  exact Zfz (Qm2 n (Qbv n) 0 (by omega) p h)
 ·intro h
  exact Qoo n (Qbv n) 0 (by omega) (Qil n) p h.perm (by simp)
theorem Qni (s : Box) : ∀ (ps : List (List Int)) (b : List Int), ((ps.foldl (fun best p => if Qcb s p < Qcb s best then p else best) b) = b ∨ (ps.foldl (fun best p => if Qcb s p < Qcb s best then p else best) b) ∈ ps) ∧
  Qcb s (ps.foldl (fun best p => if Qcb s p < Qcb s best then p else best) b) ≤ Qcb s b ∧ ∀ p ∈ ps, Qcb s (ps.foldl (fun best p => if Qcb s p < Qcb s best then p else best) b) ≤ Qcb s p
 | [], b => by simp
 | q :: ps, b => by
  obtain ⟨h1, h2, h3⟩ := Qni s ps (if Qcb s q < Qcb s b then q else b)
  rw [List.foldl_cons]
  by_cases hq : Qcb s q < Qcb s b
  ·simp only [if_pos hq] at h1 h2 h3 ⊢
   refine ⟨?_, by omega, fun p hp => ?_⟩
   ·rcases h1 with h | h
    ·exact .inr (by rw [h]; simp)
    ·exact .inr (Zn _ h)
   ·rcases Zr.1 hp with rfl | hp
    ·exact h2
    ·exact h3 p hp
  ·simp only [if_neg hq] at h1 h2 h3 ⊢
   refine ⟨?_, h2, fun p hp => ?_⟩
   ·rcases h1 with h | h
    ·exact .inl h
    ·exact .inr (Zn _ h)
   ·rcases Zr.1 hp with rfl | hp
    ·omega
    ·exact h3 p hp
theorem Qpx {s : Box} {p : List Int} (hp : IsOrd s.boils.length p) : Qcb s (Qfs s) ≤ Qcb s p := (Qni s (allO s.boils.length) (Qbv s.boils.length)).2.2 p (Qur.2 hp)
end Go.C06
set_option maxRecDepth 8000
namespace Go.CS
open Go.Fam Go.Proofs
def rc87 : RC := (.seq (.reg false [(cQ 6 [] (.mv (kB false)))]) (.keep [0,1,2] (.seq (.reg true [(cMv 7 0), (cMv 8 1), (cB 9 .geq 7 8), (cMv 10 9), (gMv 11 10 true 0), (gMv 12 10 true 2), (gQ 13 10 true [11,12] (.bin .leq (.t 11) (.t 12))), (cQ 14 [10,13] (.pick (.t 10) (.t 13) (kB false))), (cMv 6 14)]) .ret)))
def rs87 : List RV := [.t 6]
theorem cf87 : CF Tryz.prog Tryz.f87 [] 0 1 rc87 rs87 3 := ⟨by kernel_rfl, by kernel_rfl, by kernel_rfl, by decide⟩
def rc88 : RC := (.seq (.reg false [(cX 1 0), (cQ 2 [] (.mv (kB false)))]) (.keep [1] (.seq (.reg true [(cFa 3 1 0), (cLd 4 3 false 1), (cFa 5 1 1), (cLd 6 5 false 1), (cQ 7 [4,6] (.call (kF 87) [(.t 4), (kI 0), (.t 6)])), (cMv 8 7), (gQ 9 8 true [1] (.fad 1 (.t 1))), (gQ 10 8 true [9] (.ld false 1 (.t 9))), (gQ 11 8 true [10] (.bin .leq (.t 10) (kI 999))), (cQ 12 [8,11] (.pick (.t 8) (.t 11) (kB false))), (cMv 2 12)]) .ret)))
def rs88 : List RV := [.t 2]
theorem cf88 : CF Tryz.prog Tryz.f88 [1] 0 1 rc88 rs88 1 := ⟨by kernel_rfl, by kernel_rfl, by kernel_rfl, by decide⟩
def rc123 : RC := (.seq (.reg false [(cQ 2 [] (.mv (kB false)))]) (.keep [0] (.seq (.seq (.reg false [(cI 3 1)]) (.keep [0,3] (.block 0 (.loop [0,3] none (.seq (.seq (.reg false [(cMv 4 3), (cMv 5 0), (cLn 6 5), (cB 7 .lss 4 6)]) (.keep [0,3,7] (.cond (.t 7) .skip (.exit 0)))) (.keep [0,3] (.seq (.block 1 (.seq (.any false 0 [⟨(cMv 10 0), [], []⟩, ⟨(cMv 11 3), [], []⟩, ⟨(cA 12 1 10 11), [], [0,1]⟩, ⟨(cLd 13 12 false 1), [], [2,0,1]⟩, ⟨(cMv 14 0), [], []⟩, ⟨(cMv 15 3), [], []⟩, ⟨(cC 16 .sub 15 1), [], [5]⟩, ⟨(cA 17 1 14 16), [], [4,6,5]⟩, ⟨(cLd 18 17 false 1), [], [7,4,6,5]⟩, ⟨(cB 19 .leq 13 18), [], [3,2,0,1,8,7,4,6,5]⟩]) (.keep [0,3,19] (.cond (.t 19) (.seq (.reg false [(cQ 2 [] (.mv (kB false)))]) .ret) .skip)))) (.keep [0,3] (.reg false [(cMv 8 3), (cC 9 .add 8 1), (cMv 3 9)]))))))))) (.keep [] (.seq (.reg false [(cQ 2 [] (.mv (kB true)))]) .ret)))))
def rs123 : List RV := [.t 2]
theorem Qvf : CF Tryz.prog Tryz.f123 [] 0 1 rc123 rs123 1 := ⟨by kernel_rfl, by kernel_rfl, by kernel_rfl, by decide⟩
def rc89 : RC := (.seq (.reg false [(cX 1 0), (cQ 2 [] (.mv (kB false)))]) (.keep [1] (.seq (.seq (.reg false [(cI 3 0)]) (.keep [1,3] (.block 0 (.loop [1,3] none (.seq (.seq (.reg false [(cMv 4 3), (cFa 5 1 1), (cLd 6 5 false 1), (cLn 7 6), (cB 8 .lss 4 7)]) (.keep [1,3,8] (.cond (.t 8) .skip (.exit 0)))) (.keep [1,3] (.seq (.block 1 (.seq (.reg false [(cFa 11 1 1), (cLd 12 11 false 1), (cMv 13 3), (cA 14 1 12 13), (cLd 15 14 false 1), (cQ 16 [15] (.call (kF 87) [(.t 15), (kI 0), (kI 9)])), (cN 17 16)]) (.keep [1,3,17] (.cond (.t 17) (.seq (.reg false [(cQ 2 [] (.mv (kB false)))]) .ret) .skip)))) (.keep [1,3] (.reg false [(cMv 9 3), (cC 10 .add 9 1), (cMv 3 10)]))))))))) (.keep [1] (.seq (.reg true [(cFa 18 1 0), (cLd 19 18 false 1), (cQ 20 [19] (.call (kF 87) [(.t 19), (kI 0), (kI 9)])), (cMv 21 20), (gQ 22 21 true [1] (.fad 1 (.t 1))), (gQ 23 21 true [22] (.ld false 1 (.t 22))), (gQ 24 21 true [23] (.len (.t 23))), (gQ 25 21 true [24] (.bin .leq (.t 24) (kI 4))), (cQ 26 [21,25] (.pick (.t 21) (.t 25) (kB false))), (cMv 27 26), (gQ 28 27 true [1] (.fad 1 (.t 1))), (gQ 29 27 true [28] (.ld false 1 (.t 28))), (gQ 30 27 true [29] (.call (kF 123) [(.t 29)])), (cQ 31 [27,30] (.pick (.t 27) (.t 30) (kB false))), (cMv 32 31), (gQ 33 32 true [1] (.fad 2 (.t 1))), (gQ 34 32 true [33] (.ld true 2 (.t 33))), (gQ 35 32 true [34] (.call (kF 88) [(.t 34)])), (cQ 36 [32,35] (.pick (.t 32) (.t 35) (kB false))), (cMv 2 36)]) .ret)))))
def rs89 : List RV := [.t 2]
theorem cf89 : CF Tryz.prog Tryz.f89 [1] 0 1 rc89 rs89 1 := ⟨by kernel_rfl, by kernel_rfl, by kernel_rfl, by decide⟩
def rc90 : RC := (.seq (.reg false [(cX 2 0), (cQ 4 [] (.mv (kB false)))]) (.keep [1,2] (.seq (.reg false [(cMv 5 1), (cFa 6 2 0), (cLd 7 6 false 1), (cLn 8 7), (cC 9 .sub 8 1), (cQ 10 [5,9] (.call (kF 87) [(.t 5), (kI 0), (.t 9)])), (cMv 4 10)]) .ret)))
def rs90 : List RV := [.t 4]
theorem cf90 : CF Tryz.prog Tryz.f90 [2] 0 1 rc90 rs90 2 := ⟨by kernel_rfl, by kernel_rfl, by kernel_rfl, by decide⟩
def rc124 : RC := (.seq (.reg false [(cX 2 0), (cQ 4 [] (.mv (kB false)))]) (.keep [1,2] (.seq (.reg false [(cMv 5 1), (cFa 6 2 1), (cLd 7 6 false 1), (cLn 8 7), (cC 9 .sub 8 1), (cQ 10 [5,9] (.call (kF 87) [(.t 5), (kI 0), (.t 9)])), (cMv 4 10)]) .ret)))
def rs124 : List RV := [.t 4]
theorem Qvg : CF Tryz.prog Tryz.f124 [2] 0 1 rc124 rs124 2 := ⟨by kernel_rfl, by kernel_rfl, by kernel_rfl, by decide⟩
def rc91 : RC := (.seq (.reg false [(cX 3 0), (cQ 6 [] (.mv (kB false)))]) (.keep [1,2,3] (.seq (.reg true [(cLd 7 3 true 4), (cMv 8 1), (cQ 9 [7,8] (.call (kF 124) [(.t 7), (.t 8)])), (cMv 10 9), (gMv 11 10 true 2), (gQ 12 10 true [3] (.fad 1 (.t 3))), (gQ 13 10 true [12] (.ld false 1 (.t 12))), (gMv 14 10 true 1), (gQ 15 10 true [13,14] (.iad 1 (.t 13) (.t 14))), (gQ 16 10 true [15] (.fad 0 (.t 15))), (gQ 17 10 true [16] (.ld false 1 (.t 16))), (gQ 18 10 true [17] (.len (.t 17))), (gQ 19 10 true [18] (.bin .sub (.t 18) (kI 1))), (gQ 20 10 true [11,19] (.call (kF 87) [(.t 11), (kI 0), (.t 19)])), (cQ 21 [10,20] (.pick (.t 10) (.t 20) (kB false))), (cMv 6 21)]) .ret)))
def rs91 : List RV := [.t 6]
theorem cf91 : CF Tryz.prog Tryz.f91 [3] 0 1 rc91 rs91 3 := ⟨by kernel_rfl, by kernel_rfl, by kernel_rfl, by decide⟩
def rc68 : RC := (.seq (.reg false [(cX 1 0), (cQ 2 [] (.mv (kB false)))]) (.keep [1] (.seq (.seq (.reg true [(cFa 9 1 0), (cLd 10 9 false 1), (cLn 11 10), (cC 12 .gtr 11 10), (cMv 13 12), (gQ 14 13 false [1] (.fad 1 (.t 1))), (gQ 15 13 false [14] (.ld false 1 (.t 14))), (gQ 16 13 false [15] (.len (.t 15))), (gQ 17 13 false [16] (.bin .gtr (.t 16) (kI 6))), (cQ 18 [13,17] (.pick (.t 13) (kB true) (.t 17))), (cMv 19 18), (gQ 20 19 false [1] (.fad 2 (.t 1))), (gQ 21 19 false [20] (.ld false 1 (.t 20))), (gQ 22 19 false [21] (.call (kF 87) [(.t 21), (kI 0), (kI 99)])), (gQ 23 19 false [22] (.not (.t 22))), (cQ 24 [19,23] (.pick (.t 19) (kB true) (.t 23))), (cMv 25 24), (gQ 26 25 false [1] (.fad 3 (.t 1))), (gQ 27 25 false [26] (.ld false 1 (.t 26))), (gQ 28 25 false [27] (.len (.t 27))), (gQ 29 25 false [28] (.bin .gtr (.t 28) (kI 30))), (cQ 30 [25,29] (.pick (.t 25) (kB true) (.t 29)))]) (.keep [1,30] (.cond (.t 30) (.seq (.reg false [(cQ 2 [] (.mv (kB false)))]) .ret) .skip))) (.keep [1] (.seq (.seq (.reg false [(cI 3 0)]) (.keep [1,3] (.block 0 (.loop [1,3] (some 0) (.seq (.seq (.reg false [(cMv 31 3), (cFa 32 1 0), (cLd 33 32 false 1), (cLn 34 33), (cB 35 .lss 31 34)]) (.keep [1,3,35] (.cond (.t 35) .skip (.exit 0)))) (.keep [1,3] (.seq (.block 1 (.seq (.reg false [(cFa 38 1 0), (cLd 39 38 false 1), (cMv 40 3), (cA 41 4 39 40), (cLd 42 41 true 4), ⟨(some 4), none, [], none, .w (.alc [(.i 0), (.i 0), (.i 0), (.i 0)])⟩, ⟨none, none, [4,42], none, .w (.st 4 (.t 4) (.t 42))⟩]) (.keep [1,3,4] (.seq (.reg true [(cFa 43 4 0), (cLd 44 43 false 1), (cQ 45 [44] (.call (kF 87) [(.t 44), (kI 0), (kI 9)])), (cN 46 45), (cMv 47 46), (gQ 48 47 false [4] (.fad 1 (.t 4))), (gQ 49 47 false [48] (.ld false 1 (.t 48))), (gQ 50 47 false [49] (.call (kF 87) [(.t 49), (kI 0), (kI 9)])), (gQ 51 47 false [50] (.not (.t 50))), (cQ 52 [47,51] (.pick (.t 47) (kB true) (.t 51))), (cMv 53 52), (gQ 54 53 false [4] (.fad 2 (.t 4))), (gQ 55 53 false [54] (.ld true 2 (.t 54))), (gQ 56 53 false [55] (.call (kF 88) [(.t 55)])), (gQ 57 53 false [56] (.not (.t 56))), (cQ 58 [53,57] (.pick (.t 53) (kB true) (.t 57)))]) (.keep [1,3,58] (.cond (.t 58) (.seq (.reg false [(cQ 2 [] (.mv (kB false)))]) .ret) .skip)))))) (.drp 0 (.keep [1,3] (.reg false [(cMv 36 3), (cC 37 .add 36 1), (cMv 3 37)])))))))))) (.keep [1] (.seq (.seq (.reg false [(cI 5 0)]) (.keep [1,5] (.block 2 (.loop [1,5] none (.seq (.seq (.reg false [(cMv 59 5), (cFa 60 1 1), (cLd 61 60 false 1), (cLn 62 61), (cB 63 .lss 59 62)]) (.keep [1,5,63] (.cond (.t 63) .skip (.exit 2)))) (.keep [1,5] (.seq (.block 3 (.seq (.seq (.reg false [(cFa 66 1 1), (cLd 67 66 false 1), (cMv 68 5), (cA 69 1 67 68), (cFa 70 69 0), (cLd 71 70 false 1), (cLn 72 71), (cC 73 .gtr 72 4)]) (.keep [1,5,73] (.cond (.t 73) (.seq (.reg false [(cQ 2 [] (.mv (kB false)))]) .ret) .skip))) (.keep [1,5] (.seq (.reg false [(cI 6 0)]) (.keep [1,5,6] (.block 4 (.loop [1,5,6] none (.seq (.seq (.reg false [(cMv 74 6), (cFa 75 1 1), (cLd 76 75 false 1), (cMv 77 5), (cA 78 1 76 77), (cFa 79 78 0), (cLd 80 79 false 1), (cLn 81 80), (cB 82 .lss 74 81)]) (.keep [1,5,6,82] (.cond (.t 82) .skip (.exit 4)))) (.keep [1,5,6] (.seq (.block 5 (.seq (.reg false [(cFa 85 1 1), (cLd 86 85 false 1), (cMv 87 5), (cA 88 1 86 87), (cFa 89 88 0), (cLd 90 89 false 1), (cMv 91 6), (cA 92 4 90 91), (cLd 93 92 true 4), (cQ 94 [93] (.call (kF 89) [(.t 93)])), (cN 95 94)]) (.keep [1,5,6,95] (.cond (.t 95) (.seq (.reg false [(cQ 2 [] (.mv (kB false)))]) .ret) .skip)))) (.keep [1,5,6] (.reg false [(cMv 83 6), (cC 84 .add 83 1), (cMv 6 84)])))))))))))) (.keep [1,5] (.reg false [(cMv 64 5), (cC 65 .add 64 1), (cMv 5 65)]))))))))) (.keep [1] (.seq (.seq (.reg false [(cI 7 0)]) (.keep [1,7] (.block 6 (.loop [1,7] (some 0) (.seq (.seq (.reg false [(cMv 96 7), (cFa 97 1 3), (cLd 98 97 false 1), (cLn 99 98), (cB 100 .lss 96 99)]) (.keep [1,7,100] (.cond (.t 100) .skip (.exit 6)))) (.keep [1,7] (.seq (.block 7 (.seq (.reg false [(cFa 103 1 3), (cLd 104 103 false 1), (cMv 105 7), (cA 106 4 104 105), (cLd 107 106 true 4), ⟨(some 8), none, [], none, .w (.alc [(.i 0), (.i 0), (.i 0), (.i 0)])⟩, ⟨none, none, [8,107], none, .w (.st 4 (.t 8) (.t 107))⟩]) (.keep [1,7,8] (.seq (.reg true [(cLd 108 1 true 4), (cFa 109 8 0), (cLd 110 109 false 1), (cQ 111 [108,110] (.call (kF 90) [(.t 108), (.t 110)])), (cN 112 111), (cMv 113 112), (gQ 114 113 false [1] (.ld true 4 (.t 1))), (gQ 115 113 false [8] (.fad 1 (.t 8))), (gQ 116 113 false [115] (.ld false 1 (.t 115))), (gQ 117 113 false [8] (.fad 2 (.t 8))), (gQ 118 113 false [117] (.ld false 1 (.t 117))), (gQ 119 113 false [114,116,118] (.call (kF 91) [(.t 114), (.t 116), (.t 118)])), (gQ 120 113 false [119] (.not (.t 119))), (cQ 121 [113,120] (.pick (.t 113) (kB true) (.t 120))), (cMv 122 121), (gQ 123 122 false [8] (.fad 3 (.t 8))), (gQ 124 122 false [123] (.ld false 1 (.t 123))), (gQ 125 122 false [124] (.call (kF 87) [(.t 124), (kI 0), (kI 1)])), (gQ 126 122 false [125] (.not (.t 125))), (cQ 127 [122,126] (.pick (.t 122) (kB true) (.t 126)))]) (.keep [1,7,127] (.cond (.t 127) (.seq (.reg false [(cQ 2 [] (.mv (kB false)))]) .ret) .skip)))))) (.drp 0 (.keep [1,7] (.reg false [(cMv 101 7), (cC 102 .add 101 1), (cMv 7 102)])))))))))) (.keep [] (.seq (.reg false [(cQ 2 [] (.mv (kB true)))]) .ret)))))))))))
def rs68 : List RV := [.t 2]
theorem cf68 : CF Tryz.prog Tryz.f68 [1] 0 1 rc68 rs68 1 := ⟨by kernel_rfl, by kernel_rfl, by kernel_rfl, by decide⟩
def rc42 : RC := (.seq (.reg false [(cX 1 0), (cI 2 0)]) (.keep [1] (.seq (.seq (.reg false [(cLd 7 1 true 4), (cQ 8 [7] (.call (kF 68) [(.t 7)])), (cN 9 8)]) (.keep [1,9] (.cond (.t 9) (.seq (.reg false [(cI 2 70)]) .ret) .skip))) (.keep [1] (.seq (.seq (.reg false [(cI 3 0)]) (.keep [1,3] (.block 0 (.loop [1,3] (some 0) (.seq (.seq (.reg false [(cMv 10 3), (cFa 11 1 3), (cLd 12 11 false 1), (cLn 13 12), (cB 14 .lss 10 13)]) (.keep [1,3,14] (.cond (.t 14) .skip (.exit 0)))) (.keep [1,3] (.seq (.block 1 (.seq (.reg false [(cI 4 0)]) (.keep [1,3,4] (.block 2 (.loop [1,3,4] (some 0) (.seq (.seq (.reg false [(cMv 17 4), (cMv 18 3), (cB 19 .lss 17 18)]) (.keep [1,3,4,19] (.cond (.t 19) .skip (.exit 2)))) (.keep [1,3,4] (.seq (.block 3 (.seq (.any false 2 [⟨(cFa 22 1 3), [], []⟩, ⟨(cLd 23 22 false 1), [], [0]⟩, ⟨(cMv 24 4), [], []⟩, ⟨(cA 25 4 23 24), [], [1,0,2]⟩, ⟨(cLd 26 25 true 4), [], [3,1,0,2]⟩, ⟨(cFa 27 1 3), [], []⟩, ⟨(cLd 28 27 false 1), [], [5]⟩, ⟨(cMv 29 3), [], []⟩, ⟨(cA 30 4 28 29), [], [6,5,7]⟩, ⟨(cLd 31 30 true 4), [], [8,6,5,7]⟩, ⟨⟨(some 5), none, [], (some 0), .w (.alc [(.i 0), (.i 0), (.i 0), (.i 0)])⟩, [0,1,2,3,4,5,6,7,8,9], []⟩, ⟨⟨(some 6), none, [], (some 1), .w (.alc [(.i 0), (.i 0), (.i 0), (.i 0)])⟩, [0,1,2,3,4,5,6,7,8,9,10], []⟩, ⟨⟨none, none, [5,26], none, .w (.st 4 (.t 5) (.t 26))⟩, [5,6,7,8,9], [10,4,3,1,0,2,11]⟩, ⟨⟨none, none, [6,31], none, .w (.st 4 (.t 6) (.t 31))⟩, [], [11,9,8,6,5,7,12,10,4,3,1,0,2]⟩]) (.keep [1,3,4,5,6] (.seq (.reg true [(cFa 32 5 0), (cLd 33 32 false 1), (cFa 34 6 0), (cLd 35 34 false 1), (cB 36 .eql 33 35), (cMv 37 36), (gQ 38 37 true [5] (.fad 1 (.t 5))), (gQ 39 37 true [38] (.ld false 1 (.t 38))), (gQ 40 37 true [6] (.fad 1 (.t 6))), (gQ 41 37 true [40] (.ld false 1 (.t 40))), (gQ 42 37 true [39,41] (.bin .eql (.t 39) (.t 41))), (cQ 43 [37,42] (.pick (.t 37) (.t 42) (kB false))), (cMv 44 43), (gQ 45 44 true [5] (.fad 2 (.t 5))), (gQ 46 44 true [45] (.ld false 1 (.t 45))), (gQ 47 44 true [6] (.fad 2 (.t 6))), (gQ 48 44 true [47] (.ld false 1 (.t 47))), (gQ 49 44 true [46,48] (.bin .eql (.t 46) (.t 48))), (cQ 50 [44,49] (.pick (.t 44) (.t 49) (kB false))), (cMv 51 50), (gQ 52 51 true [5] (.fad 3 (.t 5))), (gQ 53 51 true [52] (.ld false 1 (.t 52))), (gQ 54 51 true [6] (.fad 3 (.t 6))), (gQ 55 51 true [54] (.ld false 1 (.t 54))), (gQ 56 51 true [53,55] (.bin .neq (.t 53) (.t 55))), (cQ 57 [51,56] (.pick (.t 51) (.t 56) (kB false)))]) (.keep [1,3,4,57] (.cond (.t 57) (.seq (.reg false [(cI 2 71)]) .ret) .skip)))))) (.drp 0 (.keep [1,3,4] (.reg false [(cMv 20 4), (cC 21 .add 20 1), (cMv 4 21)]))))))))))) (.drp 0 (.keep [1,3] (.reg false [(cMv 15 3), (cC 16 .add 15 1), (cMv 3 16)])))))))))) (.keep [] (.seq (.reg false [(cI 2 0)]) .ret)))))))
def rs42 : List RV := [.t 2]
theorem cf42 : CF Tryz.prog Tryz.f42 [1] 0 1 rc42 rs42 1 := ⟨by kernel_rfl, by kernel_rfl, by kernel_rfl, by decide⟩
def rc141 : RC := (.seq (.reg false [(cX 3 1), (cQ 4 [] (.mv (kB false)))]) (.keep [0,3] (.seq (.reg false [(cMv 5 0), (cQ 6 [3] (.mkf 155 [(.t 3)])), (cQ 7 [5,6] (.call (kF 154) [(.t 5), (.t 6)])), (cN 8 7), (cMv 4 8)]) .ret)))
def rs141 : List RV := [.t 4]
theorem Qvr : CF Tryz.prog Tryz.f141 [3] 0 1 rc141 rs141 2 := ⟨by kernel_rfl, by kernel_rfl, by kernel_rfl, by decide⟩
def rc142 : RC := (.seq (.reg false [(cX 3 1), (cQ 4 [] (.mv (kB false)))]) (.keep [0,3] (.seq (.reg false [(cMv 5 0), (cQ 6 [3] (.mkf 157 [(.t 3)])), (cQ 7 [5,6] (.call (kF 156) [(.t 5), (.t 6)])), (cN 8 7), (cMv 4 8)]) .ret)))
def rs142 : List RV := [.t 4]
theorem Qvs : CF Tryz.prog Tryz.f142 [3] 0 1 rc142 rs142 2 := ⟨by kernel_rfl, by kernel_rfl, by kernel_rfl, by decide⟩
def rc143 : RC := (.seq (.reg false [(cI 4 0)]) (.keep [0,1] (.seq (.seq (.reg false [(cMv 6 0), (cLn 7 6), (cI 8 0)]) (.keep [0,1,7,8] (.block 0 (.loop [0,1,7,8] none (.seq (.reg false [(cB 9 .lss 8 7)]) (.keep [0,1,7,8,9] (.seq (.cond (.t 9) .skip (.exit 0)) (.keep [0,1,7,8] (.seq (.block 1 (.seq (.reg false [(cMv 10 8), (cMv 5 10)]) (.keep [0,1,5,7,8] (.seq (.reg false [(cMv 11 1), (cMv 12 0), (cMv 13 5), (cA 14 1 12 13), (cLd 15 14 false 1), (cQ 16 [11,15] (.call (.t 11) [(.t 15)]))]) (.keep [0,1,5,7,8,16] (.cond (.t 16) (.seq (.reg false [(cMv 17 5), (cMv 4 17)]) .ret) .skip)))))) (.keep [0,1,7,8] (.reg false [(cC 18 .add 8 1), (cMv 8 18)]))))))))))) (.keep [] (.seq (.reg false [(cQ 4 [] (.mv (.k (.i (-1)))))]) .ret)))))
def rs143 : List RV := [.t 4]
theorem Qno : CF Tryz.prog Tryz.f143 [] 0 1 rc143 rs143 2 := ⟨by kernel_rfl, by kernel_rfl, by kernel_rfl, by decide⟩
def rc144 : RC := (.seq (.reg false [(cI 4 0)]) (.keep [0,1] (.seq (.seq (.reg false [(cMv 6 0), (cLn 7 6), (cI 8 0)]) (.keep [0,1,7,8] (.block 0 (.loop [0,1,7,8] none (.seq (.reg false [(cB 9 .lss 8 7)]) (.keep [0,1,7,8,9] (.seq (.cond (.t 9) .skip (.exit 0)) (.keep [0,1,7,8] (.seq (.block 1 (.seq (.reg false [(cMv 10 8), (cMv 5 10)]) (.keep [0,1,5,7,8] (.seq (.reg false [(cMv 11 1), (cMv 12 0), (cMv 13 5), (cA 14 5 12 13), (cLd 15 14 true 5), (cQ 16 [11,15] (.call (.t 11) [(.t 15)]))]) (.keep [0,1,5,7,8,16] (.cond (.t 16) (.seq (.reg false [(cMv 17 5), (cMv 4 17)]) .ret) .skip)))))) (.keep [0,1,7,8] (.reg false [(cC 18 .add 8 1), (cMv 8 18)]))))))))))) (.keep [] (.seq (.reg false [(cQ 4 [] (.mv (.k (.i (-1)))))]) .ret)))))
def rs144 : List RV := [.t 4]
theorem Qvt : CF Tryz.prog Tryz.f144 [] 0 1 rc144 rs144 2 := ⟨by kernel_rfl, by kernel_rfl, by kernel_rfl, by decide⟩
def rc145 : RC := (.seq (.reg false [(cI 4 0)]) (.keep [0,1] (.seq (.seq (.reg false [(cMv 6 0), (cLn 7 6), (cI 8 0)]) (.keep [0,1,7,8] (.block 0 (.loop [0,1,7,8] none (.seq (.reg false [(cB 9 .lss 8 7)]) (.keep [0,1,7,8,9] (.seq (.cond (.t 9) .skip (.exit 0)) (.keep [0,1,7,8] (.seq (.block 1 (.seq (.reg false [(cMv 10 8), (cMv 5 10)]) (.keep [0,1,5,7,8] (.seq (.reg false [(cMv 11 1), (cMv 12 0), (cMv 13 5), (cA 14 6 12 13), (cLd 15 14 true 6), (cQ 16 [11,15] (.call (.t 11) [(.t 15)]))]) (.keep [0,1,5,7,8,16] (.cond (.t 16) (.seq (.reg false [(cMv 17 5), (cMv 4 17)]) .ret) .skip)))))) (.keep [0,1,7,8] (.reg false [(cC 18 .add 8 1), (cMv 8 18)]))))))))))) (.keep [] (.seq (.reg false [(cQ 4 [] (.mv (.k (.i (-1)))))]) .ret)))))
def rs145 : List RV := [.t 4]
theorem Qvu : CF Tryz.prog Tryz.f145 [] 0 1 rc145 rs145 2 := ⟨by kernel_rfl, by kernel_rfl, by kernel_rfl, by decide⟩
def rc146 : RC := (.seq (.reg false [(cI 4 0)]) (.keep [0,1] (.seq (.seq (.reg false [(cMv 6 0), (cLn 7 6), (cI 8 0)]) (.keep [0,1,7,8] (.block 0 (.loop [0,1,7,8] none (.seq (.reg false [(cB 9 .lss 8 7)]) (.keep [0,1,7,8,9] (.seq (.cond (.t 9) .skip (.exit 0)) (.keep [0,1,7,8] (.seq (.block 1 (.seq (.reg false [(cMv 10 8), (cMv 5 10)]) (.keep [0,1,5,7,8] (.seq (.reg false [(cMv 11 1), (cMv 12 0), (cMv 13 5), (cA 14 3 12 13), (cLd 15 14 true 3), (cQ 16 [11,15] (.call (.t 11) [(.t 15)]))]) (.keep [0,1,5,7,8,16] (.cond (.t 16) (.seq (.reg false [(cMv 17 5), (cMv 4 17)]) .ret) .skip)))))) (.keep [0,1,7,8] (.reg false [(cC 18 .add 8 1), (cMv 8 18)]))))))))))) (.keep [] (.seq (.reg false [(cQ 4 [] (.mv (.k (.i (-1)))))]) .ret)))))
def rs146 : List RV := [.t 4]
theorem Qvv : CF Tryz.prog Tryz.f146 [] 0 1 rc146 rs146 2 := ⟨by kernel_rfl, by kernel_rfl, by kernel_rfl, by decide⟩
def rc147 : RC := (.seq (.reg false [(cQ 4 [] (.mv (kB false)))]) (.keep [0,1] (.seq (.reg false [(cMv 5 0), (cMv 6 1), (cQ 7 [5,6] (.call (kF 158) [(.t 5), (.t 6)])), (cC 8 .geq 7 0), (cMv 4 8)]) .ret)))
def rs147 : List RV := [.t 4]
theorem Qnp : CF Tryz.prog Tryz.f147 [] 0 1 rc147 rs147 2 := ⟨by kernel_rfl, by kernel_rfl, by kernel_rfl, by decide⟩
def rc148 : RC := (.seq (.reg false [(cX 2 0), (cQ 3 [] (.mv (kB false)))]) (.keep [1,2] (.seq (.reg false [(cLd 4 1 false 1), (cLd 5 2 true 4), (cQ 6 [4,5] (.call (.t 4) [(.t 5)])), (cN 7 6), (cMv 3 7)]) .ret)))
def rs148 : List RV := [.t 3]
theorem Qnq : CF Tryz.prog Tryz.f148 [2] 0 1 rc148 rs148 2 := ⟨by kernel_rfl, by kernel_rfl, by kernel_rfl, by decide⟩
def rc150 : RC := (.seq (.reg false [(cX 5 0), (cQ 10 [] (.mv (kB false)))]) (.keep [1,2,3,4,5] (.seq (.any false 2 [⟨(cFa 13 5 0), [], []⟩, ⟨(cLd 14 13 false 1), [], [0]⟩, ⟨(cMv 15 1), [], []⟩, ⟨(cA 16 4 14 15), [], [1,0,2]⟩, ⟨(cLd 17 16 true 4), [], [3,1,0,2]⟩, ⟨(cFa 18 5 1), [], []⟩, ⟨(cLd 19 18 false 1), [], [5]⟩, ⟨(cMv 20 3), [], []⟩, ⟨(cA 21 1 19 20), [], [6,5,7]⟩, ⟨(cFa 22 21 0), [], [8,6,5,7]⟩, ⟨(cLd 23 22 false 1), [], [9,8,6,5,7]⟩, ⟨(cMv 24 4), [], []⟩, ⟨(cA 25 4 23 24), [], [10,9,8,6,5,7,11]⟩, ⟨(cLd 26 25 true 4), [], [12,10,9,8,6,5,7,11]⟩, ⟨⟨(some 11), none, [], (some 0), .w (.alc [(.i 0), (.i 0), (.i 0), (.i 0)])⟩, [0,1,2,3,4,5,6,7,8,9,10,11,12,13], []⟩, ⟨⟨(some 12), none, [], (some 1), .w (.alc [(.i 0), (.z 1), (.i 0), (.i 0)])⟩, [0,1,2,3,4,5,6,7,8,9,10,11,12,13,14], []⟩, ⟨⟨none, none, [11,17], none, .w (.st 4 (.t 11) (.t 17))⟩, [5,6,7,8,9,10,11,12,13], [14,4,3,1,0,2,15]⟩, ⟨⟨none, none, [12,26], none, .w (.st 4 (.t 12) (.t 26))⟩, [], [15,13,12,10,9,8,6,5,7,11,16,14,4,3,1,0,2]⟩]) (.keep [2,5,11,12] (.seq (.reg true [(cFa 27 11 0), (cLd 28 27 false 1), (cFa 29 12 0), (cLd 30 29 false 1), (cB 31 .eql 28 30), (cMv 32 31), (gQ 33 32 true [12] (.fad 1 (.t 12))), (gQ 34 32 true [33] (.ld false 1 (.t 33))), (gQ 35 32 true [11] (.fad 1 (.t 11))), (gQ 36 32 true [35] (.ld false 1 (.t 35))), (gQ 37 32 true [34,36] (.call (kF 159) [(.t 34), (.t 36)])), (cQ 38 [32,37] (.pick (.t 32) (.t 37) (kB false))), (cMv 39 38), (gMv 40 39 true 2), (gQ 41 39 true [12] (.fad 2 (.t 12))), (gQ 42 39 true [41] (.fad 0 (.t 41))), (gQ 43 39 true [42] (.ld false 1 (.t 42))), (gQ 44 39 true [12] (.fad 2 (.t 12))), (gQ 45 39 true [44] (.fad 1 (.t 44))), (gQ 46 39 true [45] (.ld false 1 (.t 45))), (gQ 47 39 true [5] (.fad 2 (.t 5))), (gQ 48 39 true [47] (.ld false 1 (.t 47))), (gQ 49 39 true [46,48] (.bin .add (.t 46) (.t 48))), (gQ 50 39 true [40,43,49] (.call (kF 87) [(.t 40), (.t 43), (.t 49)])), (cQ 51 [39,50] (.pick (.t 39) (.t 50) (kB false))), (cMv 10 51)]) .ret)))))
def rs150 : List RV := [.t 10]
theorem Qvw : CF Tryz.prog Tryz.f150 [5] 0 1 rc150 rs150 5 := ⟨by kernel_rfl, by kernel_rfl, by kernel_rfl, by decide⟩
end Go.CS
set_option linter.all false
namespace Go.CS
open Go.Fam Go.Proofs
open Go.C06 (Span eI eIs Qbx gI gR dI Qbl Qcj fnG Qad Qab Qa6 Qa8 idxOf Qas Qaj Qal Qar Qai Qag Qac Qat Qb3 Qc5 vw_I Qay hmix eLI dLI Qca Qan)
structure Spare where
 kind : Int
 sect : Int
 len : Span
 deriving DecidableEq
structure Slot where
 kind : Int
 secs : List Int
 len : Span
 deriving DecidableEq
structure Trial where
 spare : Int
 make : Int
 slot : Int
 fits : Int
 deriving DecidableEq
structure Work where
 spares : List Spare
 makes : List (List Slot)
 cut : Int
 table : List Trial
 deriving DecidableEq
structure Piece where
 color : Int
 size : Int
 letter : Int
 make : Int
 broken : List Int
 deriving DecidableEq
structure Wish where
 colors : List Int
 size : Span
 letter : Int
 due : Int
 price : Int
 deriving DecidableEq
structure Del where
 day : Int
 spare : Int
 many : Int
 deriving DecidableEq
structure Shop where
 work : Work
 stock : List Int
 pieces : List Piece
 wishes : List Wish
 dels : List Del
 carve : Int
 deriving DecidableEq
def eSpare (s : Spare) : List V := [.i s.kind, .i s.sect, .i s.len.low, .i s.len.high]
def eSlot (t : Slot) : List V := [.i t.kind, .sl 1 (t.secs.map eI), .i t.len.low, .i t.len.high]
def eMake (m : List Slot) : List V := [.sl 4 (m.map eSlot)]
def eTrial (t : Trial) : List V := [.i t.spare, .i t.make, .i t.slot, .i t.fits]
def Qa7 (w : Work) : List V := [.sl 4 (w.spares.map eSpare), .sl 1 (w.makes.map eMake), .i w.cut, .sl 4 (w.table.map eTrial)]
def ePiece (p : Piece) : List V := [.i p.color, .i p.size, .i p.letter, .i p.make, .sl 1 (p.broken.map eI)]
def eWish (x : Wish) : List V := [.sl 1 (x.colors.map eI), .i x.size.low, .i x.size.high, .i x.letter, .i x.due, .i x.price]
def eDel (d : Del) : List V := [.i d.day, .i d.spare, .i d.many]
def Qae (s : Shop) : List V := [.sl 4 (s.work.spares.map eSpare), .sl 1 (s.work.makes.map eMake), .i s.work.cut, .sl 4 (s.work.table.map eTrial), .sl 1 (s.stock.map eI), .sl 5 (s.pieces.map ePiece), .sl 6 (s.wishes.map eWish), .sl 3 (s.dels.map eDel), .i s.carve]
def Zhk : List V → Span | [a, b] => ⟨gI a, gI b⟩ | _ => ⟨0, 0⟩
def Qjy : List V → Spare | [a, b, c, d] => ⟨gI a, gI b, ⟨gI c, gI d⟩⟩ | _ => ⟨0, 0, ⟨0, 0⟩⟩
def Ql7 : List V → Slot | [a, b, c, d] => ⟨gI a, (gR b).map dI, ⟨gI c, gI d⟩⟩ | _ => ⟨0, [], ⟨0, 0⟩⟩
def Qpc : List V → List Slot | [a] => (gR a).map Ql7 | _ => []
def Qef : List V → Trial | [a, b, c, d] => ⟨gI a, gI b, gI c, gI d⟩ | _ => ⟨0, 0, 0, 0⟩
def Qct : List V → Work | [a, b, c, d] => ⟨(gR a).map Qjy, (gR b).map Qpc, gI c, (gR d).map Qef⟩ | _ => ⟨[], [], 0, []⟩
def Qev : List V → Piece | [a, b, c, d, e] => ⟨gI a, gI b, gI c, gI d, (gR e).map dI⟩ | _ => ⟨0, 0, 0, 0, []⟩
def Qnv : List V → Wish | [a, b, c, d, e, f] => ⟨(gR a).map dI, ⟨gI b, gI c⟩, gI d, gI e, gI f⟩ | _ => ⟨[], ⟨0, 0⟩, 0, 0, 0⟩
def dDel : List V → Del | [a, b, c] => ⟨gI a, gI b, gI c⟩ | _ => ⟨0, 0, 0⟩
def Qj4 : List V → Shop | [a, b, c, d, e, f, g, h, i] => ⟨⟨(gR a).map Qjy, (gR b).map Qpc, gI c, (gR d).map Qef⟩, (gR e).map dI, (gR f).map Qev, (gR g).map Qnv, (gR h).map dDel, gI i⟩ | _ => ⟨⟨[], [], 0, []⟩, [], [], [], [], 0⟩
theorem Qhc (s : Spare) : Qjy (eSpare s) = s := rfl
theorem Qdu (s : Trial) : Qef (eTrial s) = s := rfl
theorem Qs8 (s : Del) : dDel (eDel s) = s := rfl
theorem Qib (s : Slot) : Ql7 (eSlot s) = s := by simp [Ql7, eSlot, gI, gR, Function.comp_def, Qbl]
theorem Qia (s : List Slot) : Qpc (eMake s) = s := by simp [Qpc, eMake, gR, Function.comp_def, Qib]
theorem Qcu (s : Work) : Qct (Qa7 s) = s := by simp [Qct, Qa7, gI, gR, Function.comp_def, Qhc, Qia, Qdu]
theorem Qf8 (s : Piece) : Qev (ePiece s) = s := by simp [Qev, ePiece, gI, gR, Function.comp_def, Qbl]
theorem Qmf (s : Wish) : Qnv (eWish s) = s := by simp [Qnv, eWish, gI, gR, Function.comp_def, Qbl]
theorem Qjx (s : Shop) : Qj4 (Qae s) = s := by simp [Qj4, Qae, gI, gR, Function.comp_def, Qhc, Qia, Qdu, Qbl, Qf8, Qmf, Qs8]
def eS1 (s : Span) : List V := [.ag (Qbx s)]
def dS1 : List V → Span | [.ag s] => Zhk s | _ => ⟨0, 0⟩
theorem Zd2 (s : Span) : dS1 (eS1 s) = s := rfl
def eL1 (l : List Int) : List V := [.sl 1 (l.map eI)]
def dL1 : List V → List Int | [.sl _ l] => l.map dI | _ => []
theorem Qwj (l : List Int) : dL1 (eL1 l) = l := by simp [dL1, eL1, Function.comp_def, Qbl]
def eT1 (t : Slot) : List V := [.ag (eSlot t)]
def dT1 : List V → Slot | [.ag s] => Ql7 s | _ => Ql7 []
theorem Zhl (t : Slot) : dT1 (eT1 t) = t := by simp [dT1, eT1, Qib]
def eW1 (w : Work) : List V := [.ag (Qa7 w)]
def dW1 : List V → Work | [.ag s] => Qct s | _ => Qct []
theorem Qnu (w : Work) : dW1 (eW1 w) = w := by simp [dW1, eW1, Qcu]
def eWI (a : Work × Int) : List V := [.ag (Qa7 a.1), .i a.2]
def dWI : List V → Work × Int | [.ag s, .i n] => (Qct s, n) | _ => (Qct [], 0)
theorem Qsa (a : Work × Int) : dWI (eWI a) = a := by obtain ⟨w, n⟩ := a; simp [dWI, eWI, Qcu]
def eWII (a : Work × Int × Int) : List V := [.ag (Qa7 a.1), .i a.2.1, .i a.2.2]
def dWII : List V → Work × Int × Int | [.ag s, .i n, .i m] => (Qct s, n, m) | _ => (Qct [], 0, 0)
theorem Qs9 (a : Work × Int × Int) : dWII (eWII a) = a := by obtain ⟨w, n, m⟩ := a; simp [dWII, eWII, Qcu]
def eH1 (s : Shop) : List V := [.ag (Qae s)]
def dH1 : List V → Shop | [.ag s] => Qj4 s | _ => Qj4 []
theorem Qnt (s : Shop) : dH1 (eH1 s) = s := by simp [dH1, eH1, Qjx]
def ascB : List Int → Bool
 | x :: y :: r => decide (x < y) && ascB (y :: r)
 | _ => true
theorem Qdt : ∀ l : List Int, ascB l = true ↔ ∀ j x y, l[j]? = some x → l[j + 1]? = some y → x < y
 | [] => by simp [ascB]
 | [a] => by
  simp only [ascB, true_iff]
  intro j x y h1 h2; simp at h2
 | a :: b :: r => by
  have ih := Qdt (b :: r)
  simp only [ascB, Zc, decide_eq_true_eq]
  constructor
  ·rintro ⟨h1, h2⟩ j x y hx hy
   cases j with
   | zero => simp at hx hy; omega
   | succ j => exact ih.1 h2 j x y (by simpa using hx) (by simpa using hy)
  ·intro h
   exact ⟨h 0 a b rfl rfl, ih.2 fun j x y hx hy => h (j + 1) x y (by simpa using hx) (by simpa using hy)⟩
end Go.CS
set_option linter.all false
namespace Go.CS
open Go.Fam Go.Proofs
open Go.C06 (Span eI eIs Qbx gI gR dI Qbl Qcj fnG Qad Qab Qa6 Qa8 idxOf Qas Qaj Qal Qar Qai Qag Qac Qat Qb3 Qc5 vw_I Qay hmix eLI dLI Qca Qan Qa3 Qaa Qau)
open Go.ChangeAt
open Go.C06 (Boil Box Qeg eBox)
variable {H : Type} {enc : TypeId × Value → H} {W : World}
theorem uInt : Tryz.prog.underlying 3 = some (.int .i64) := by kernel_rfl
theorem Qe0 : Rd enc Tryz.prog W 3 eI inI := Zg8 uInt
theorem Qot : Rd enc Tryz.prog W 27 (fun l : List Int => [.sl 1 (l.map eI)]) (fun l => ∀ x ∈ l, inI x) :=
 (Qea (el := 3) (es := 1) (by kernel_rfl) (by kernel_rfl) (by decide) Qe0).map id (fun _ => rfl) fun _ h => h.1
theorem aInts : RdV enc Tryz.prog W 27 (fun l : List Int => .sl 1 (l.map eI)) (fun l => ∀ x ∈ l, inI x) := Rd.one (Qtq (el := 3) (by kernel_rfl)) Qot
theorem Qtw : Rd enc Tryz.prog W 57 (fun s : Span => [V.i s.low, V.i s.high]) (fun _ => True) :=
 (RdP.rd (fs := Tryz.prog.fieldsOf 57) (n := 2) (ps := [(3, 0), (3, 1)]) (by kernel_rfl) (by kernel_rfl) (by kernel_rfl)
  (Qb0 (k := 1) (by kernel_rfl) Qe0 (Qb0 (k := 1) (by kernel_rfl) Qe0 (Qe1 (by decide))))).map (fun p => ⟨p.1, p.2.1⟩) (fun _ => rfl) fun _ _ => trivial
theorem Zax : Rd enc Tryz.prog W 95 eSpare (fun _ => True) :=
 (RdP.rd (fs := Tryz.prog.fieldsOf 95) (n := 4) (ps := [(3, 0), (3, 1), (57, 2)]) (by kernel_rfl) (by kernel_rfl) (by kernel_rfl)
  (Qb0 (k := 1) (by kernel_rfl) Qe0 (Qb0 (k := 1) (by kernel_rfl) Qe0 (Qb0 (k := 2) (by kernel_rfl) Qtw (Qe1 (by decide)))))).map (fun p => ⟨p.1, p.2.1, p.2.2.1⟩) (fun _ => rfl) fun _ _ => trivial
theorem Qxc : Rd enc Tryz.prog W 22 (fun l : List Spare => [.sl 4 (l.map eSpare)]) (fun _ => True) :=
 (Qea (el := 95) (es := 4) (by kernel_rfl) (by kernel_rfl) (by decide) Zax).map id (fun _ => rfl) fun _ _ => trivial
theorem Zg5 : Rd enc Tryz.prog W 92 eSlot (fun _ => True) :=
 (RdP.rd (fs := Tryz.prog.fieldsOf 92) (n := 4) (ps := [(3, 0), (27, 1), (57, 2)]) (by kernel_rfl) (by kernel_rfl) (by kernel_rfl)
  (Qb0 (k := 1) (by kernel_rfl) Qe0 (Qb0 (k := 1) (by kernel_rfl) Qot (Qb0 (k := 2) (by kernel_rfl) Qtw (Qe1 (by decide)))))).map (fun p => ⟨p.1, p.2.1, p.2.2.1⟩) (fun _ => rfl) fun _ _ => trivial
theorem Zaw : Rd enc Tryz.prog W 88 (fun l : List Slot => [.sl 4 (l.map eSlot)]) (fun _ => True) :=
 (Qea (el := 92) (es := 4) (by kernel_rfl) (by kernel_rfl) (by decide) Zg5).map id (fun _ => rfl) fun _ _ => trivial
theorem Zg3 : Rd enc Tryz.prog W 90 eMake (fun _ => True) :=
 (RdP.rd (fs := Tryz.prog.fieldsOf 90) (n := 1) (ps := [(88, 0)]) (by kernel_rfl) (by kernel_rfl) (by kernel_rfl)
  (Qb0 (k := 1) (by kernel_rfl) Zaw (Qe1 (by decide)))).map (fun p => p.1) (fun _ => rfl) fun _ _ => trivial
theorem Zau : Rd enc Tryz.prog W 23 (fun l : List (List Slot) => [.sl 1 (l.map eMake)]) (fun _ => True) :=
 (Qea (el := 90) (es := 1) (by kernel_rfl) (by kernel_rfl) (by decide) Zg3).map id (fun _ => rfl) fun _ _ => trivial
theorem Zay : Rd enc Tryz.prog W 133 eTrial (fun _ => True) :=
 (RdP.rd (fs := Tryz.prog.fieldsOf 133) (n := 4) (ps := [(3, 0), (3, 1), (3, 2), (3, 3)]) (by kernel_rfl) (by kernel_rfl) (by kernel_rfl)
  (Qb0 (k := 1) (by kernel_rfl) Qe0 (Qb0 (k := 1) (by kernel_rfl) Qe0 (Qb0 (k := 1) (by kernel_rfl) Qe0 (Qb0 (k := 1) (by kernel_rfl) Qe0 (Qe1 (by decide))))))).map (fun p => ⟨p.1, p.2.1, p.2.2.1, p.2.2.2.1⟩) (fun _ => rfl) fun _ _ => trivial
theorem Qxd : Rd enc Tryz.prog W 24 (fun l : List Trial => [.sl 4 (l.map eTrial)]) (fun _ => True) :=
 (Qea (el := 133) (es := 4) (by kernel_rfl) (by kernel_rfl) (by decide) Zay).map id (fun _ => rfl) fun _ _ => trivial
theorem Zg7 : Rd enc Tryz.prog W 26 Qa7 (fun _ => True) :=
 (RdP.rd (fs := Tryz.prog.fieldsOf 26) (n := 4) (ps := [(22, 0), (23, 1), (3, 2), (24, 3)]) (by kernel_rfl) (by kernel_rfl) (by kernel_rfl)
  (Qb0 (k := 1) (by kernel_rfl) Qxc (Qb0 (k := 1) (by kernel_rfl) Zau (Qb0 (k := 1) (by kernel_rfl) Qe0 (Qb0 (k := 1) (by kernel_rfl) Qxd (Qe1 (by decide))))))).map (fun p => ⟨p.1, p.2.1, p.2.2.1, p.2.2.2.1⟩) (fun _ => rfl) fun _ _ => trivial
theorem Zav : Rd enc Tryz.prog W 55 ePiece (fun _ => True) :=
 (RdP.rd (fs := Tryz.prog.fieldsOf 55) (n := 5) (ps := [(3, 0), (3, 1), (3, 2), (3, 3), (27, 4)]) (by kernel_rfl) (by kernel_rfl) (by kernel_rfl)
  (Qb0 (k := 1) (by kernel_rfl) Qe0 (Qb0 (k := 1) (by kernel_rfl) Qe0 (Qb0 (k := 1) (by kernel_rfl) Qe0 (Qb0 (k := 1) (by kernel_rfl) Qe0 (Qb0 (k := 1) (by kernel_rfl) Qot (Qe1 (by decide)))))))).map (fun p => ⟨p.1, p.2.1, p.2.2.1, p.2.2.2.1, p.2.2.2.2.1⟩) (fun _ => rfl) fun _ _ => trivial
theorem Qxb : Rd enc Tryz.prog W 28 (fun l : List Piece => [.sl 5 (l.map ePiece)]) (fun _ => True) :=
 (Qea (el := 55) (es := 5) (by kernel_rfl) (by kernel_rfl) (by decide) Zav).map id (fun _ => rfl) fun _ _ => trivial
theorem Zg6 : Rd enc Tryz.prog W 59 eWish (fun _ => True) :=
 (RdP.rd (fs := Tryz.prog.fieldsOf 59) (n := 6) (ps := [(27, 0), (57, 1), (3, 3), (3, 4), (3, 5)]) (by kernel_rfl) (by kernel_rfl) (by kernel_rfl)
  (Qb0 (k := 1) (by kernel_rfl) Qot (Qb0 (k := 2) (by kernel_rfl) Qtw (Qb0 (k := 1) (by kernel_rfl) Qe0 (Qb0 (k := 1) (by kernel_rfl) Qe0 (Qb0 (k := 1) (by kernel_rfl) Qe0 (Qe1 (by decide)))))))).map (fun p => ⟨p.1, p.2.1, p.2.2.1, p.2.2.2.1, p.2.2.2.2.1⟩) (fun _ => rfl) fun _ _ => trivial
theorem Qxf : Rd enc Tryz.prog W 29 (fun l : List Wish => [.sl 6 (l.map eWish)]) (fun _ => True) :=
 (Qea (el := 59) (es := 6) (by kernel_rfl) (by kernel_rfl) (by decide) Zg6).map id (fun _ => rfl) fun _ _ => trivial
theorem Zil : Rd enc Tryz.prog W 99 eDel (fun _ => True) :=
 (RdP.rd (fs := Tryz.prog.fieldsOf 99) (n := 3) (ps := [(3, 0), (3, 1), (3, 2)]) (by kernel_rfl) (by kernel_rfl) (by kernel_rfl)
  (Qb0 (k := 1) (by kernel_rfl) Qe0 (Qb0 (k := 1) (by kernel_rfl) Qe0 (Qb0 (k := 1) (by kernel_rfl) Qe0 (Qe1 (by decide)))))).map (fun p => ⟨p.1, p.2.1, p.2.2.1⟩) (fun _ => rfl) fun _ _ => trivial
theorem Zg2 : Rd enc Tryz.prog W 30 (fun l : List Del => [.sl 3 (l.map eDel)]) (fun _ => True) :=
 (Qea (el := 99) (es := 3) (by kernel_rfl) (by kernel_rfl) (by decide) Zil).map id (fun _ => rfl) fun _ _ => trivial
theorem Zg4 : Rd enc Tryz.prog W 32 Qae (fun _ => True) :=
 (RdP.rd (fs := Tryz.prog.fieldsOf 32) (n := 9) (ps := [(26, 0), (27, 4), (28, 5), (29, 6), (30, 7), (3, 8)]) (by kernel_rfl) (by kernel_rfl) (by kernel_rfl)
  (Qb0 (k := 4) (by kernel_rfl) Zg7 (Qb0 (k := 1) (by kernel_rfl) Qot (Qb0 (k := 1) (by kernel_rfl) Qxb (Qb0 (k := 1) (by kernel_rfl) Qxf (Qb0 (k := 1) (by kernel_rfl) Zg2 (Qb0 (k := 1) (by kernel_rfl) Qe0 (Qe1 (by decide))))))))).map (fun p => ⟨p.1, p.2.1, p.2.2.1, p.2.2.2.1, p.2.2.2.2.1, p.2.2.2.2.2.1⟩) (fun _ => rfl) fun _ _ => trivial
theorem aShop : RdV enc Tryz.prog W 32 (fun d => .ag (Qae d)) (fun _ => True) := Zg4.agg (fs := Tryz.prog.fieldsOf 32) (by kernel_rfl)
theorem Zg1 : Rd enc Tryz.prog W 62 Qeg (fun _ => True) :=
 (RdP.rd (fs := Tryz.prog.fieldsOf 62) (n := 2) (ps := [(3, 0), (3, 1)]) (by kernel_rfl) (by kernel_rfl) (by kernel_rfl)
  (Qb0 (k := 1) (by kernel_rfl) Qe0 (Qb0 (k := 1) (by kernel_rfl) Qe0 (Qe1 (by decide))))).map (fun p => ⟨p.1, p.2.1⟩) (fun _ => rfl) fun _ _ => trivial
theorem Zas : Rd enc Tryz.prog W 33 (fun l : List Boil => [.sl 2 (l.map Qeg)]) (fun _ => True) :=
 (Qea (el := 62) (es := 2) (by kernel_rfl) (by kernel_rfl) (by decide) Zg1).map id (fun _ => rfl) fun _ _ => trivial
theorem Zik : Rd enc Tryz.prog W 35 eBox (fun _ => True) :=
 (RdP.rd (fs := Tryz.prog.fieldsOf 35) (n := 2) (ps := [(3, 0), (33, 1)]) (by kernel_rfl) (by kernel_rfl) (by kernel_rfl)
  (Qb0 (k := 1) (by kernel_rfl) Qe0 (Qb0 (k := 1) (by kernel_rfl) Zas (Qe1 (by decide))))).map (fun p => ⟨p.1, p.2.1⟩) (fun _ => rfl) fun _ _ => trivial
theorem aBox : RdV enc Tryz.prog W 35 (fun d => .ag (eBox d)) (fun _ => True) := Zik.agg (fs := Tryz.prog.fieldsOf 35) (by kernel_rfl)
theorem own : ownKnob Tryz.prog.godebug = none := by kernel_rfl
theorem laid : laidOutB Tryz.prog = true := by kernel_rfl
end Go.CS
set_option linter.all false
namespace Go.CS
open Go.Fam Go.Proofs
open Go.C06 (Span eI eIs Qbx gI gR dI Qbl Qcj fnG Qad Qab Qa6 Qa8 idxOf Qas Qaj Qal Qar Qai Qag Qac Qat Qb3 Qc5 vw_I Qay hmix eLI dLI Qca Qan)
variable {Γ : Gam}
theorem W87 (n lo hi : Int) : Qa5 Tryz.prog 87 [.i n, .i lo, .i hi] (.b (Qa6 n lo hi)) := by
 refine Qa4 Qzx hmix Tryz.func87 cf87.b cf87.c cf87.s cf87.n ?_
 simp only [rc87, rs87, Qa0, ↓reduceIte, Nat.reduceEqDiff, Nat.reduceAdd, rvs, zipA, V.b.injEq, decide_eq_true_eq, decide_eq_false_iff_not, implies_true, reduceCtorEq, Qmq, imp_self, BU1]
 by_cases h : lo ≤ n <;> simp [h, Qa6]
def sWi : List V → Prop × V | [.i n, .i lo, .i hi] => (True, .b (Qa6 n lo hi)) | _ => (False, .u)
theorem Qqw {f : Nat} (hf : ∀ n lo hi : Int, Qa5 Tryz.prog f [.i n, .i lo, .i hi] (.b (Qa6 n lo hi))) (vs : List V) (h : (sWi vs).1) : Qa5 Tryz.prog f vs (sWi vs).2 := by
 unfold sWi at h ⊢
 split at h
 ·exact hf _ _ _
 ·exact h.elim
noncomputable def K1 : Gam := Go.C06.KB2.ext 87 sWi
theorem okK1 : GOk Tryz.prog K1 := Go.C06.okKB2.ext (f := 87) (r := sWi) (fun a w => Tryz.call87 a w) (Qqw W87)
theorem h87 (n lo hi : Int) : K1 87 [.i n, .i lo, .i hi] = (True, .b (Qa6 n lo hi)) := rfl
def Qez (s : Span) : Bool := Qa6 s.low 0 s.high && decide (s.high ≤ 999)
theorem W88 (s : Span) : Qa5 Tryz.prog 88 [.ag (Qbx s)] (.b (Qez s)) := by
 refine Qa4 okK1 hmix Tryz.func88 cf88.b cf88.c cf88.s cf88.n ?_
 simp only [rc88, rs88, h87, Qa0, Qa2, Qa1, flat, ↓reduceIte, Nat.reduceEqDiff, Nat.reduceAdd, Nat.reduceLT, Nat.reduceLeDiff, rvs, zipA, V.b.injEq, Qa, implies_true, Qmq, Q4, imp_self, Qbx, BU1]
 by_cases h : Qa6 s.low 0 s.high = true <;> simp [h, Qez]
theorem W123 (l : List Int) (hl : l.length ≤ 1000000) : Qa5 Tryz.prog 123 [.sl 1 (l.map eI)] (.b (ascB l)) := by
 refine Qa4 okK1 hmix Tryz.func123 Qvf.b Qvf.c Qvf.s Qvf.n ?_
 simp only [rc123, rs123, Qa0, ↓reduceIte, zipA, reduceCtorEq, BU1]
 refine Qap (l.length - 1) (fun k => ⟨lkp [(0, .sl 1 (l.map eI)), (3, .i ((k + 1 : Nat) : Int))], []⟩) (fun k => ∀ j x y, j < k → l[j]? = some x → l[j + 1]? = some y → x < y) ?_ ?_ ?_ ?_
 ·simp only [↓reduceIte, reduceCtorEq, BU1]; rfl
 ·intro j x y h; omega
 ·intro k hk hc
  obtain ⟨x, hx⟩ : ∃ x, l[k]? = some x := ⟨_, Qb (by omega)⟩
  obtain ⟨y, hy⟩ : ∃ y, l[k + 1]? = some y := ⟨_, Qb (by omega)⟩
  have hlt : ((k + 1 : Nat) : Int) < l.length := by omega
  have e1 : ((k + 1 : Nat) : Int) - 1 = (k : Int) := by omega
  have h3 : inI ((k + 1 + 1 : Nat) : Int) ∧ inI (k : Int) := by unfold inI; omega
  have e2 : ((k + 1 : Nat) : Int) + 1 = ((k + 1 + 1 : Nat) : Int) := by omega
  have hk2 : (k : Int) < l.length := by omega
  simp only [hx, hy, hlt, e1, h3, e2, hk2, Qdp, Qaq, Qa0, runX, fpQ, fpV, ↓reduceIte, Nat.reduceEqDiff, Nat.reduceLeDiff, rvs, V.b.injEq, Qa, decide_eq_true_eq, reduceCtorEq, Qf, eI, BU1]
  refine ⟨fun e => ?_, fun e => ?_⟩
  ·have : ¬ ascB l = true := fun ha => by have := (Qdt l).1 ha k x y hx hy; omega
   simp at this; exact this.symm
  ·intro j a b hj ha hb
   by_cases hjk : j < k
   ·exact hc j a b hjk ha hb
   ·have : j = k := by omega
    subst this
    rw [hx] at ha; rw [hy] at hb; cases ha; cases hb; omega
 ·intro hc
  have hn : ¬ (((l.length - 1 + 1 : Nat) : Int) < l.length) := by omega
  simp only [hn, Qa0, ↓reduceIte, Nat.reduceEqDiff, rvs, V.b.injEq, Qa, reduceCtorEq, BU1]
  exact ((Qdt l).2 fun j x y hx hy => hc j x y (by have := Qaf hy; omega) hx hy).symm
noncomputable def K2 : Gam := (K1.ext 88 (fnG eS1 dS1 (fun _ => True) Qez .b)).ext 123 (fnG eL1 dL1 (fun l => l.length ≤ 1000000) ascB .b)
theorem okK2 : GOk Tryz.prog K2 := (okK1.ext (f := 88) (fun a w => Tryz.call88 a w) (Qad (e := eS1) (d := dS1) (ok := fun _ => True) (g := Qez) (eb := .b) fun s _ => W88 s)).ext (f := 123) (fun a w => Tryz.call123 a w) (Qad (e := eL1) (d := dL1) (ok := fun l => l.length ≤ 1000000) (g := ascB) (eb := .b) fun s h => W123 s h)
theorem h88 (s : Span) : K2 88 [.ag (Qbx s)] = (True, .b (Qez s)) := (show K2 88 _ = fnG eS1 dS1 (fun _ => True) Qez .b (eS1 s) from rfl).trans (Qab _ (Zd2 _))
theorem h123 (l : List Int) : K2 123 [.sl 1 (l.map eI)] = (l.length ≤ 1000000, .b (ascB l)) := (show K2 123 _ = fnG eL1 dL1 (fun l => l.length ≤ 1000000) ascB .b (eL1 l) from rfl).trans (Qab _ (Qwj _))
theorem Qrt (n lo hi : Int)  : K2 87 [.i n, .i lo, .i hi] = (True, .b (Qa6 n lo hi)) := h87 n lo hi
def okSlot (t : Slot) : Bool := (t.secs.all fun n => Qa6 n 0 9) && Qa6 t.kind 0 9 && decide ((t.secs.length : Int) ≤ 4) && ascB t.secs && Qez t.len
theorem W89 (t : Slot) (hl : t.secs.length ≤ 1000000) : Qa5 Tryz.prog 89 [.ag (eSlot t)] (.b (okSlot t)) := by
 refine Qa4 okK2 hmix Tryz.func89 cf89.b cf89.c cf89.s cf89.n ?_
 simp only [rc89, rs89, Qa0, Qa2, Qa1, ↓reduceIte, Nat.reduceEqDiff, zipA, eSlot, BU1]
 refine Qap t.secs.length (fun i => ⟨lkp [(1, .pa (eSlot t)), (3, .i i)], []⟩) (fun i => ∀ j x, j < i → t.secs[j]? = some x → Qa6 x 0 9 = true) ?_ ?_ ?_ ?_
 ·simp only [Qe, ↓reduceIte, Nat.reduceEqDiff, eSlot, BU1]
 ·intro j x h; omega
 ·intro i hi hc
  obtain ⟨x, hx⟩ : ∃ x, t.secs[i]? = some x := ⟨_, Qb hi⟩
  have hlt : (i : Int) < t.secs.length := by omega
  have h4 : inI ((i : Int) + 1) := by unfold inI; omega
  have hno : Qa6 x 0 9 = false → okSlot t = false := fun e => by
   have : (t.secs.all fun n => Qa6 n 0 9) = false := by rw [List.all_eq_false]; exact ⟨x, Qd hx, by rw [e]; simp⟩
   unfold okSlot; rw [this]; rfl
  cases hs : Qa6 x 0 9 with
  | false => simp only [hx, hlt, Qrt, hs, hno hs, Qa0, Qa2, Qa1, flat, ↓reduceIte, Nat.reduceEqDiff, Nat.reduceAdd, Nat.reduceLT, Nat.reduceLeDiff, rvs, Qa, implies_true, eI, eSlot, BU1]
  | true =>
   simp only [hx, hlt, Qrt, hs, h4, Qg, Qh, Qa0, Qa2, Qa1, flat, ↓reduceIte, Nat.reduceEqDiff, Nat.reduceAdd, Nat.reduceLT, Nat.reduceLeDiff, Qa, implies_true, eI, eSlot, BU1]
   intro j y hj hy
   by_cases hji : j < i
   ·exact hc j y hji hy
   ·have : j = i := by omega
    subst this
    rw [hx] at hy; cases hy; exact hs
 ·intro hc
  have hlt : ¬ ((t.secs.length : Int) < t.secs.length) := by omega
  have ha : (t.secs.all fun n => Qa6 n 0 9) = true := by
   rw [List.all_eq_true]
   intro x hx
   obtain ⟨j, hj⟩ := Qs hx
   exact hc j x (Qaf hj) hj
  have g := h88 t.len
  unfold Qbx at g
  simp only [hlt, Qrt, g, h123, Qa0, Qa2, Qa1, flat, ↓reduceIte, Nat.reduceEqDiff, Nat.reduceAdd, Nat.reduceLT, Nat.reduceLeDiff, rvs, V.b.injEq, Qa, implies_true, Qmq, Q4, imp_self, eSlot, BU1]
  unfold okSlot
  rw [ha]
  by_cases h1 : Qa6 t.kind 0 9 = true
  ·by_cases h2 : (t.secs.length : Int) ≤ 4
   ·by_cases h3 : ascB t.secs = true
    ·simp [h1, h2, h3, hl]
    ·simp [h1, h2, h3, hl]
   ·simp [h1, h2]
  ·simp [h1]
theorem W90 (w : Work) (n : Int) (hl : w.spares.length ≤ 1000000) : Qa5 Tryz.prog 90 [.ag (Qa7 w), .i n] (.b (Qa6 n 0 (w.spares.length - 1))) := by
 refine Qa4 okK2 hmix Tryz.func90 cf90.b cf90.c cf90.s cf90.n ?_
 have h1 : inI ((w.spares.length : Int) - 1) := by unfold inI; omega
 simp only [rc90, rs90, Qrt, h1, Qa0, Qa2, Qa1, flat, ↓reduceIte, Nat.reduceEqDiff, Nat.reduceAdd, Nat.reduceLT, Nat.reduceLeDiff, rvs, zipA, Qa, implies_true, reduceCtorEq, Qa7, BU1]
theorem W124 (w : Work) (n : Int) (hl : w.makes.length ≤ 1000000) : Qa5 Tryz.prog 124 [.ag (Qa7 w), .i n] (.b (Qa6 n 0 (w.makes.length - 1))) := by
 refine Qa4 okK2 hmix Tryz.func124 Qvg.b Qvg.c Qvg.s Qvg.n ?_
 have h1 : inI ((w.makes.length : Int) - 1) := by unfold inI; omega
 simp only [rc124, rs124, Qrt, h1, Qa0, Qa2, Qa1, flat, ↓reduceIte, Nat.reduceEqDiff, Nat.reduceAdd, Nat.reduceLT, Nat.reduceLeDiff, rvs, zipA, Qa, implies_true, reduceCtorEq, Qa7, BU1]
noncomputable def K3 : Gam := ((K2.ext 89 (fnG eT1 dT1 (fun t => t.secs.length ≤ 1000000) okSlot .b)).ext 90 (fnG eWI dWI (fun a => a.1.spares.length ≤ 1000000) (fun a => Qa6 a.2 0 (a.1.spares.length - 1)) .b)).ext 124 (fnG eWI dWI (fun a => a.1.makes.length ≤ 1000000) (fun a => Qa6 a.2 0 (a.1.makes.length - 1)) .b)
theorem okK3 : GOk Tryz.prog K3 := by
 have k1 := okK2.ext (f := 89) (fun a w => Tryz.call89 a w) (Qad (e := eT1) (d := dT1) (ok := fun t => t.secs.length ≤ 1000000) (g := okSlot) (eb := .b) fun t h => W89 t h)
 have k2 := k1.ext (f := 90) (fun a w => Tryz.call90 a w) (Qad (e := eWI) (d := dWI) (ok := fun a => a.1.spares.length ≤ 1000000) (g := fun a => Qa6 a.2 0 (a.1.spares.length - 1)) (eb := .b) fun a h => W90 a.1 a.2 h)
 exact k2.ext (f := 124) (fun a w => Tryz.call124 a w) (Qad (e := eWI) (d := dWI) (ok := fun a => a.1.makes.length ≤ 1000000) (g := fun a => Qa6 a.2 0 (a.1.makes.length - 1)) (eb := .b) fun a h => W124 a.1 a.2 h)
theorem h89 (t : Slot) : K3 89 [.ag (eSlot t)] = (t.secs.length ≤ 1000000, .b (okSlot t)) := (show K3 89 _ = fnG eT1 dT1 (fun t => t.secs.length ≤ 1000000) okSlot .b (eT1 t) from rfl).trans (Qab _ (Zhl _))
theorem h90 (w : Work) (n : Int) : K3 90 [.ag (Qa7 w), .i n] = (w.spares.length ≤ 1000000, .b (Qa6 n 0 (w.spares.length - 1))) := (show K3 90 _ = fnG eWI dWI (fun a => a.1.spares.length ≤ 1000000) (fun a => Qa6 a.2 0 (a.1.spares.length - 1)) .b (eWI (w, n)) from rfl).trans (Qab _ (Qsa _))
theorem h124 (w : Work) (n : Int) : K3 124 [.ag (Qa7 w), .i n] = (w.makes.length ≤ 1000000, .b (Qa6 n 0 (w.makes.length - 1))) := (show K3 124 _ = fnG eWI dWI (fun a => a.1.makes.length ≤ 1000000) (fun a => Qa6 a.2 0 (a.1.makes.length - 1)) .b (eWI (w, n)) from rfl).trans (Qab _ (Qsa _))
theorem Zgo (n lo hi : Int)  : K3 87 [.i n, .i lo, .i hi] = (True, .b (Qa6 n lo hi)) := h87 n lo hi
def Qbm (w : Work) (m : Int) : List Slot := w.makes.getD m.toNat []
def Qbg (w : Work) (m k : Int) : Bool := Qa6 m 0 (w.makes.length - 1) && Qa6 k 0 ((Qbm w m).length - 1)
structure SmallW (w : Work) : Prop where
 spares : w.spares.length ≤ 1000000
 makes : w.makes.length ≤ 1000000
 slots : ∀ m ∈ w.makes, m.length ≤ 1000000
 secs : ∀ m ∈ w.makes, ∀ t ∈ m, t.secs.length ≤ 1000000
 table : w.table.length ≤ 1000000
theorem Qe9 {w : Work} {m : Int} (h : Qa6 m 0 (w.makes.length - 1) = true) : 0 ≤ m ∧ m < w.makes.length ∧ w.makes[m.toNat]? = some (Qbm w m) := by
 simp only [Qa6, Zc, decide_eq_true_eq] at h
 refine ⟨h.1, by omega, ?_⟩
 unfold Qbm
 rw [Qc, Qb (by omega)]; rfl
theorem W91 (w : Work) (m k : Int) (hw : SmallW w) : Qa5 Tryz.prog 91 [.ag (Qa7 w), .i m, .i k] (.b (Qbg w m k)) := by
 refine Qa4 okK3 hmix Tryz.func91 cf91.b cf91.c cf91.s cf91.n ?_
 have g1 := h124 w m
 unfold Qa7 at g1
 cases h : Qa6 m 0 (w.makes.length - 1) with
 | false =>
  simp only [rc91, rs91, g1, h, hw.makes, Qa0, Qbh, binW, Qa2, Qa1, flat, ↓reduceIte, Nat.reduceEqDiff, Nat.reduceAdd, Nat.reduceLT, Nat.reduceLeDiff, rvs, zipA, V.b.injEq, Zq, Qa, forall_const, implies_true, reduceCtorEq, imp_self, Qa7, BU1]
  unfold Qbg; rw [h]; rfl
 | true =>
  obtain ⟨h1, h2, h3⟩ := Qe9 h
  have h4 := hw.slots _ (Qd h3)
  have h5 : inI (((Qbm w m).length : Int) - 1) := by unfold inI; omega
  simp only [rc91, rs91, g1, h, hw.makes, h1, h2, h3, h5, Zgo, Qa0, Qa2, Qa1, flat, ↓reduceIte, Nat.reduceEqDiff, Nat.reduceAdd, Nat.reduceLT, Nat.reduceLeDiff, rvs, zipA, beq_self_eq_true, V.b.injEq, Qa, Qk, forall_const, implies_true, reduceCtorEq, eMake, Qa7, BU1]
  unfold Qbg; rw [h]; rfl
end Go.CS
