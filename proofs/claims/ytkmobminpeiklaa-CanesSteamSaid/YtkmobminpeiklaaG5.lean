import Derived.Test.YtkmobminpeiklaaG4
import Derived.Test.YtkmobminpeiklaaChecked
import Derived.Test.YtkmobminpeiklaaRows
set_option linter.all false
open List renaming map_cons → Qa, map_nil → Qb, getD_eq_getElem?_getD → Qc, length_cons → Qe, length_nil → Qf, getElem?_cons_zero → Qg, take_succ_cons → Qi, drop_succ_cons → Qj, append_nil → Qk, getElem?_eq_getElem → Ql, getElem?_cons_succ → Qm, headD_cons → Qn, length_map → Qp, drop_zero → Qq, nil_append → Qr, take_nil → Qs, cons_append → Qv, getElem?_nil → Qw, mem_of_getElem? → Qx, getElem?_map → Qy, all_cons → Qz, all_nil → Q0, take_zero → Q2, replicate_zero → Q3, set_cons_zero → Za, contains_nil → Zb, contains_cons → Zc, isEmpty_nil → Zf, drop_nil → Zh, any_nil → Zn, set_cons_succ → Zp, flatten_cons → Zt, getElem?_of_mem → Zu, flatten_nil → Zv, getD_cons_zero → Zw, getD_cons_succ → Zx, length_pos_iff → Zy, isEmpty_cons → Z0, any_eq_true → Z4, take_length → Z5, eq_nil_of_length_eq_zero → Z9, replicate_succ → Xc, any_cons → Xf, countP_le_length → Xi, countP_singleton → Xj, map_congr_left → Xm, length_append → Xn, countP_append → Xo, getElem_mem → Xr, length_take → Xt, cons → Xu, countP_nil → Xw, map_append → Xx, sum_append → Xy, mem_append → Xz, mem_range → X0
open Nat renaming zero_add → Qh, le_refl → Zq, add_zero → Xd, le_trans → Xh
open Bool renaming false_eq_true → Qd, or_false → Qo, and_self → Qu, and_true → Q1, not_eq_true' → Q4, not_eq_true → Zd, not_true → Zi, false_and → Zl, not_false → Zm, not_eq_false' → Zo, true_eq_false → Zr, true_and → Zz, not_eq_false → Z3, false_or → Z6, decide_eq_false → Z8, decide_eq_true → Xb, or_eq_false_iff → Xk, not_not → Xp, and_eq_true → Xs, and_false → X1
open Option renaming getD_some → Qt, map_some → Q8, getD_none → Ze, some → Z7
open Int renaming natCast_add → Q5, natCast_one → Q6, natCast_nonneg → Q7, toNat_natCast → Q9, natCast_zero → Zg, mul_nonneg → Zj, tdiv_eq_ediv_of_nonneg → Zk, lt_irrefl → Zs, mul_le_mul_of_nonneg_left → Xa, mul_le_mul → Xe, add_assoc → Xg, toNat_zero → Xl, add_zero → Xq, neg_mul_neg → Xv
set_option linter.unusedSimpArgs false
set_option linter.unusedVariables false
namespace Go.C06
open Go.Fam
structure Span where
 low : Int
 high : Int
 deriving DecidableEq
def eI (n : Int) : List V := [.i n]
def eIs (l : List Int) : V := .sl 1 (l.map eI)
def Qau (s : Span) : List V := [.i s.low, .i s.high]
def gI : V → Int | .i n => n | _ => 0
def gR : V → List (List V) | .sl _ r => r | _ => []
def dI (r : List V) : Int := gI (r.headD .u)
def Qew : List V → Span | [a, b] => ⟨gI a, gI b⟩ | _ => ⟨0, 0⟩
theorem Qg3 (n : Int) : dI (eI n) = n := rfl
theorem Qg4 (s : Span) : Qew (Qau s) = s := rfl
theorem Qyw (s : Span) : (⟨s.low, s.high⟩ : Span) = s := rfl
def fnG {A B : Type} (e : A → List V) (d : List V → A) (ok : A → Prop) (g : A → B) (eb : B → V) : List V → Prop × V := fun vs => (e (d vs) = vs ∧ ok (d vs), eb (g (d vs)))
theorem Qb0 {P : Program} {A B : Type} {e : A → List V} {d : List V → A} {ok : A → Prop} {g : A → B} {eb : B → V} {f : Nat} (h : ∀ a, ok a → Qah P f (e a) (eb (g a))) (vs : List V) (hv : (fnG e d ok g eb vs).1) :
  Qah P f vs (fnG e d ok g eb vs).2 := by
 have := h (d vs) hv.2
 rw [hv.1] at this
 exact this
theorem Qb6 {A B : Type} {e : A → List V} {d : List V → A} {ok : A → Prop} {g : A → B} {eb : B → V} (a : A) (h : d (e a) = a) : fnG e d ok g eb (e a) = (ok a, eb (g a)) := by
 simp [fnG, h]
def Qan (n lo hi : Int) : Bool := decide (lo ≤ n) && decide (n ≤ hi)
def tame (m n : Int) : Prop := -m ≤ n ∧ n ≤ m
theorem Qfl {a b m n : Int} (ha : tame m a) (hb : tame n b) (hm : 0 ≤ m) (hn : 0 ≤ n) : tame (m * n) (a * b) := by
 unfold tame at *
 constructor
 ·by_cases h : 0 ≤ a
  ·by_cases h' : 0 ≤ b
   ·have := Zj h h'; have := Zj hm hn; omega
   ·have := Xe ha.2 (show -b ≤ n by omega) (by omega) hm
    have e := Int.mul_neg a b
    omega
  ·by_cases h' : 0 ≤ b
   ·have := Xe (show -a ≤ m by omega) hb.2 (by omega) hm
    have e := Int.neg_mul a b
    omega
   ·have := Zj (show 0 ≤ -a by omega) (show 0 ≤ -b by omega)
    have e := Xv a b
    have := Zj hm hn
    omega
 ·by_cases h : 0 ≤ a
  ·by_cases h' : 0 ≤ b
   ·exact Xe ha.2 hb.2 h' hm
   ·have := Zj h (show 0 ≤ -b by omega)
    have e := Int.mul_neg a b
    have := Zj hm hn
    omega
  ·by_cases h' : 0 ≤ b
   ·have := Zj (show 0 ≤ -a by omega) h'
    have e := Int.neg_mul a b
    have := Zj hm hn
    omega
   ·have := Xe (show -a ≤ m by omega) (show -b ≤ n by omega) (by omega) hm
    have e := Xv a b
    omega
theorem Qb7 {α : Type} {l : List α} {i : Nat} {x : α} (h : l[i]? = some x) : l.take (i + 1) = l.take i ++ [x] := by
 rw [List.take_add_one, h]; rfl
def idxOf {α : Type} (p : α → Bool) (l : List α) : Int := if l.any p then (l.findIdx p : Int) else -1
theorem Qk8 {α : Type} {p : α → Bool} {l : List α} {i : Nat} {x : α} (hx : l[i]? = some x) (e : p x = true) (hc : ∀ j x, j < i → l[j]? = some x → p x = false) : idxOf p l = i := by
 have h1 : l.any p = true := Z4.2 ⟨x, Qx hx, e⟩
 have hl := Qam hx
 have h2 : l[i] = x := by have := Ql hl; rw [this] at hx; exact Z7.inj hx
 have h3 : l.findIdx p = i := (List.findIdx_eq hl).2 ⟨by rw [h2]; exact e, fun j hj => hc j _ hj (Ql (by omega))⟩
 simp [idxOf, h1, h3]
theorem Qhb {α : Type} {p : α → Bool} {l : List α} (h : ∀ x ∈ l, p x = false) : idxOf p l = -1 := by
 have : l.any p = false := by simpa using h
 simp [idxOf, this]
theorem Qip {α : Type} (p : α → Bool) (l : List α) : decide (0 ≤ idxOf p l) = l.any p := by
 unfold idxOf
 cases h : l.any p <;> simp
theorem Qi0 {α : Type} {e : α → List V} {k : Nat} (h : ∀ x, (e x).length = k) : ∀ l : List α, ((l.map e).flatten).length = l.length * k
 | [] => by simp
 | x :: l => by rw [Qa, Zt, Xn, h, Qi0 h l, Qe, Nat.succ_mul]; omega
mutual
theorem Qjo (hp : List Blk) (n : Nat) : ∀ v : V, Qaa v = false → cutV hp n v = v
 | .u, _ | .b _, _ | .i _, _ | .z _, _ | .sl _ _, _ | .sx _ _, _ | .pa _, _ | .pn, _ | .yl _, _ => by simp [cutV]
 | .ag cs, h | .tp cs, h => by simp only [Qaa] at h; simp only [cutV, Qay hp n cs h]
 | .fn f cs, h => by simp only [Qaa] at h; simp only [cutV, Qay hp n cs h]
 | .gv q v, h => by simp only [Qaa] at h; simp only [cutV, Qjo hp n v h]
 | .ad _ _ _, h | .rf _ _ _ _ _, h | .mp _ _, h | .it _ _, h => by simp [Qaa] at h
theorem Qay (hp : List Blk) (n : Nat) : ∀ vs : List V, Qa5 vs = false → cutL hp n vs = vs
 | [], _ => rfl
 | v :: vs, h => by
  simp only [Qa5, Xk] at h
  simp only [cutL, Qjo hp n v h.1, Qay hp n vs h.2]
end
theorem Qfy : ∀ (a b : List V), Qa5 (a ++ b) = (Qa5 a || Qa5 b)
 | [], b => by simp [Qa5]
 | v :: a, b => by simp only [Qv, Qa5, Qfy a b, Bool.or_assoc]
mutual
theorem Qmc (n : Nat) : ∀ v : V, Qaa v = false → upV n v = v
 | .u, _ | .b _, _ | .i _, _ | .z _, _ | .sl _ _, _ | .sx _ _, _ | .pa _, _ | .pn, _ | .yl _, _ => by simp [upV]
 | .ag cs, h | .tp cs, h => by simp only [Qaa] at h; simp only [upV, Qea n cs h]
 | .fn f cs, h => by simp only [Qaa] at h; simp only [upV, Qea n cs h]
 | .gv q v, h => by simp only [Qaa] at h; simp only [upV, Qmc n v h]
 | .ad _ _ _, h | .rf _ _ _ _ _, h | .mp _ _, h | .it _ _, h => by simp [Qaa] at h
theorem Qea (n : Nat) : ∀ vs : List V, Qa5 vs = false → upL n vs = vs
 | [], _ => rfl
 | v :: vs, h => by
  simp only [Qa5, Xk] at h
  simp only [upL, Qmc n v h.1, Qea n vs h.2]
end
theorem Qdu {α : Type} {e : α → List V} (h : ∀ x, Qa5 (e x) = false) : ∀ l : List α, Qa5 (l.map e).flatten = false
 | [] => rfl
 | x :: l => by simp only [Qa, Zt, Qfy, h, Qdu h l, Qo]
theorem Qff {α : Type} {e : α → List V} {k : Nat} (h : ∀ x, (e x).length = k) : ∀ (l : List α), Qcm k ((l.map e).flatten) 0 l.length = l.map e
 | [] => by simp [Qcm]
 | x :: l => by
  rw [Qe, Qjm, Qa, Zt, Qh, Qq]
  have e1 : (e x ++ (l.map e).flatten).take k = e x := by rw [List.take_append_of_le_length (by rw [h]; exact Zq _), List.take_of_length_le (by rw [h]; exact Zq _)]
  rw [e1]
  congr 1
  have ih := Qff h l
  unfold Qcm at ih ⊢
  conv => rhs; rw [← ih]
  apply Xm
  intro j _
  congr 1
  have e2 : k + j * k = (e x).length + j * k := by rw [h]
  rw [e2, List.drop_append, Qh]
  simp
theorem Qeh {α : Type} {e : α → List V} (hp : List Blk) (n : Nat) (h : ∀ x, (e x).map (vw hp n) = e x) (l : List α) : (l.map e).map (fun r => r.map (vw hp n)) = l.map e := by
 rw [List.map_map]
 exact Xm fun x _ => h x
def ints (lo hi : Int) : List Int := (List.range (hi + 1 - lo).toNat).map fun (k : Nat) => lo + k
theorem Qfi (lo hi : Int) : (ints lo hi).length = (hi + 1 - lo).toNat := by simp [ints]
theorem Qgs {lo hi : Int} {k : Nat} (h : k < (hi + 1 - lo).toNat) : (ints lo hi)[k]? = some (lo + k) := by simp [ints, h]
theorem Qkk {lo hi n : Int} : n ∈ ints lo hi ↔ lo ≤ n ∧ n ≤ hi := by
 simp only [ints, List.mem_map, X0]
 constructor
 ·rintro ⟨k, hk, rfl⟩; omega
 ·rintro ⟨h1, h2⟩; exact ⟨(n - lo).toNat, by omega, by omega⟩
theorem Qih {α : Type} {l : List α} {k : Nat} {x : α} (h : l[k]? = some x) : l.drop k = x :: l.drop (k + 1) := by
 have hl := Qam h
 rw [List.drop_eq_getElem_cons hl]
 rw [Ql hl] at h
 rw [Z7.inj h]
theorem Qid (l : List Int) : Qcm 1 ((l.map eI).flatten) 0 l.length = l.map eI := Qff (e := eI) (k := 1) (fun _ => rfl) l
theorem Qkf (l : List Int) : ((l.map eI).flatten).length = l.length * 1 := Qi0 (e := eI) (k := 1) (fun _ => rfl) l
theorem vw_I (hp : List Blk) (n : Nat) (l : List Int) : (l.map eI).map (fun r => r.map (vw hp (n + 1))) = l.map eI := Qeh (e := eI) hp (n + 1) (fun _ => rfl) l
theorem Qix (l : List Int) : Qa5 ((l.map eI).flatten) = false := Qdu (e := eI) (fun _ => rfl) l
theorem Qf7 {Γ : Gam} {E : TypeId → Nat → Prop} {Q : Exit → St → Prop} {σ : St} {α : Type} {l : List Nat} {d : Option Nat} {a : RC} (n : Nat) (S : Nat → α → St) (C : Nat → α → Prop) (x0 : α) (h0 : kp l d σ = S 0 x0) (c0 : C 0 x0)
  (hs : ∀ i x, i < n → C i x → wpR Γ E a (Qad (fun σ'' => ∃ y, C (i + 1) y ∧ kp l d σ'' = S (i + 1) y) Q) (S i x)) (hn : ∀ x, C n x → wpR Γ E a (Qad (fun _ => False) Q) (S n x)) : wpR Γ E (.loop l d a) Q σ := by
 refine Qhm (fun k σ => ∃ (i : Nat) (x : α), i ≤ n ∧ k = n - i ∧ C i x ∧ σ = S i x) ⟨n, 0, x0, Nat.zero_le _, rfl, c0, h0⟩ ?_
 rintro k _ ⟨i, x, hi, rfl, hc, rfl⟩
 rcases Nat.lt_or_ge i n with h | h
 ·refine Qeq _ _ _ _ (fun e σ he => ?_) (hs i x h hc)
  cases e <;> first | exact he | skip
  obtain ⟨y, hc', hk⟩ := he
  exact ⟨n - (i + 1), by omega, i + 1, y, h, rfl, hc', hk⟩
 ·have : i = n := by omega
  subst this
  refine Qeq _ _ _ _ (fun e σ he => ?_) (hn x hc)
  cases e <;> first | exact he | exact he.elim
theorem Qdm {l : List Int} {i : Nat} (h : i < l.length) : l.getD i 0 ∈ l := by
 rw [Qc, Ql h]
 exact Xr h
def dAM : Blk → AM Int | .map _ ks vs => ks.zip (vs.map gI) | _ => []
theorem Qyg (b : Bool) (m : AM Int) : dAM (.map b (aks m) (avs V.i m)) = m := by
 unfold dAM aks avs
 simp only [List.map_map]
 induction m with
 | nil => rfl
 | cons e m ih => simp only [Qa, List.zip_cons_cons, ih]; rfl
end Go.C06
set_option maxRecDepth 8000
namespace Go.C06
open Go.Fam Go.Proofs
def rc87 : RC := (.seq (.reg false [(cI 4 0)]) (.keep [0,1] (.seq (.reg false [(cMv 5 0), (cMv 6 1), (cB 7 .mul 5 6), (cC 8 .quo 7 1000), (cMv 4 8)]) .ret)))
def pu87 : List Nat := []
def rs87 : List RV := [.t 4]
theorem cc87 : CCx Try.prog Try.f87 pu87 rc87 := by unfold CCx; kernel_rfl
theorem cb87 : CBx Try.f87 := by unfold CBx; kernel_rfl
theorem cs87 : CSx Try.prog Try.f87 rs87 := by unfold CSx; kernel_rfl
theorem cn87 : 2 ≤ Try.f87.ntmps := by decide
def rc72 : RC := (.seq (.reg false [(cQ 6 [] (.mv (kB false)))]) (.keep [0,1,2] (.seq (.reg true [(cMv 7 1), (cMv 8 0), (cB 9 .leq 7 8), (cMv 10 9), (gMv 11 10 true 0), (gMv 12 10 true 2), (gQ 13 10 true [11,12] (.bin .leq (.t 11) (.t 12))), (cQ 14 [10,13] (.pick (.t 10) (.t 13) (kB false))), (cMv 6 14)]) .ret)))
def pu72 : List Nat := []
def rs72 : List RV := [.t 6]
theorem cc72 : CCx Try.prog Try.f72 pu72 rc72 := by unfold CCx; kernel_rfl
theorem cb72 : CBx Try.f72 := by unfold CBx; kernel_rfl
theorem cs72 : CSx Try.prog Try.f72 rs72 := by unfold CSx; kernel_rfl
theorem cn72 : 3 ≤ Try.f72.ntmps := by decide
def rc82 : RC := (.seq (.reg false [(cX 2 0), (cQ 4 [] (.mv (kB false)))]) (.keep [1,2] (.seq (.reg true [(cFa 5 2 0), (cLd 6 5 false 1), (cFa 7 2 1), (cLd 8 7 false 1), (cQ 9 [6,8] (.call (kF 72) [(.t 6), (kI 0), (.t 8)])), (cMv 10 9), (gQ 11 10 true [2] (.fad 1 (.t 2))), (gQ 12 10 true [11] (.ld false 1 (.t 11))), (gMv 13 10 true 1), (gQ 14 10 true [12,13] (.bin .leq (.t 12) (.t 13))), (cQ 15 [10,14] (.pick (.t 10) (.t 14) (kB false))), (cMv 4 15)]) .ret)))
def pu82 : List Nat := [2]
def rs82 : List RV := [.t 4]
theorem cc82 : CCx Try.prog Try.f82 pu82 rc82 := by unfold CCx; kernel_rfl
theorem cb82 : CBx Try.f82 := by unfold CBx; kernel_rfl
theorem cs82 : CSx Try.prog Try.f82 rs82 := by unfold CSx; kernel_rfl
theorem cn82 : 2 ≤ Try.f82.ntmps := by decide
def rc90 : RC := (.seq (.reg false [(cX 1 0), (cQ 2 [] (.mv (kB false)))]) (.keep [1] (.seq (.reg true [(cFa 3 1 0), (cLd 4 3 false 1), (cQ 5 [4] (.call (kF 72) [(.t 4), (kI 1), (kI 90)])), (cN 6 5), (cMv 7 6), (gQ 8 7 false [1] (.fad 1 (.t 1))), (gQ 9 7 false [8] (.ld true 2 (.t 8))), (gQ 10 7 false [9] (.call (kF 82) [(.t 9), (kI 90)])), (gQ 11 7 false [10] (.not (.t 10))), (cQ 12 [7,11] (.pick (.t 7) (kB true) (.t 11))), (cMv 2 12)]) .ret)))
def pu90 : List Nat := [1]
def rs90 : List RV := [.t 2]
theorem cc90 : CCx Try.prog Try.f90 pu90 rc90 := by unfold CCx; kernel_rfl
theorem cb90 : CBx Try.f90 := by unfold CBx; kernel_rfl
theorem cs90 : CSx Try.prog Try.f90 rs90 := by unfold CSx; kernel_rfl
theorem cn90 : 1 ≤ Try.f90.ntmps := by decide
def rc102 : RC := (.seq (.reg false [(cI 4 0)]) (.keep [0,1] (.seq (.seq (.reg false [(cMv 6 0), (cLn 7 6), (cI 8 0)]) (.keep [0,1,7,8] (.block 0 (.loop [0,1,7,8] none (.seq (.reg false [(cB 9 .lss 8 7)]) (.keep [0,1,7,8,9] (.seq (.cond (.t 9) .skip (.exit 0)) (.keep [0,1,7,8] (.seq (.block 1 (.seq (.reg false [(cMv 10 8), (cMv 5 10)]) (.keep [0,1,5,7,8] (.seq (.reg false [(cMv 11 1), (cMv 12 0), (cMv 13 5), (cA 14 3 12 13), (cLd 15 14 true 3), (cQ 16 [11,15] (.call (.t 11) [(.t 15)]))]) (.keep [0,1,5,7,8,16] (.cond (.t 16) (.seq (.reg false [(cMv 17 5), (cMv 4 17)]) .ret) .skip)))))) (.keep [0,1,7,8] (.reg false [(cC 18 .add 8 1), (cMv 8 18)]))))))))))) (.keep [] (.seq (.reg false [(cQ 4 [] (.mv (.k (.i (-1)))))]) .ret)))))
def pu102 : List Nat := []
def rs102 : List RV := [.t 4]
theorem cc102 : CCx Try.prog Try.f102 pu102 rc102 := by unfold CCx; kernel_rfl
theorem cb102 : CBx Try.f102 := by unfold CBx; kernel_rfl
theorem cs102 : CSx Try.prog Try.f102 rs102 := by unfold CSx; kernel_rfl
theorem cn102 : 2 ≤ Try.f102.ntmps := by decide
def rc91 : RC := (.seq (.reg false [(cQ 4 [] (.mv (kB false)))]) (.keep [0,1] (.seq (.reg false [(cMv 5 0), (cMv 6 1), (cQ 7 [5,6] (.call (kF 102) [(.t 5), (.t 6)])), (cC 8 .geq 7 0), (cMv 4 8)]) .ret)))
def pu91 : List Nat := []
def rs91 : List RV := [.t 4]
theorem cc91 : CCx Try.prog Try.f91 pu91 rc91 := by unfold CCx; kernel_rfl
theorem cb91 : CBx Try.f91 := by unfold CBx; kernel_rfl
theorem cs91 : CSx Try.prog Try.f91 rs91 := by unfold CSx; kernel_rfl
theorem cn91 : 2 ≤ Try.f91.ntmps := by decide
def rc63 : RC := (.seq (.reg false [(cX 1 0), (cQ 2 [] (.mv (kB false)))]) (.keep [1] (.seq (.reg false [(cQ 3 [] (.mv (kF 90)))]) (.keep [1,3] (.seq (.reg true [(cFa 4 1 0), (cLd 5 4 true 2), (cQ 6 [5] (.call (kF 82) [(.t 5), (kI 500)])), (cMv 7 6), (gQ 8 7 true [1] (.fad 0 (.t 1))), (gQ 9 7 true [8] (.fad 1 (.t 8))), (gQ 10 7 true [9] (.ld false 1 (.t 9))), (gQ 11 7 true [1] (.fad 0 (.t 1))), (gQ 12 7 true [11] (.fad 0 (.t 11))), (gQ 13 7 true [12] (.ld false 1 (.t 12))), (gQ 14 7 true [10,13] (.bin .sub (.t 10) (.t 13))), (gQ 15 7 true [14] (.bin .leq (.t 14) (kI 40))), (cQ 16 [7,15] (.pick (.t 7) (.t 15) (kB false))), (cMv 17 16), (gQ 18 17 true [1] (.fad 2 (.t 1))), (gQ 19 17 true [18] (.ld false 1 (.t 18))), (gQ 20 17 true [19] (.len (.t 19))), (gQ 21 17 true [20] (.bin .leq (.t 20) (kI 8))), (cQ 22 [17,21] (.pick (.t 17) (.t 21) (kB false))), (cMv 23 22), (gQ 24 23 true [1] (.fad 2 (.t 1))), (gQ 25 23 true [24] (.ld false 1 (.t 24))), (gMv 26 23 true 3), (gQ 27 23 true [25,26] (.call (kF 91) [(.t 25), (.t 26)])), (gQ 28 23 true [27] (.not (.t 27))), (cQ 29 [23,28] (.pick (.t 23) (.t 28) (kB false))), (cMv 30 29), (gQ 31 30 true [1] (.fad 3 (.t 1))), (gQ 32 30 true [31] (.ld false 1 (.t 31))), (gQ 33 30 true [32] (.call (kF 72) [(.t 32), (kI 0), (kI 2)])), (cQ 34 [30,33] (.pick (.t 30) (.t 33) (kB false))), (cMv 35 34), (gQ 36 35 true [1] (.fad 4 (.t 1))), (gQ 37 35 true [36] (.ld false 1 (.t 36))), (gQ 38 35 true [37] (.call (kF 72) [(.t 37), (kI 1), (kI 90)])), (cQ 39 [35,38] (.pick (.t 35) (.t 38) (kB false))), (cMv 40 39), (gQ 41 40 true [1] (.fad 5 (.t 1))), (gQ 42 40 true [41] (.ld false 1 (.t 41))), (gQ 43 40 true [42] (.call (kF 72) [(.t 42), (kI 0), (kI 90)])), (cQ 44 [40,43] (.pick (.t 40) (.t 43) (kB false))), (cMv 2 44)]) .ret)))))
def pu63 : List Nat := [1]
def rs63 : List RV := [.t 2]
theorem cc63 : CCx Try.prog Try.f63 pu63 rc63 := by unfold CCx; kernel_rfl
theorem cb63 : CBx Try.f63 := by unfold CBx; kernel_rfl
theorem cs63 : CSx Try.prog Try.f63 rs63 := by unfold CSx; kernel_rfl
theorem cn63 : 1 ≤ Try.f63.ntmps := by decide
def rc28 : RC := (.seq (.reg false [(cX 1 0), (cI 2 0)]) (.keep [1] (.seq (.seq (.reg false [(cLd 3 1 true 6), (cQ 4 [3] (.call (kF 63) [(.t 3)])), (cN 5 4)]) (.keep [5] (.cond (.t 5) (.seq (.reg false [(cI 2 60)]) .ret) .skip))) (.keep [] (.seq (.reg false [(cI 2 0)]) .ret)))))
def pu28 : List Nat := [1]
def rs28 : List RV := [.t 2]
theorem cc28 : CCx Try.prog Try.f28 pu28 rc28 := by unfold CCx; kernel_rfl
theorem cb28 : CBx Try.f28 := by unfold CBx; kernel_rfl
theorem cs28 : CSx Try.prog Try.f28 rs28 := by unfold CSx; kernel_rfl
theorem cn28 : 1 ≤ Try.f28.ntmps := by decide
def rc67 : RC := (.seq (.reg false [(cX 2 0), (cI 4 0)]) (.keep [1,2] (.seq (.reg false [(cFa 5 2 4), (cLd 6 5 false 1), (cFa 7 2 5), (cLd 8 7 false 1), (cMv 9 1), (cB 10 .mul 8 9), (cB 11 .sub 6 10), (cQ 12 [11] (.mn (kI 90) (.t 11))), (cMv 4 12)]) .ret)))
def pu67 : List Nat := [2]
def rs67 : List RV := [.t 4]
theorem cc67 : CCx Try.prog Try.f67 pu67 rc67 := by unfold CCx; kernel_rfl
theorem cb67 : CBx Try.f67 := by unfold CBx; kernel_rfl
theorem cs67 : CSx Try.prog Try.f67 rs67 := by unfold CSx; kernel_rfl
theorem cn67 : 2 ≤ Try.f67.ntmps := by decide
def rc100 : RC := (.seq (.reg false [(cFa 7 1 0), (cFa 8 7 0), (cLd 9 8 false 1), (cMv 3 9)]) (.keep [0,1,3] (.block 0 (.loop [0,1,3] (some 1) (.seq (.seq (.reg false [(cMv 10 3), (cFa 11 1 0), (cFa 12 11 1), (cLd 13 12 false 1), (cB 14 .leq 10 13)]) (.keep [0,1,3,14] (.cond (.t 14) .skip (.exit 0)))) (.keep [0,1,3] (.seq (.block 1 (.seq (.reg false [(cI 4 0)]) (.keep [0,1,3,4] (.seq (.seq (.reg false [(cFa 17 1 2), (cLd 18 17 false 1), (cLn 19 18), (cI 20 0)]) (.keep [0,1,3,4,18,19,20] (.block 2 (.loop [0,1,3,4,18,19,20] (some 1) (.seq (.reg false [(cB 21 .lss 20 19)]) (.keep [0,1,3,4,18,19,20,21] (.seq (.cond (.t 21) .skip (.exit 2)) (.keep [0,1,3,4,18,19,20] (.seq (.block 3 (.seq (.reg false [(cA 22 3 18 20), (cLd 23 22 true 3), ⟨(some 6), none, [], none, .w (.alc [(.i 0), (.i 0), (.i 0)])⟩, ⟨none, none, [6,23], none, .w (.st 3 (.t 6) (.t 23))⟩]) (.keep [0,1,3,4,6,18,19,20] (.seq (.any false 0 [⟨(cFa 24 6 0), [], []⟩, ⟨(cLd 25 24 false 1), [], [0]⟩, ⟨(cMv 26 3), [], []⟩, ⟨(cQ 27 [25,26] (.call (kF 87) [(.t 25), (.t 26)])), [], [1,0,2]⟩, ⟨(cFa 28 6 1), [], []⟩, ⟨(cFa 29 28 0), [], [4]⟩, ⟨(cLd 30 29 false 1), [], [5,4]⟩, ⟨(cFa 31 6 1), [], []⟩, ⟨(cFa 32 31 1), [], [7]⟩, ⟨(cLd 33 32 false 1), [], [8,7]⟩, ⟨(cQ 34 [27,30,33] (.call (kF 72) [(.t 27), (.t 30), (.t 33)])), [], [3,1,0,2,6,5,4,9,8,7]⟩, ⟨(cN 35 34), [], [10,3,1,0,2,6,5,4,9,8,7]⟩]) (.keep [0,1,3,4,18,19,20,35] (.cond (.t 35) (.reg false [(cMv 36 4), (cC 37 .add 36 1), (cMv 4 37)]) .skip)))))) (.drp 1 (.keep [0,1,3,4,18,19,20] (.reg false [(cC 38 .add 20 1), (cMv 20 38)])))))))))))) (.keep [0,1,3,4] (.seq (.yrg true [(cMv 39 4), (cFa 40 1 3), (cLd 41 40 false 1), (cB 42 .leq 39 41), (cMv 43 42), (gMv 44 43 true 0), (gMv 45 43 true 3)] ⟨(some 46), (some (43, true)), [44,45], none, .o (.t 44) [(.t 45)]⟩ [0,1,3,43] [(gQ 47 43 true [46] (.not (.t 46))), (cQ 48 [43,47] (.pick (.t 43) (.t 47) (kB false)))]) (.keep [0,1,3,48] (.cond (.t 48) .ret .skip)))))))) (.drp 1 (.keep [0,1,3] (.reg false [(cMv 15 3), (cC 16 .add 15 1), (cMv 3 16)]))))))))))
def pu100 : List Nat := []
def rs100 : List RV := []
theorem cc100 : comp Try.prog pu100 (Try.f100.ntmps, 2) 1 2 rc100 (Try.f100.body.getD .skip) = some rc100 := by kernel_rfl
theorem cb100 : CBx Try.f100 := by unfold CBx; kernel_rfl
theorem cs100 : CSx Try.prog Try.f100 rs100 := by unfold CSx; kernel_rfl
theorem cn100 : 2 ≤ Try.f100.ntmps := by decide
def rc86 : RC := (.seq (.reg false [(cX 1 0), (cQ 2 [] (.mv (.k .u)))]) (.keep [1] (.seq (.reg false [(cQ 3 [1] (.mkf 100 [(.t 1)])), (cMv 2 3)]) .ret)))
def pu86 : List Nat := [1]
def rs86 : List RV := [.t 2]
theorem cc86 : CCx Try.prog Try.f86 pu86 rc86 := by unfold CCx; kernel_rfl
theorem cb86 : CBx Try.f86 := by unfold CBx; kernel_rfl
theorem cs86 : CSx Try.prog Try.f86 rs86 := by unfold CSx; kernel_rfl
theorem cn86 : 1 ≤ Try.f86.ntmps := by decide
def rc99 : RC := (.seq (.reg false [⟨(some 2), none, [0], none, .w (.bxo (.t 0))⟩, (cQ 4 [] (.mv (.k (.z 1))))]) (.keep [1,2,7] (.seq (.seq (.reg false [(cMv 6 1)]) (.keep [2,6,7] (.block 0 (.ownc 2 0 1 (.rfn (.t 6) [7] 2 (.reg false [(cMv 5 7)]) (.block 1 (.reg false [(cLd 8 2 false 1), (cMv 9 5), (cQ 10 [9] (.bsl 1 1 [(.i 0)] [(0,1, (.t 9))])), ⟨(some 11), none, [8,10], none, .w (.app 1 (.t 8) (.t 10))⟩, ⟨none, none, [2,11], none, .w (.st 1 (.t 2) (.t 11))⟩]))))))) (.keep [2] (.seq (.reg false [(cLd 12 2 false 1), (cMv 4 12)]) .ret)))))
def pu99 : List Nat := [10]
def rs99 : List RV := [.t 4]
theorem cc99 : comp Try.prog pu99 (Try.f99.ntmps, 0) 1 1 rc99 (Try.f99.body.getD .skip) = some rc99 := by kernel_rfl
theorem cb99 : CBx Try.f99 := by unfold CBx; kernel_rfl
theorem cs99 : CSx Try.prog Try.f99 rs99 := by unfold CSx; kernel_rfl
theorem cn99 : 2 ≤ Try.f99.ntmps := by decide
def rc85 : RC := (.seq (.reg false [(cQ 2 [] (.mv (.k (.z 1))))]) (.keep [0] (.seq (.hcl false [(cMv 3 0)] ⟨(some 4), none, [3], none, .o (kF 99) [(.k (.z 1)), (.t 3)]⟩ [(cMv 2 4)]) .ret)))
def pu85 : List Nat := []
def rs85 : List RV := [.t 2]
theorem cc85 : CCx Try.prog Try.f85 pu85 rc85 := by unfold CCx; kernel_rfl
theorem cb85 : CBx Try.f85 := by unfold CBx; kernel_rfl
theorem cs85 : CSx Try.prog Try.f85 rs85 := by unfold CSx; kernel_rfl
theorem cn85 : 1 ≤ Try.f85.ntmps := by decide
def rc84 : RC := (.seq (.reg false [(cQ 2 [] (.mv (kB false)))]) (.keep [0] (.seq (.reg false [(cMv 3 0), (cQ 4 [3] (.call (kF 72) [(.t 3), (kI 1), (kI 90)])), (cN 5 4), (cMv 2 5)]) .ret)))
def pu84 : List Nat := []
def rs84 : List RV := [.t 2]
theorem cc84 : CCx Try.prog Try.f84 pu84 rc84 := by unfold CCx; kernel_rfl
theorem cb84 : CBx Try.f84 := by unfold CBx; kernel_rfl
theorem cs84 : CSx Try.prog Try.f84 rs84 := by unfold CSx; kernel_rfl
theorem cn84 : 1 ≤ Try.f84.ntmps := by decide
def rc98 : RC := (.seq (.reg false [(cI 4 0)]) (.keep [0,1] (.seq (.seq (.reg false [(cMv 6 0), (cLn 7 6), (cI 8 0)]) (.keep [0,1,7,8] (.block 0 (.loop [0,1,7,8] none (.seq (.reg false [(cB 9 .lss 8 7)]) (.keep [0,1,7,8,9] (.seq (.cond (.t 9) .skip (.exit 0)) (.keep [0,1,7,8] (.seq (.block 1 (.seq (.reg false [(cMv 10 8), (cMv 5 10)]) (.keep [0,1,5,7,8] (.seq (.reg false [(cMv 11 1), (cMv 12 0), (cMv 13 5), (cA 14 1 12 13), (cLd 15 14 false 1), (cQ 16 [11,15] (.call (.t 11) [(.t 15)]))]) (.keep [0,1,5,7,8,16] (.cond (.t 16) (.seq (.reg false [(cMv 17 5), (cMv 4 17)]) .ret) .skip)))))) (.keep [0,1,7,8] (.reg false [(cC 18 .add 8 1), (cMv 8 18)]))))))))))) (.keep [] (.seq (.reg false [(cQ 4 [] (.mv (.k (.i (-1)))))]) .ret)))))
def pu98 : List Nat := []
def rs98 : List RV := [.t 4]
theorem cc98 : CCx Try.prog Try.f98 pu98 rc98 := by unfold CCx; kernel_rfl
theorem cb98 : CBx Try.f98 := by unfold CBx; kernel_rfl
theorem cs98 : CSx Try.prog Try.f98 rs98 := by unfold CSx; kernel_rfl
theorem cn98 : 2 ≤ Try.f98.ntmps := by decide
def rc83 : RC := (.seq (.reg false [(cQ 4 [] (.mv (kB false)))]) (.keep [0,1] (.seq (.reg false [(cMv 5 0), (cMv 6 1), (cQ 7 [5,6] (.call (kF 98) [(.t 5), (.t 6)])), (cC 8 .geq 7 0), (cMv 4 8)]) .ret)))
def pu83 : List Nat := []
def rs83 : List RV := [.t 4]
theorem cc83 : CCx Try.prog Try.f83 pu83 rc83 := by unfold CCx; kernel_rfl
theorem cb83 : CBx Try.f83 := by unfold CBx; kernel_rfl
theorem cs83 : CSx Try.prog Try.f83 rs83 := by unfold CSx; kernel_rfl
theorem cn83 : 2 ≤ Try.f83.ntmps := by decide
def rc59 : RC := (.seq (.reg false [(cX 3 0), (cX 4 1), (cQ 6 [] (.mv (.k (.z 1)))), (cI 7 0)]) (.keep [2,3,4] (.seq (.seq (.reg false [(cLd 12 3 true 6), (cQ 13 [12] (.call (kF 28) [(.t 12)])), (cMv 8 13)]) (.keep [2,3,4,8] (.seq (.reg false [(cMv 14 8), (cC 15 .neq 14 0)]) (.keep [2,3,4,8,15] (.cond (.t 15) (.seq (.reg false [(cMv 16 8), (cQ 6 [] (.mv (.k (.z 1)))), (cMv 7 16)]) .ret) .skip))))) (.keep [2,3,4] (.seq (.seq (.reg true [(cMv 17 2), (cLn 18 17), (cC 19 .gtr 18 6), (cMv 20 19), (gQ 21 20 false [4] (.ld true 2 (.t 4))), (gQ 22 20 false [21] (.call (kF 82) [(.t 21), (kI 540)])), (gQ 23 20 false [22] (.not (.t 22))), (cQ 24 [20,23] (.pick (.t 20) (kB true) (.t 23))), (cMv 25 24), (gMv 26 25 false 2), (gQ 27 25 false [26] (.call (kF 83) [(.t 26), (kF 84)])), (cQ 28 [25,27] (.pick (.t 25) (kB true) (.t 27)))]) (.keep [2,3,28] (.cond (.t 28) (.seq (.reg false [(cQ 6 [] (.mv (.k (.z 1)))), (cI 7 1)]) .ret) .skip))) (.keep [2,3] (.seq (.seq (.reg false [(cMv 29 2), (cLn 30 29), (cI 31 0)]) (.keep [3,29,30,31] (.block 0 (.loop [3,29,30,31] none (.seq (.reg false [(cB 32 .lss 31 30)]) (.keep [3,29,30,31,32] (.seq (.cond (.t 32) .skip (.exit 0)) (.keep [3,29,30,31] (.seq (.block 1 (.seq (.reg false [(cMv 33 31), (cA 34 1 29 31), (cLd 35 34 false 1), (cMv 9 33), (cMv 10 35)]) (.keep [3,9,10,29,30,31] (.seq (.reg false [(cMv 36 10), (cLd 37 3 true 6), (cMv 38 9), (cQ 39 [37,38] (.call (kF 67) [(.t 37), (.t 38)])), (cB 40 .gtr 36 39)]) (.keep [3,29,30,31,40] (.cond (.t 40) (.seq (.reg false [(cQ 6 [] (.mv (.k (.z 1)))), (cI 7 61)]) .ret) .skip)))))) (.keep [3,29,30,31] (.reg false [(cC 41 .add 31 1), (cMv 31 41)]))))))))))) (.keep [3] (.seq (.reg false [(cLd 42 3 true 6), (cQ 43 [42] (.call (kF 86) [(.t 42)])), (cQ 44 [43] (.call (kF 85) [(.t 43)])), (cMv 11 44)]) (.keep [11] (.seq (.seq (.reg false [(cMv 45 11), (cLn 46 45), (cC 47 .eql 46 0)]) (.keep [11,47] (.cond (.t 47) (.seq (.reg false [(cQ 6 [] (.mv (.k (.z 1)))), (cI 7 3)]) .ret) .skip))) (.keep [11] (.seq (.reg false [(cMv 48 11), (cMv 6 48), (cI 7 0)]) .ret)))))))))))))
def pu59 : List Nat := [3,4]
def rs59 : List RV := [.t 6, .t 7]
theorem cc59 : CCx Try.prog Try.f59 pu59 rc59 := by unfold CCx; kernel_rfl
theorem cb59 : CBx Try.f59 := by unfold CBx; kernel_rfl
theorem cs59 : CSx Try.prog Try.f59 rs59 := by unfold CSx; kernel_rfl
theorem cn59 : 3 ≤ Try.f59.ntmps := by decide
def rc60 : RC := (.seq (.reg false [(cI 4 0)]) (.keep [0,1,4] (.seq (.seq (.reg false [(cMv 7 0), (cLn 8 7), (cI 9 0)]) (.keep [1,4,7,8,9] (.block 0 (.loop [1,4,7,8,9] none (.seq (.reg false [(cB 10 .lss 9 8)]) (.keep [1,4,7,8,9,10] (.seq (.cond (.t 10) .skip (.exit 0)) (.keep [1,4,7,8,9] (.seq (.block 1 (.seq (.reg false [(cA 11 1 7 9), (cLd 12 11 false 1), (cMv 6 12)]) (.keep [1,4,6,7,8,9] (.reg false [(cMv 13 4), (cMv 14 6), (cMv 15 6), (cMv 16 1), (cQ 17 [15,16] (.call (kF 87) [(.t 15), (.t 16)])), (cB 18 .sub 14 17), (cB 19 .add 13 18), (cMv 4 19)])))) (.keep [1,4,7,8,9] (.reg false [(cC 20 .add 9 1), (cMv 9 20)]))))))))))) (.keep [4] (.seq (.reg false [(cMv 21 4), (cMv 4 21)]) .ret)))))
def pu60 : List Nat := []
def rs60 : List RV := [.t 4]
theorem cc60 : CCx Try.prog Try.f60 pu60 rc60 := by unfold CCx; kernel_rfl
theorem cb60 : CBx Try.f60 := by unfold CBx; kernel_rfl
theorem cs60 : CSx Try.prog Try.f60 rs60 := by unfold CSx; kernel_rfl
theorem cn60 : 2 ≤ Try.f60.ntmps := by decide
def rc20 : RC := (.seq (.reg false [(cX 2 0), ⟨(some 4), none, [], none, .w (.alc [(.i 0), (.i 0)])⟩, (cI 5 0)]) (.keep [1,2,4] (.seq (.reg false [(cLd 9 2 true 6), (cQ 10 [] (.bld [(.i 0), (.i 0)] [])), (cMv 11 1), (cQ 12 [9,10,11] (.call (kF 59) [(.t 9), (.t 10), (.t 11)])), (cMv 8 12), (cEx 13 8 0), (cEx 14 8 1), (cMv 6 13), (cMv 7 14)]) (.keep [1,4,6,7] (.seq (.seq (.reg false [(cMv 15 7), (cC 16 .neq 15 0)]) (.keep [1,4,6,7,16] (.cond (.t 16) (.seq (.reg false [(cQ 17 [] (.bld [(.i 0), (.i 0)] [])), (cMv 18 7), ⟨none, none, [4,17], none, .w (.st 2 (.t 4) (.t 17))⟩, (cMv 5 18)]) .ret) .skip))) (.keep [1,4,6] (.seq (.any false 0 [⟨(cMv 19 1), [], []⟩, ⟨(cMv 20 6), [], []⟩, ⟨(cMv 21 6), [], []⟩, ⟨(cLn 22 21), [], [2]⟩, ⟨(cC 23 .sub 22 1), [], [3,2]⟩, ⟨(cA 24 1 20 23), [], [1,4,3,2]⟩, ⟨(cLd 25 24 false 1), [], [5,1,4,3,2]⟩, ⟨(cQ 26 [19,25] (.call (kF 60) [(.t 19), (.t 25)])), [], [0,6,5,1,4,3,2]⟩, ⟨(cMv 27 1), [], []⟩, ⟨(cMv 28 6), [], []⟩, ⟨(cQ 29 [28] (.iad 1 (.t 28) (kI 0))), [], [9]⟩, ⟨(cLd 30 29 false 1), [], [10,9]⟩, ⟨(cQ 31 [27,30] (.call (kF 60) [(.t 27), (.t 30)])), [], [8,11,10,9,7,0,6,5,1,4,3,2]⟩, ⟨(cQ 32 [26,31] (.bld [(.i 0), (.i 0)] [(0,1, (.t 26)), (1,1, (.t 31))])), [], [7,0,6,5,1,4,3,2,12,8,11,10,9]⟩, ⟨⟨none, none, [4,32], none, .w (.st 2 (.t 4) (.t 32))⟩, [], [13,7,0,6,5,1,4,3,2,12,8,11,10,9]⟩, ⟨(cI 5 0), [], [14,13,7,0,6,5,1,4,3,2,12,8,11,10,9]⟩]) .ret)))))))
def pu20 : List Nat := [2]
def rs20 : List RV := [.c 4 true 2, .t 5]
theorem cc20 : CCx Try.prog Try.f20 pu20 rc20 := by unfold CCx; kernel_rfl
theorem cb20 : CBx Try.f20 := by unfold CBx; kernel_rfl
theorem cs20 : CSx Try.prog Try.f20 rs20 := by unfold CSx; kernel_rfl
theorem cn20 : 2 ≤ Try.f20.ntmps := by decide
def rc43 : RC := (.seq (.reg false [(cX 3 0), (cX 5 2), (cI 6 0), (cI 7 0)]) (.keep [1,3,5] (.seq (.reg false [(cLd 14 3 true 6), (cLd 15 5 true 2), (cMv 16 1), (cQ 17 [14,15,16] (.call (kF 59) [(.t 14), (.t 15), (.t 16)])), (cMv 13 17), (cEx 18 13 0), (cEx 19 13 1), (cMv 8 18), (cMv 9 19)]) (.keep [1,5,8,9] (.seq (.seq (.reg false [(cMv 20 9), (cC 21 .neq 20 0)]) (.keep [1,5,8,9,21] (.cond (.t 21) (.seq (.reg false [(cMv 22 9), (cI 6 0), (cMv 7 22)]) .ret) .skip))) (.keep [1,5,8] (.seq (.reg false [(cI 10 0)]) (.keep [1,5,8,10] (.seq (.seq (.reg false [(cMv 23 8), (cLn 24 23), (cI 25 0)]) (.keep [1,5,8,10,23,24,25] (.block 0 (.loop [1,5,8,10,23,24,25] none (.seq (.reg false [(cB 26 .lss 25 24)]) (.keep [1,5,8,10,23,24,25,26] (.seq (.cond (.t 26) .skip (.exit 0)) (.keep [1,5,8,10,23,24,25] (.seq (.block 1 (.seq (.reg false [(cA 27 1 23 25), (cLd 28 27 false 1), (cMv 12 28)]) (.keep [1,5,8,10,12,23,24,25] (.seq (.any false 0 [⟨(cMv 29 1), [], []⟩, ⟨(cMv 30 12), [], []⟩, ⟨(cQ 31 [29,30] (.call (kF 60) [(.t 29), (.t 30)])), [], [0,1]⟩, ⟨(cFa 32 5 0), [], []⟩, ⟨(cLd 33 32 false 1), [], [3]⟩, ⟨(cFa 34 5 1), [], []⟩, ⟨(cLd 35 34 false 1), [], [5]⟩, ⟨(cQ 36 [31,33,35] (.call (kF 72) [(.t 31), (.t 33), (.t 35)])), [], [2,0,1,4,3,6,5]⟩]) (.keep [1,5,8,10,23,24,25,36] (.cond (.t 36) (.reg false [(cMv 37 10), (cC 38 .add 37 1), (cMv 10 38)]) .skip)))))) (.keep [1,5,8,10,23,24,25] (.reg false [(cC 39 .add 25 1), (cMv 25 39)]))))))))))) (.keep [8,10] (.seq (.seq (.reg false [(cMv 40 10)]) (.keep [8,40] (.block 2 (.seq (.reg false [(cMv 42 8), (cLn 43 42), (cB 44 .eql 40 43), (cMv 41 44)]) (.keep [40,41] (.cond (.t 41) (.seq (.reg false [(cI 6 1), (cI 7 0)]) .ret) (.seq (.reg false [(cC 46 .eql 40 0), (cMv 45 46)]) (.keep [45] (.cond (.t 45) (.seq (.reg false [(cI 6 2), (cI 7 0)]) .ret) .skip))))))))) (.keep [] (.seq (.reg false [(cI 6 3), (cI 7 0)]) .ret)))))))))))))
def pu43 : List Nat := [3,5]
def rs43 : List RV := [.t 6, .t 7]
theorem cc43 : CCx Try.prog Try.f43 pu43 rc43 := by unfold CCx; kernel_rfl
theorem cb43 : CBx Try.f43 := by unfold CBx; kernel_rfl
theorem cs43 : CSx Try.prog Try.f43 rs43 := by unfold CSx; kernel_rfl
theorem cn43 : 3 ≤ Try.f43.ntmps := by decide
def rc68 : RC := (.seq (.reg false [(cX 3 0), ⟨(some 6), none, [], none, .w (.alc [(.i 0), (.i 0)])⟩]) (.keep [1,2,3,6] (.seq (.any false 0 [⟨(cFa 7 3 0), [], []⟩, ⟨(cLd 8 7 false 1), [], [0]⟩, ⟨(cMv 9 1), [], []⟩, ⟨(cB 10 .add 8 9), [], [1,0,2]⟩, ⟨(cMv 11 1), [], []⟩, ⟨(cMv 12 2), [], []⟩, ⟨(cMv 13 2), [], []⟩, ⟨(cLn 14 13), [], [6]⟩, ⟨(cC 15 .sub 14 1), [], [7,6]⟩, ⟨(cA 16 1 12 15), [], [5,8,7,6]⟩, ⟨(cLd 17 16 false 1), [], [9,5,8,7,6]⟩, ⟨(cQ 18 [11,17] (.call (kF 87) [(.t 11), (.t 17)])), [], [4,10,9,5,8,7,6]⟩, ⟨(cB 19 .sub 10 18), [], [3,1,0,2,11,4,10,9,5,8,7,6]⟩, ⟨(cFa 20 3 1), [], []⟩, ⟨(cLd 21 20 false 1), [], [13]⟩, ⟨(cMv 22 1), [], []⟩, ⟨(cB 23 .add 21 22), [], [14,13,15]⟩, ⟨(cMv 24 1), [], []⟩, ⟨(cMv 25 2), [], []⟩, ⟨(cQ 26 [25] (.iad 1 (.t 25) (kI 0))), [], [18]⟩, ⟨(cLd 27 26 false 1), [], [19,18]⟩, ⟨(cQ 28 [24,27] (.call (kF 87) [(.t 24), (.t 27)])), [], [17,20,19,18,11,4,10,9,5,8,7,6]⟩, ⟨(cB 29 .sub 23 28), [], [16,14,13,15,21,17,20,19,18,11,4,10,9,5,8,7,6]⟩, ⟨(cQ 30 [19,29] (.bld [(.i 0), (.i 0)] [(0,1, (.t 19)), (1,1, (.t 29))])), [], [12,3,1,0,2,11,4,10,9,5,8,7,6,22,16,14,13,15,21,17,20,19,18]⟩, ⟨⟨none, none, [6,30], none, .w (.st 2 (.t 6) (.t 30))⟩, [], [23,12,3,1,0,2,11,4,10,9,5,8,7,6,22,16,14,13,15,21,17,20,19,18]⟩]) .ret)))
def pu68 : List Nat := [3]
def rs68 : List RV := [.c 6 true 2]
theorem cc68 : CCx Try.prog Try.f68 pu68 rc68 := by unfold CCx; kernel_rfl
theorem cb68 : CBx Try.f68 := by unfold CBx; kernel_rfl
theorem cs68 : CSx Try.prog Try.f68 rs68 := by unfold CSx; kernel_rfl
theorem cn68 : 3 ≤ Try.f68.ntmps := by decide
def rc69 : RC := (.seq (.reg false [(cQ 2 [] (.mv (.k (.z 1))))]) (.keep [0] (.seq (.seq (.rnl false [(cMv 3 0)] (cLn 4 3) []) (.keep [0,4] (.cond (.t 4) (.seq (.reg false [(cQ 2 [] (.mv (.k (.z 1))))]) (.owng 2 1 1 .ret)) .skip))) (.keep [0] (.seq (.reg false [⟨(some 5), none, [], none, .w (.bso 1 0 [(.i 0)] [])⟩, (cMv 6 0), ⟨(some 7), none, [5,6], none, .w (.app 1 (.t 5) (.t 6))⟩, (cMv 2 7)]) .ret)))))
def pu69 : List Nat := []
def rs69 : List RV := [.t 2]
theorem cc69 : CCx Try.prog Try.f69 pu69 rc69 := by unfold CCx; kernel_rfl
theorem cb69 : CBx Try.f69 := by unfold CBx; kernel_rfl
theorem cs69 : CSx Try.prog Try.f69 rs69 := by unfold CSx; kernel_rfl
theorem cn69 : 1 ≤ Try.f69.ntmps := by decide
def rc39 : RC := (.seq (.reg false [(cX 2 0), (cX 3 1), (cQ 4 [] (.mv (.k (.z 1)))), (cI 5 0)]) (.keep [2,3] (.seq (.reg false [(cLd 16 2 true 6), (cLd 17 3 true 2), (cQ 18 [16,17] (.call (kF 59) [(.t 16), (.t 17), (.k (.z 1))])), (cMv 15 18), (cEx 19 15 0), (cEx 20 15 1), (cMv 6 19), (cMv 7 20)]) (.keep [2,3,6,7] (.seq (.seq (.reg false [(cMv 21 7), (cC 22 .neq 21 0)]) (.keep [2,3,6,7,22] (.cond (.t 22) (.seq (.reg false [(cMv 23 7), (cQ 4 [] (.mv (.k (.z 1)))), (cMv 5 23)]) .ret) .skip))) (.keep [2,3,6] (.seq (.reg false [⟨(some 24), none, [], none, .w (.mkm true)⟩, (cQ 25 [] (.bld [(.i 0), (.i 0)] [])), ⟨none, none, [24,25], none, .w (.mup 93 true (.t 24) (.t 25) (.k (.z 1)))⟩, (cMv 26 24), (cMv 8 26)]) (.keep [2,3,6,8] (.seq (.seq (.reg false [(cI 27 0)]) (.keep [2,3,6,8,27] (.block 0 (.loop [2,3,6,8,27] (some 1) (.seq (.reg false [(cC 28 .lss 27 7)]) (.keep [2,3,6,8,27,28] (.seq (.cond (.t 28) .skip (.exit 0)) (.keep [2,3,6,8,27] (.seq (.block 1 (.seq (.reg false [(cMv 29 27), (cMv 9 29)]) (.keep [2,3,6,8,9,27] (.seq (.reg false [⟨(some 30), none, [], none, .w (.mkm true)⟩, (cMv 10 30)]) (.keep [2,3,6,8,9,10,27] (.seq (.seq (.reg false [(cMv 31 8), ⟨(some 32), none, [31], none, .w (.rng (.t 31))⟩]) (.keep [2,3,6,9,10,27,32] (.block 2 (.loop [2,3,6,9,10,27,32] (some 3) (.seq (.nxt 33 34 32) (.keep [2,3,6,9,10,27,32,34] (.seq (.cond (.t 34) .skip (.exit 2)) (.keep [2,3,6,9,10,27,32] (.block 3 (.seq (.reg false [(cQ 35 [32] (.ent (.t 32))), (cEx 36 35 0), (cEx 37 35 1), ⟨(some 11), none, [], none, .w (.alc [(.i 0), (.i 0)])⟩, ⟨none, none, [11,36], none, .w (.st 2 (.t 11) (.t 36))⟩, (cMv 12 37)]) (.keep [2,3,6,9,10,11,12,27,32] (.seq (.seq (.reg true [(cFa 38 3 0), (cLd 39 38 false 1), (cFa 40 11 0), (cLd 41 40 false 1), (cB 42 .leq 39 41), (cMv 43 42), (gQ 44 43 true [11] (.fad 1 (.t 11))), (gQ 45 43 true [44] (.ld false 1 (.t 44))), (gQ 46 43 true [3] (.fad 1 (.t 3))), (gQ 47 43 true [46] (.ld false 1 (.t 46))), (gQ 48 43 true [45,47] (.bin .leq (.t 45) (.t 47))), (cQ 49 [43,48] (.pick (.t 43) (.t 48) (kB false)))]) (.keep [2,3,6,9,10,11,12,27,32,49] (.cond (.t 49) (.seq (.reg false [(cMv 50 12), (cMv 4 50), (cI 5 0)]) .ret) .skip))) (.keep [2,3,6,9,10,11,12,27,32] (.seq (.reg false [(cI 13 1)]) (.keep [2,3,6,9,10,11,12,13,27,32] (.block 4 (.loop [2,3,6,9,10,11,12,13,27,32] (some 4) (.seq (.seq (.reg false [(cMv 51 13), (cLd 52 2 true 6), (cMv 53 9), (cQ 54 [52,53] (.call (kF 67) [(.t 52), (.t 53)])), (cB 55 .leq 51 54)]) (.keep [2,3,6,9,10,11,12,13,27,32,55] (.cond (.t 55) .skip (.exit 4)))) (.keep [2,3,6,9,10,11,12,13,27,32] (.seq (.block 5 (.seq (.reg false [(cLd 58 11 true 2), (cMv 59 13), (cMv 60 6), (cQ 61 [58,59,60] (.call (kF 68) [(.t 58), (.t 59), (.t 60)])), ⟨(some 14), none, [], none, .w (.alc [(.i 0), (.i 0)])⟩, ⟨none, none, [14,61], none, .w (.st 2 (.t 14) (.t 61))⟩]) (.keep [2,3,6,9,10,11,12,13,14,27,32] (.seq (.reg false [(cFa 62 14 1), (cLd 63 62 false 1), (cFa 64 3 1), (cLd 65 64 false 1), (cB 66 .leq 63 65)]) (.keep [2,3,6,9,10,11,12,13,14,27,32,66] (.cond (.t 66) (.any false 2 [⟨(cMv 67 10), [], []⟩, ⟨(cLd 68 14 true 2), [], []⟩, ⟨(cMv 69 12), [], []⟩, ⟨⟨(some 70), none, [69], (some 0), .o (kF 69) [(.t 69)]⟩, [0,1], [2]⟩, ⟨(cMv 71 13), [3], []⟩, ⟨(cQ 72 [71] (.bsl 1 1 [(.i 0)] [(0,1, (.t 71))])), [3], [4]⟩, ⟨⟨(some 73), none, [70,72], (some 1), .w (.app 1 (.t 70) (.t 72))⟩, [0,1], [3,2,5,4]⟩, ⟨⟨none, none, [67,68,73], none, .w (.mup 93 true (.t 67) (.t 68) (.t 73))⟩, [], [0,1,6,3,2,5,4]⟩]) .skip)))))) (.drp 4 (.keep [2,3,6,9,10,11,12,13,27,32] (.reg false [(cMv 56 13), (cC 57 .add 56 1), (cMv 13 57)]))))))))))))))))))))))) (.keep [2,3,6,10,27] (.swp 0 1 (.reg false [(cMv 74 10), (cMv 8 74)]))))))))) (.drp 1 (.keep [2,3,6,8,27] (.reg false [(cC 75 .add 27 1), (cMv 27 75)])))))))))))) (.keep [] (.seq (.reg false [(cQ 4 [] (.mv (.k (.z 1)))), (cI 5 3)]) .ret)))))))))))
def pu39 : List Nat := [1000070,2,3,72]
def rs39 : List RV := [.t 4, .t 5]
theorem cc39 : CCx Try.prog Try.f39 pu39 rc39 := by unfold CCx; kernel_rfl
theorem cb39 : CBx Try.f39 := by unfold CBx; kernel_rfl
theorem cs39 : CSx Try.prog Try.f39 rs39 := by unfold CSx; kernel_rfl
theorem cn39 : 2 ≤ Try.f39.ntmps := by decide
def rc25 : RC := (.seq (.reg false [(cX 2 0), (cX 3 1), (cI 4 0), (cI 5 0)]) (.keep [2,3] (.seq (.crl false [(cLd 9 2 true 6), (cLd 10 3 true 2)] ⟨(some 11), none, [9,10], none, .o (kF 39) [(.t 9), (.t 10)]⟩ [(cMv 8 11), (cEx 12 8 0), (cEx 13 8 1), (cMv 6 12), (cMv 7 13)]) (.keep [6,7] (.seq (.reg false [(cMv 14 6), (cLn 15 14), (cMv 16 7), (cMv 4 15), (cMv 5 16)]) .ret)))))
def pu25 : List Nat := [2,3]
def rs25 : List RV := [.t 4, .t 5]
theorem cc25 : CCx Try.prog Try.f25 pu25 rc25 := by unfold CCx; kernel_rfl
theorem cb25 : CBx Try.f25 := by unfold CBx; kernel_rfl
theorem cs25 : CSx Try.prog Try.f25 rs25 := by unfold CSx; kernel_rfl
theorem cn25 : 2 ≤ Try.f25.ntmps := by decide
def rc19 : RC := (.seq (.reg false [(cX 1 0), (cQ 2 [] (.mv (.k (.z 1)))), (cI 3 0)]) (.keep [1] (.seq (.reg false [(cLd 4 1 true 6), (cQ 5 [] (.bld [(.i 0), (.i 0)] [])), (cQ 6 [4,5] (.call (kF 59) [(.t 4), (.t 5), (.k (.z 1))])), (cEx 7 6 0), (cEx 8 6 1), (cMv 2 7), (cMv 3 8)]) .ret)))
def pu19 : List Nat := [1]
def rs19 : List RV := [.t 2, .t 3]
theorem cc19 : CCx Try.prog Try.f19 pu19 rc19 := by unfold CCx; kernel_rfl
theorem cb19 : CBx Try.f19 := by unfold CBx; kernel_rfl
theorem cs19 : CSx Try.prog Try.f19 rs19 := by unfold CSx; kernel_rfl
theorem cn19 : 1 ≤ Try.f19.ntmps := by decide
def rc26 : RC := (.seq (.reg false [(cX 2 0), (cX 3 1), (cI 4 0), (cI 5 0)]) (.keep [2,3] (.seq (.reg false [(cLd 10 2 true 6), (cLd 11 3 true 2), (cQ 12 [10,11] (.call (kF 61) [(.t 10), (.t 11)])), (cMv 9 12), (cEx 13 9 0), (cEx 14 9 1), (cEx 15 9 2), (cMv 6 13), (cMv 7 14), (cMv 8 15)]) (.keep [6,8] (.seq (.reg false [(cMv 16 6), (cMv 17 8), (cMv 4 16), (cMv 5 17)]) .ret)))))
def pu26 : List Nat := [2,3]
def rs26 : List RV := [.t 4, .t 5]
theorem cc26 : CCx Try.prog Try.f26 pu26 rc26 := by unfold CCx; kernel_rfl
theorem cb26 : CBx Try.f26 := by unfold CBx; kernel_rfl
theorem cs26 : CSx Try.prog Try.f26 rs26 := by unfold CSx; kernel_rfl
theorem cn26 : 2 ≤ Try.f26.ntmps := by decide
def rc101 : RC := (.seq (.reg false [⟨(some 3), none, [0], none, .w (.bxo (.t 0))⟩, (cX 4 1), (cX 5 2), (cQ 6 [] (.mv (.k .u)))]) (.keep [3,4,5] (.seq (.reg false [(cQ 7 [4,5,3] (.mkf 106 [(.t 4), (.t 5), (.t 3)])), (cMv 6 7)]) .ret)))
def pu101 : List Nat := [4,5]
def rs101 : List RV := [.t 6]
theorem cc101 : comp Try.prog pu101 (Try.f101.ntmps, 0) 4 1 rc101 (Try.f101.body.getD .skip) = some rc101 := by kernel_rfl
theorem cb101 : CBx Try.f101 := by unfold CBx; kernel_rfl
theorem cs101 : CSx Try.prog Try.f101 rs101 := by unfold CSx; kernel_rfl
theorem cn101 : 3 ≤ Try.f101.ntmps := by decide
def rc106 : RC := (.seq (.reg false [(cFa 8 1 3), (cLd 9 8 false 1), (cMv 5 9)]) (.keep [0,1,2,3,5] (.block 0 (.loop [0,1,2,3,5] none (.seq (.seq (.reg false [(cMv 10 5), (cFa 11 1 4), (cLd 12 11 false 1), (cB 13 .leq 10 12)]) (.keep [0,1,2,3,5,13] (.cond (.t 13) .skip (.exit 0)))) (.keep [0,1,2,3,5] (.block 1 (.seq (.any false 0 [⟨(cMv 14 5), [], []⟩, ⟨(cLd 15 2 false 1), [], []⟩, ⟨(cLd 16 3 false 1), [], []⟩, ⟨(cZ 17 16), [], [2]⟩, ⟨(cFa 18 17 8), [], [3,2]⟩, ⟨(cLd 19 18 false 1), [], [4,3,2]⟩, ⟨(cMv 20 5), [], []⟩, ⟨(cA 21 1 19 20), [], [5,4,3,2,6]⟩, ⟨(cLd 22 21 false 1), [], [7,5,4,3,2,6]⟩, ⟨(cQ 23 [15,22] (.call (kF 87) [(.t 15), (.t 22)])), [], [1,8,7,5,4,3,2,6]⟩, ⟨(cMv 6 14), [], [0,9,1,8,7,5,4,3,2,6]⟩, ⟨(cMv 7 23), [], [9,1,8,7,5,4,3,2,6,10,0]⟩]) (.keep [0,1,2,3,5,6,7] (.seq (.block 2 (.loop [0,1,2,3,5,6,7] none (.seq (.seq (.any true 0 [⟨(cMv 24 6), [], []⟩, ⟨(cFa 25 1 4), [], []⟩, ⟨(cLd 26 25 false 1), [], [1]⟩, ⟨(cB 27 .lss 24 26), [], [0,2,1]⟩, ⟨(cMv 28 27), [], [3,0,2,1]⟩, ⟨(gQ 29 28 true [2] (.ld false 1 (.t 2))), [], [4,3,0,2,1]⟩, ⟨(gQ 30 28 true [3] (.ld false 1 (.t 3))), [], [4,3,0,2,1]⟩, ⟨(gQ 31 28 true [30] (.nilc (.t 30))), [], [6,4,3,0,2,1]⟩, ⟨(gQ 32 28 true [31] (.fad 8 (.t 31))), [], [7,6,4,3,0,2,1]⟩, ⟨(gQ 33 28 true [32] (.ld false 1 (.t 32))), [], [8,7,6,4,3,0,2,1]⟩, ⟨(gMv 34 28 true 6), [], [4,3,0,2,1]⟩, ⟨(gQ 35 28 true [34] (.bin .add (.t 34) (kI 1))), [], [10,4,3,0,2,1]⟩, ⟨(gQ 36 28 true [33,35] (.iad 1 (.t 33) (.t 35))), [], [9,8,7,6,4,3,0,2,1,11,10]⟩, ⟨(gQ 37 28 true [36] (.ld false 1 (.t 36))), [], [12,9,8,7,6,4,3,0,2,1,11,10]⟩, ⟨(gQ 38 28 true [29,37] (.call (kF 87) [(.t 29), (.t 37)])), [], [5,4,3,0,2,1,13,12,9,8,7,6,11,10]⟩, ⟨(gMv 39 28 true 7), [], [4,3,0,2,1]⟩, ⟨(gQ 40 28 true [38,39] (.bin .eql (.t 38) (.t 39))), [], [14,5,4,3,0,2,1,13,12,9,8,7,6,11,10,15]⟩, ⟨(cQ 41 [28,40] (.pick (.t 28) (.t 40) (kB false))), [], [4,3,0,2,1,16,14,5,13,12,9,8,7,6,11,10,15]⟩]) (.keep [0,1,2,3,5,6,7,41] (.cond (.t 41) .skip (.exit 2)))) (.keep [0,1,2,3,5,6,7] (.block 3 (.reg false [(cMv 42 6), (cC 43 .add 42 1), (cMv 6 43)])))))) (.keep [0,1,2,3,5,6,7] (.seq (.seq (.yrh false [(cMv 44 0), (cFa 45 1 0), (cLd 46 45 false 1), (cLd 47 2 false 1), (cB 48 .add 46 47), (cMv 49 7), (cB 50 .sub 48 49), (cFa 51 1 1), (cLd 52 51 false 1), (cC 53 .sub 52 1), (cFa 54 1 2), (cLd 55 54 false 1), (cC 56 .add 55 1), (cMv 57 5), (cMv 58 6), (cQ 59 [50,53,56,57,58] (.bld [(.i 0), (.i 0), (.i 0), (.i 0), (.i 0)] [(0,1, (.t 50)), (1,1, (.t 53)), (2,1, (.t 56)), (3,1, (.t 57)), (4,1, (.t 58))]))] ⟨(some 60), none, [44,59], none, .o (.t 44) [(.t 59)]⟩ [(cN 61 60)]) (.keep [0,1,2,3,6,61] (.cond (.t 61) .ret .skip))) (.keep [0,1,2,3,6] (.reg false [(cMv 62 6), (cC 63 .add 62 1), (cMv 5 63)]))))))))))))))
def pu106 : List Nat := []
def rs106 : List RV := []
theorem cc106 : comp Try.prog pu106 (Try.f106.ntmps, 0) 5 3 rc106 (Try.f106.body.getD .skip) = some rc106 := by kernel_rfl
theorem cb106 : CBx Try.f106 := by unfold CBx; kernel_rfl
theorem cs106 : CSx Try.prog Try.f106 rs106 := by unfold CSx; kernel_rfl
theorem cn106 : 4 ≤ Try.f106.ntmps := by decide
def rc88 : RC := (.seq (.reg false [⟨(some 2), none, [0], none, .w (.bxo (.t 0))⟩, (cX 3 1), (cI 4 0)]) (.keep [2,3,62] (.scp (.seq (.seq (.any false 0 [⟨(cFa 10 3 0), [], []⟩, ⟨(cLd 11 10 false 1), [], [0]⟩, ⟨(cLd 12 2 false 1), [], []⟩, ⟨(cZ 13 12), [], [2]⟩, ⟨(cFa 14 13 6), [], [3,2]⟩, ⟨(cFa 15 14 0), [], [4,3,2]⟩, ⟨(cLd 16 15 false 1), [], [5,4,3,2]⟩, ⟨(cLd 17 2 false 1), [], []⟩, ⟨(cZ 18 17), [], [7]⟩, ⟨(cFa 19 18 6), [], [8,7]⟩, ⟨(cFa 20 19 1), [], [9,8,7]⟩, ⟨(cLd 21 20 false 1), [], [10,9,8,7]⟩, ⟨(cQ 22 [11,16,21] (.call (kF 72) [(.t 11), (.t 16), (.t 21)])), [], [1,0,6,5,4,3,2,11,10,9,8,7]⟩]) (.keep [2,3,22,62] (.cond (.t 22) (.seq (.reg false [(cI 4 0)]) .ret) .skip))) (.keep [2,3,62] (.seq (.seq (.any true 0 [⟨(cFa 23 3 1), [], []⟩, ⟨(cLd 24 23 false 1), [], [0]⟩, ⟨(cC 25 .eql 24 0), [], [1,0]⟩, ⟨(cMv 26 25), [], [2,1,0]⟩, ⟨(gQ 27 26 false [3] (.fad 0 (.t 3))), [], [3,2,1,0]⟩, ⟨(gQ 28 26 false [27] (.ld false 1 (.t 27))), [], [4,3,2,1,0]⟩, ⟨(gQ 29 26 false [2] (.ld false 1 (.t 2))), [], [3,2,1,0]⟩, ⟨(gQ 30 26 false [29] (.nilc (.t 29))), [], [6,3,2,1,0]⟩, ⟨(gQ 31 26 false [30] (.fad 6 (.t 30))), [], [7,6,3,2,1,0]⟩, ⟨(gQ 32 26 false [31] (.fad 1 (.t 31))), [], [8,7,6,3,2,1,0]⟩, ⟨(gQ 33 26 false [32] (.ld false 1 (.t 32))), [], [9,8,7,6,3,2,1,0]⟩, ⟨(gQ 34 26 false [28,33] (.bin .gtr (.t 28) (.t 33))), [], [5,4,3,2,1,0,10,9,8,7,6]⟩, ⟨(cQ 35 [26,34] (.pick (.t 26) (kB true) (.t 34))), [], [3,2,1,0,11,5,4,10,9,8,7,6]⟩]) (.keep [2,3,35,62] (.cond (.t 35) (.seq (.reg false [(cQ 4 [] (.mv (.k (.i (-1)))))]) .ret) .skip))) (.keep [2,3,62] (.seq (.seq (.any false 0 [⟨(cLd 37 2 false 1), [], []⟩, ⟨(cZ 38 37), [], [0]⟩, ⟨(cFa 39 38 9), [], [1,0]⟩, ⟨(cLd 40 39 false 1), [], [2,1,0]⟩, ⟨(cLd 41 3 true 5), [], []⟩, ⟨(cQ 42 [40,41] (.lkp (.i 0) true 115 true (.t 40) (.t 41))), [], [3,2,1,0,4]⟩, ⟨(cMv 36 42), [], [5,3,2,1,0,4]⟩, ⟨(cEx 43 36 0), [], [6,5,3,2,1,0,4]⟩, ⟨(cEx 44 36 1), [], [6,5,3,2,1,0,4]⟩, ⟨(cMv 5 43), [], [7,6,5,3,2,1,0,4]⟩, ⟨(cMv 6 44), [], [8,6,5,3,2,1,0,4,9,7]⟩]) (.keep [2,3,5,6,62] (.seq (.reg false [(cMv 45 6)]) (.keep [2,3,5,45,62] (.cond (.t 45) (.seq (.reg false [(cMv 46 5), (cMv 4 46)]) .ret) .skip))))) (.keep [2,3,62] (.seq (.reg false [(cQ 7 [] (.mv (.k (.i (-1)))))]) (.keep [2,3,7,62] (.seq .skip (.keep [2,3,7,62] (.seq (.seq (.reg false [(cI 8 1)]) (.keep [2,3,7,8,62] (.block 0 (.loop [2,3,7,8,62] (some 4) (.seq (.seq (.any false 0 [⟨(cMv 47 8), [], []⟩, ⟨(cLd 48 2 false 1), [], []⟩, ⟨(cZ 49 48), [], [1]⟩, ⟨(cFa 50 49 0), [], [2,1]⟩, ⟨(cLd 51 50 true 6), [], [3,2,1]⟩, ⟨(cFa 52 3 2), [], []⟩, ⟨(cLd 53 52 false 1), [], [5]⟩, ⟨(cQ 54 [51,53] (.call (kF 67) [(.t 51), (.t 53)])), [], [4,3,2,1,6,5]⟩, ⟨(cB 55 .leq 47 54), [], [0,7,4,3,2,1,6,5]⟩]) (.keep [2,3,7,8,55,62] (.cond (.t 55) .skip (.exit 0)))) (.keep [2,3,7,8,62] (.seq (.block 1 (.seq (.seq (.hcl false [(cLd 58 2 false 1), (cLd 59 3 true 5), (cMv 60 8)] ⟨(some 61), none, [58,59,60], none, .o (kF 101) [(.t 58), (.t 59), (.t 60)]⟩ []) (.keep [2,3,7,8,61,62] (.block 2 (.rfh (.t 61) [62] 5 0 (.reg false [⟨(some 9), none, [], none, .w (.alc [(.i 0), (.i 0), (.i 0), (.i 0), (.i 0)])⟩, ⟨none, none, [9,62], none, .w (.st 5 (.t 9) (.t 62))⟩]) (.block 3 (.seq (.hcl false [(cLd 63 2 false 1), (cLd 64 9 true 5)] ⟨(some 65), none, [63,64], none, .o (kF 88) [(.t 63), (.t 64)]⟩ [(cC 66 .lss 65 0)]) (.keep [2,3,7,8,62,66] (.cond (.t 66) (.exit 1) .skip)))))))) (.keep [2,3,8] (.seq (.reg false [(cMv 67 8), (cMv 7 67)]) (.exit 0))))) (.drp 4 (.keep [2,3,7,8,62] (.reg false [(cMv 56 8), (cC 57 .add 56 1), (cMv 8 57)])))))))))) (.keep [2,3,7] (.seq (.any false 0 [⟨(cLd 68 2 false 1), [], []⟩, ⟨(cZ 69 68), [], [0]⟩, ⟨(cFa 70 69 9), [], [1,0]⟩, ⟨(cLd 71 70 false 1), [], [2,1,0]⟩, ⟨(cLd 72 3 true 5), [], []⟩, ⟨(cMv 73 7), [], []⟩, ⟨⟨none, none, [71,72,73], none, .w (.mup 115 true (.t 71) (.t 72) (.t 73))⟩, [], [3,2,1,0,4,5]⟩]) (.keep [7] (.seq (.reg false [(cMv 74 7), (cMv 4 74)]) .ret))))))))))))))))))
def pu88 : List Nat := [3]
def rs88 : List RV := [.t 4]
theorem cc88 : comp Try.prog pu88 (Try.f88.ntmps, 0) 3 1 rc88 (Try.f88.body.getD .skip) = some rc88 := by kernel_rfl
theorem cb88 : CBx Try.f88 := by unfold CBx; kernel_rfl
theorem cs88 : CSx Try.prog Try.f88 rs88 := by unfold CSx; kernel_rfl
theorem cn88 : 2 ≤ Try.f88.ntmps := by decide
def rc61 : RC := (.dum (.seq (.reg false [(cX 2 0), (cX 3 1), (cI 4 0), (cI 5 0), (cI 6 0)]) (.keep [2,3] (.seq (.reg false [(cLd 12 2 true 6), (cLd 13 3 true 2), (cQ 14 [12,13] (.call (kF 59) [(.t 12), (.t 13), (.k (.z 1))])), (cMv 11 14), (cEx 15 11 0), (cEx 16 11 1), (cMv 7 15), (cMv 6 16)]) (.keep [2,3,6,7] (.seq (.seq (.reg false [(cMv 17 6), (cC 18 .neq 17 0)]) (.keep [2,3,6,7,18] (.cond (.t 18) (.seq (.reg false [(cMv 19 6), (cI 4 0), (cI 5 0), (cMv 6 19)]) .ret) .skip))) (.keep [2,3,7] (.seq (.reg false [(cLd 20 2 true 6), (cLd 21 3 true 2), (cMv 22 7), ⟨(some 23), none, [], none, .w (.mkm true)⟩, (cQ 24 [20,21,22,23] (.bld [(.i 0), (.i 0), (.z 3), (.i 0), (.i 0), (.i 0), (.i 0), (.i 0), (.z 1), .u] [(0,6, (.t 20)), (6,2, (.t 21)), (8,1, (.t 22)), (9,1, (.t 23))])), ⟨(some 25), none, [24], none, .w (.bxo (.t 24))⟩, (cMv 8 25)]) (.keep [7,8] (.seq (.seq (.reg false [(cI 26 0)]) (.keep [7,8,26] (.block 0 (.loop [7,8,26] none (.seq (.reg false [(cC 27 .lss 26 7)]) (.keep [7,8,26,27] (.seq (.cond (.t 27) .skip (.exit 0)) (.keep [7,8,26] (.seq (.block 1 (.seq (.reg false [(cMv 28 26), (cMv 9 28)]) (.keep [7,8,9,26] (.seq (.hcl false [(cMv 29 8), (cMv 30 9), (cMv 31 7), (cLn 32 31), (cC 33 .sub 32 1), (cQ 34 [30,33] (.bld [(.i 0), (.i 0), (.i 0), (.i 0), (.i 0)] [(1,1, (.t 30)), (4,1, (.t 33))]))] ⟨(some 35), none, [29,34], none, .o (kF 88) [(.t 29), (.t 34)]⟩ [(cMv 10 35)]) (.keep [7,8,9,10,26] (.seq (.reg false [(cMv 36 10), (cC 37 .geq 36 0)]) (.keep [7,8,9,10,26,37] (.cond (.t 37) (.seq (.reg false [(cMv 38 9), (cMv 39 10), (cMv 4 38), (cMv 5 39), (cI 6 0)]) .ret) .skip)))))))) (.keep [7,8,26] (.reg false [(cC 40 .add 26 1), (cMv 26 40)]))))))))))) (.keep [] (.seq (.reg false [(cI 4 0), (cI 5 0), (cI 6 3)]) .ret))))))))))))
def pu61 : List Nat := [2,3]
def rs61 : List RV := [.t 4, .t 5, .t 6]
theorem cc61 : CCx Try.prog Try.f61 pu61 rc61 := by unfold CCx; kernel_rfl
theorem cb61 : CBx Try.f61 := by unfold CBx; kernel_rfl
theorem cs61 : CSx Try.prog Try.f61 rs61 := by unfold CSx; kernel_rfl
theorem cn61 : 2 ≤ Try.f61.ntmps := by decide
end Go.C06
set_option linter.unusedSimpArgs false
set_option linter.unusedVariables false
namespace Go.C06
open Go.Fam Go.Proofs
theorem hmix : Try.prog.follows .mixedOrders = true := by kernel_rfl
structure Bent where
 bend : Int
 back : Span
 deriving DecidableEq
structure Cane where
 spring : Span
 bents : List Bent
 wrong : Int
 limit : Int
 tire : Int
 deriving DecidableEq
structure Boil where
 soak : Int
 bend : Int
 deriving DecidableEq
structure Box where
 room : Int
 boils : List Boil
 deriving DecidableEq
structure Task where
 angle : Int
 left : Int
 number : Int
 first : Int
 last : Int
 deriving DecidableEq
def eBent (b : Bent) : List V := [.i b.bend, .i b.back.low, .i b.back.high]
def Qae (c : Cane) : List V := [.i c.spring.low, .i c.spring.high, .sl 3 (c.bents.map eBent), .i c.wrong, .i c.limit, .i c.tire]
def eBoil (b : Boil) : List V := [.i b.soak, .i b.bend]
def eBox (s : Box) : List V := [.i s.room, .sl 2 (s.boils.map eBoil)]
def Qed (t : Task) : List Int := [t.angle, t.left, t.number, t.first, t.last]
def Qbq (t : Task) : List V := [.i t.angle, .i t.left, .i t.number, .i t.first, .i t.last]
def Qpj : List V → Bent | [a, b, c] => ⟨gI a, ⟨gI b, gI c⟩⟩ | _ => ⟨0, ⟨0, 0⟩⟩
def Qcn : List V → Cane | [a, b, c, d, e, f] => ⟨⟨gI a, gI b⟩, (gR c).map Qpj, gI d, gI e, gI f⟩ | _ => ⟨⟨0, 0⟩, [], 0, 0, 0⟩
def Qpl : List V → Boil | [a, b] => ⟨gI a, gI b⟩ | _ => ⟨0, 0⟩
def dBox : List V → Box | [a, b] => ⟨gI a, (gR b).map Qpl⟩ | _ => ⟨0, []⟩
def Qmg : List V → Task | [a, b, c, d, e] => ⟨gI a, gI b, gI c, gI d, gI e⟩ | _ => ⟨0, 0, 0, 0, 0⟩
theorem Qpk (b : Bent) : Qpj (eBent b) = b := rfl
theorem Qdl (c : Cane) : Qcn (Qae c) = c := by simp [Qcn, Qae, gI, gR, Function.comp_def, Qpk]
theorem Qpm (b : Boil) : Qpl (eBoil b) = b := rfl
theorem Qt5 (c : Box) : dBox (eBox c) = c := by simp [dBox, eBox, gI, gR, Function.comp_def, Qpm]
theorem Qtz (c : Task) : Qmg (Qbq c) = c := rfl
theorem Qyc (b : Bent) : (⟨b.bend, b.back⟩ : Bent) = b := rfl
theorem Qye (c : Cane) : (⟨c.spring, c.bents, c.wrong, c.limit, c.tire⟩ : Cane) = c := rfl
def eSI (a : Span × Int) : List V := [.ag (Qau a.1), .i a.2]
def dSI : List V → Span × Int | [.ag s, .i n] => (Qew s, n) | _ => (⟨0, 0⟩, 0)
theorem Qyl (a : Span × Int) : dSI (eSI a) = a := by obtain ⟨s, n⟩ := a; simp [dSI, eSI, Qg4]
def eC1 (c : Cane) : List V := [.ag (Qae c)]
def dC1 : List V → Cane | [.ag s] => Qcn s | _ => Qcn []
theorem Ql8 (c : Cane) : dC1 (eC1 c) = c := by simp [dC1, eC1, Qdl]
def eCI (a : Cane × Int) : List V := [.ag (Qae a.1), .i a.2]
def dCI : List V → Cane × Int | [.ag s, .i n] => (Qcn s, n) | _ => (Qcn [], 0)
theorem Qtx (a : Cane × Int) : dCI (eCI a) = a := by obtain ⟨s, n⟩ := a; simp [dCI, eCI, Qdl]
def eCII (a : Cane × Int × Int) : List V := [.ag (Qae a.1), .i a.2.1, .i a.2.2]
def dCII : List V → Cane × Int × Int | [.ag s, .i n, .i m] => (Qcn s, n, m) | _ => (Qcn [], 0, 0)
theorem Qwp (a : Cane × Int × Int) : dCII (eCII a) = a := by obtain ⟨s, n, m⟩ := a; simp [dCII, eCII, Qdl]
def eCS (a : Cane × Span) : List V := [.ag (Qae a.1), .ag (Qau a.2)]
def dCS : List V → Cane × Span | [.ag s, .ag n] => (Qcn s, Qew n) | _ => (Qcn [], Qew [])
theorem Qpn (a : Cane × Span) : dCS (eCS a) = a := by obtain ⟨s, n⟩ := a; simp [dCS, eCS, Qdl, Qg4]
def eCSL (a : Cane × Span × List Int) : List V := [.ag (Qae a.1), .ag (Qau a.2.1), .sl 1 (a.2.2.map eI)]
def dCSL : List V → Cane × Span × List Int | [.ag s, .ag n, .sl _ l] => (Qcn s, Qew n, l.map dI) | _ => (Qcn [], Qew [], [])
theorem Qwr (a : Cane × Span × List Int) : dCSL (eCSL a) = a := by obtain ⟨s, n, l⟩ := a; simp [dCSL, eCSL, Qdl, Qg4, Function.comp_def, Qg3]
def eCLS (a : Cane × List Int × Span) : List V := [.ag (Qae a.1), .sl 1 (a.2.1.map eI), .ag (Qau a.2.2)]
def dCLS : List V → Cane × List Int × Span | [.ag s, .sl _ l, .ag n] => (Qcn s, l.map dI, Qew n) | _ => (Qcn [], [], Qew [])
theorem Qwq (a : Cane × List Int × Span) : dCLS (eCLS a) = a := by obtain ⟨s, n, l⟩ := a; simp [dCLS, eCLS, Qdl, Qg4, Function.comp_def, Qg3]
def eCL (a : Cane × List Int) : List V := [.ag (Qae a.1), .sl 1 (a.2.map eI)]
def dCL : List V → Cane × List Int | [.ag s, .sl _ l] => (Qcn s, l.map dI) | _ => (Qcn [], [])
theorem Qyh (a : Cane × List Int) : dCL (eCL a) = a := by obtain ⟨s, l⟩ := a; simp [dCL, eCL, Qdl, Function.comp_def, Qg3]
def eLI (a : List Int × Int) : List V := [.sl 1 (a.1.map eI), .i a.2]
def dLI : List V → List Int × Int | [.sl _ l, .i n] => (l.map dI, n) | _ => ([], 0)
theorem Qty (a : List Int × Int) : dLI (eLI a) = a := by obtain ⟨s, n⟩ := a; simp [dLI, eLI, Function.comp_def, Qg3]
end Go.C06
set_option linter.unusedSimpArgs false
set_option linter.unusedVariables false
namespace Go.C06
open Go.Fam Go.Proofs Go.ChangeAt
variable {H : Type} {enc : TypeId × Value → H} {W : World}
theorem uInt : Try.prog.underlying 3 = some (.int .i64) := by kernel_rfl
theorem Qm1 : Rd enc Try.prog W 3 eI inI := Qxq uInt
theorem Qxo : Rd enc Try.prog W 27 (fun l : List Int => [.sl 1 (l.map eI)]) (fun l => ∀ x ∈ l, inI x) :=
 (Qns (el := 3) (es := 1) (by kernel_rfl) (by kernel_rfl) (by decide) Qm1).map id (fun _ => rfl) fun _ h => h.1
theorem aInts : RdV enc Try.prog W 27 (fun l : List Int => .sl 1 (l.map eI)) (fun l => ∀ x ∈ l, inI x) := Rd.one (Qqp (el := 3) (by kernel_rfl)) Qxo
theorem Qxn : Rd enc Try.prog W 78 eBoil (fun _ => True) :=
 (RdP.rd (fs := Try.prog.fieldsOf 78) (n := 2) (ps := [(3, 0), (3, 1)]) (by kernel_rfl) (by kernel_rfl) (by kernel_rfl)
  (Qdw (k := 1) (by kernel_rfl) Qm1 (Qdw (k := 1) (by kernel_rfl) Qm1 (Qms (by decide))))).map (fun p => ⟨p.1, p.2.1⟩) (fun _ => rfl) fun _ _ => trivial
theorem Quq : Rd enc Try.prog W 67 (fun l : List Boil => [.sl 2 (l.map eBoil)]) (fun _ => True) :=
 (Qns (el := 78) (es := 2) (by kernel_rfl) (by kernel_rfl) (by decide) Qxn).map id (fun _ => rfl) fun _ _ => trivial
theorem Qyu : Rd enc Try.prog W 69 eBox (fun _ => True) :=
 (RdP.rd (fs := Try.prog.fieldsOf 69) (n := 2) (ps := [(3, 0), (67, 1)]) (by kernel_rfl) (by kernel_rfl) (by kernel_rfl)
  (Qdw (k := 1) (by kernel_rfl) Qm1 (Qdw (k := 1) (by kernel_rfl) Quq (Qms (by decide))))).map (fun p => ⟨p.1, p.2.1⟩) (fun _ => rfl) fun _ _ => trivial
theorem aBox : RdV enc Try.prog W 69 (fun d => .ag (eBox d)) (fun _ => True) := Qyu.agg (fs := Try.prog.fieldsOf 69) (by kernel_rfl)
theorem Qsj : Rd enc Try.prog W 71 (fun x : Int × Int × Int × Int => [.i x.1, .i x.2.1, .i x.2.2.1, .i x.2.2.2]) (fun _ => True) :=
 (RdP.rd (fs := Try.prog.fieldsOf 71) (n := 4) (ps := [(3, 0), (3, 1), (3, 2), (3, 3)]) (by kernel_rfl) (by kernel_rfl) (by kernel_rfl)
  (Qdw (k := 1) (by kernel_rfl) Qm1 (Qdw (k := 1) (by kernel_rfl) Qm1 (Qdw (k := 1) (by kernel_rfl) Qm1 (Qdw (k := 1) (by kernel_rfl) Qm1 (Qms (by decide))))))).map (fun p => (p.1, p.2.1, p.2.2.1, p.2.2.2.1)) (fun _ => rfl) fun _ _ => trivial
theorem Qyb : RdV enc Try.prog W 71 (fun x : Int × Int × Int × Int => .ag [.i x.1, .i x.2.1, .i x.2.2.1, .i x.2.2.2]) (fun _ => True) := Qsj.agg (fs := Try.prog.fieldsOf 71) (by kernel_rfl)
theorem own : ownKnob Try.prog.godebug = none := by kernel_rfl
theorem laid : laidOutB Try.prog = true := by kernel_rfl
end Go.C06
set_option linter.unusedSimpArgs false
set_option linter.unusedVariables false
namespace Go.C06
open Go.Fam Go.Proofs
variable {Γ : Gam}
def Qbm (b k : Int) : Int := (b * k).tdiv 1000
theorem Qri {x m : Int} (h : tame m x) : tame m (x.tdiv 1000) := by
 unfold tame at *
 by_cases h0 : 0 ≤ x
 ·rw [Zk h0]; omega
 ·have e : x = -(-x) := by omega
  rw [e, Int.neg_tdiv, Zk (by omega)]; omega
theorem Ql1 {b k : Int} (hb : tame 1000000 b) (hk : tame 1000000 k) : tame 1000000000000 (Qbm b k) := Qri (Qfl hb hk (by decide) (by decide))
theorem W87 (b k : Int) (hb : tame 1000000 b) (hk : tame 1000000 k) : Qah Try.prog 87 [.i b, .i k] (.i (Qbm b k)) := by
 refine Qag Qu5 hmix Try.func87 cb87 cc87 cs87 cn87 ?_
 simp only [rc87, rs87, Qa7, Qa8, Qac, Qa6, Qad, Qa4, Qa1, Fam.step, Qaf, evO, opv, qv, binV, Qa2, Qa0, Qa3, ↓reduceIte, Nat.reduceEqDiff, Int.reduceEq, Qa, Qb, endQ, rvs, rv1, resV, vw_i, zipA, Qh, V.i.injEq, true_and, and_self, reduceCtorEq, not_false_eq_true, ne_eq]
 have h1 := Qfl hb hk (by decide) (by decide)
 have h2 := Ql1 hb hk
 unfold tame Qbm at *
 exact ⟨by unfold inI; omega, by unfold inI; omega, rfl⟩
theorem W72 (n lo hi : Int) : Qah Try.prog 72 [.i n, .i lo, .i hi] (.b (Qan n lo hi)) := by
 refine Qag Qu5 hmix Try.func72 cb72 cc72 cs72 cn72 ?_
 simp only [rc72, rs72, Qa7, Qa8, Qac, Qa6, Qad, Qa4, Qa1, Fam.step, Qaf, Qb9, Qaz, ug, evO, opv, qv, Qak, binV, Qa2, Qa0, Qa3, ↓reduceIte, Nat.reduceEqDiff, Nat.reduceAdd, Qa, Qb, Qz, Q0, endQ, rvs, rv1, resV, vw_b, zipA, Qh, V.b.injEq, Qu, Q1, decide_eq_true_eq, decide_eq_false_iff_not, true_and, and_true, and_self, implies_true, reduceCtorEq, beq_true, Qg9, imp_self]
 by_cases h : lo ≤ n <;> simp [h, Qan]
def s87 : List V → Prop × V | [.i a, .i b] => (tame 1000000 a ∧ tame 1000000 b, .i (Qbm a b)) | _ => (False, .u)
def s72 : List V → Prop × V | [.i n, .i lo, .i hi] => (True, .b (Qan n lo hi)) | _ => (False, .u)
theorem Qxz (vs : List V) (h : (s87 vs).1) : Qah Try.prog 87 vs (s87 vs).2 := by
 unfold s87 at h ⊢
 split at h
 ·exact W87 _ _ h.1 h.2
 ·exact h.elim
theorem Qxx (vs : List V) (h : (s72 vs).1) : Qah Try.prog 72 vs (s72 vs).2 := by
 unfold s72 at h ⊢
 split at h
 ·exact W72 _ _ _
 ·exact h.elim
noncomputable def H1 : Gam := (Γ0.ext 87 s87).ext 72 s72
theorem okH1 : GOk Try.prog H1 := (Qu5.ext (f := 87) (r := s87) (fun a w => Try.call87 a w) Qxz).ext (f := 72) (r := s72) (fun a w => Try.call72 a w) Qxx
theorem h87 (a b : Int) : H1 87 [.i a, .i b] = (tame 1000000 a ∧ tame 1000000 b, .i (Qbm a b)) := rfl
theorem h72 (n lo hi : Int) : H1 72 [.i n, .i lo, .i hi] = (True, .b (Qan n lo hi)) := rfl
def Qbl (s : Span) (most : Int) : Bool := Qan s.low 0 s.high && decide (s.high ≤ most)
theorem W82 (s : Span) (m : Int) : Qah Try.prog 82 [.ag (Qau s), .i m] (.b (Qbl s m)) := by
 refine Qag okH1 hmix Try.func82 cb82 cc82 cs82 cn82 ?_
 simp only [rc82, rs82, h72, Qa7, Qa8, Qac, Qa6, Qad, Qa4, Qa1, Fam.step, Qaf, Qb9, Qaz, ug, evO, opv, qv, Qak, binV, ldV, Qar, V.cells, Qaq, Qaa, Qa5, flat, Qa2, Qa0, Qa3, ↓reduceIte, Nat.reduceEqDiff, Nat.reduceAdd, Nat.reduceLT, Nat.reduceLeDiff, Qa, Qb, Qz, Q0, Qe, Qf, Qj, Qq, Qn, Qk, endQ, rvs, rv1, resV, vw_i, vw_b, Qaw, zipA, Qh, V.b.injEq, Qu, Q1, Qo, Qd, true_and, and_true, and_self, implies_true, reduceCtorEq, beq_true, Qg9, Xb, imp_self, Qau]
 by_cases h : Qan s.low 0 s.high = true <;> simp [h, Qbl]
noncomputable def H2 : Gam := H1.ext 82 (fnG eSI dSI (fun _ => True) (fun a => Qbl a.1 a.2) .b)
theorem okH2 : GOk Try.prog H2 := okH1.ext (f := 82) (fun a w => Try.call82 a w) (Qb0 fun a _ => W82 a.1 a.2)
theorem h82 (s : Span) (m : Int) : H2 82 [.ag (Qau s), .i m] = (True, .b (Qbl s m)) :=
 (show H2 82 _ = fnG eSI dSI (fun _ => True) (fun a => Qbl a.1 a.2) .b (eSI (s, m)) from rfl).trans (Qb6 _ (Qyl _))
theorem Qy5 (n lo hi : Int)  : H2 72 [.i n, .i lo, .i hi] = (True, .b (Qan n lo hi)) := h72 n lo hi
def Qcj (b : Bent) : Bool := Qan b.bend 1 90 && Qbl b.back 90
theorem W90 (b : Bent) : Qah Try.prog 90 [.ag (eBent b)] (.b (!Qcj b)) := by
 refine Qag okH2 hmix Try.func90 cb90 cc90 cs90 cn90 ?_
 have g1 := h82 b.back 90
 unfold Qau at g1
 simp only [rc90, rs90, Qy5, g1, Qa7, Qa8, Qac, Qa6, Qad, Qa4, Qa1, Fam.step, Qaf, Qb9, Qaz, ug, evO, opv, qv, Qak, ldV, Qar, V.cells, Qaq, Qaa, Qa5, flat, Qa2, Qa0, Qa3, ↓reduceIte, Nat.reduceEqDiff, Nat.reduceAdd, Nat.reduceLT, Nat.reduceLeDiff, Qa, Qb, Qz, Q0, Qe, Qf, Qj, Qq, Qi, Qs, Qn, Qk, endQ, rvs, rv1, resV, vw_i, vw_b, Qaw, zipA, Qh, V.b.injEq, Qu, Q1, Qo, Qd, true_and, and_true, and_self, implies_true, beq_false, Xp, Zo, Q4, Qje, Z8, imp_self, eBent]
 unfold Qcj
 by_cases h : Qan b.bend 1 90 = true <;> simp [h]
def eB1 (b : Bent) : List V := [.ag (eBent b)]
def dB1 : List V → Bent | [.ag s] => Qpj s | _ => Qpj []
noncomputable def H3 : Gam := H2.ext 90 (fnG eB1 dB1 (fun _ => True) (fun b => !Qcj b) .b)
theorem okH3 : GOk Try.prog H3 := okH2.ext (f := 90) (fun a w => Try.call90 a w) (Qb0 fun a _ => W90 a)
theorem h90 (b : Bent) : H3 90 [.ag (eBent b)] = (True, .b (!Qcj b)) :=
 (show H3 90 _ = fnG eB1 dB1 (fun _ => True) (fun b => !Qcj b) .b (eB1 b) from rfl).trans (Qb6 _ rfl)
theorem P102 (hG : GOk Try.prog Γ) (l : List Bent) (f : Nat) (hf : f < 1000000) (caps : List V) (p : Bent → Bool) (hv : caps.map (vw [] 8) = caps) (hr : Qa5 caps = false) (hl : l.length < 10000000)
  (h : ∀ x ∈ l, Γ f (V.ag (eBent x) :: caps) = (True, .b (p x))) : Qah Try.prog 102 [.sl 3 (l.map eBent), .fn f caps] (.i (idxOf p l)) := by
 refine Qag hG hmix Try.func102 cb102 cc102 cs102 cn102 ?_
 simp only [rc102, rs102, Qa7, Qa8, Qab, Qa6, Qad, Qa4, Qa1, Fam.step, Qaf, evO, opv, qv, lenV, Qa2, Qa0, Qa3, ↓reduceIte, Nat.reduceEqDiff, Int.reduceNeg, Qa, Qb, zipA, Qh, true_and, reduceCtorEq, Qp]
 refine Qc5 l.length (fun i => ⟨lkp [(0, .sl 3 (l.map eBent)), (1, .fn f caps), (7, .i l.length), (8, .i i)], []⟩) (fun i => ∀ j x, j < i → l[j]? = some x → p x = false) ?_ ?_ ?_ ?_
 ·simp only [Zg, kp, Qa0, Qa3, ↓reduceIte, Nat.reduceEqDiff, Qa, Qb, reduceCtorEq]
 ·intro j x h; omega
 ·intro i hi hc
  obtain ⟨x, hx⟩ : ∃ x, l[i]? = some x := ⟨_, Ql hi⟩
  have hlt : (i : Int) < l.length := by omega
  have h3 : inI ((i : Int) + 1) := by unfold inI; omega
  have hp := h x (Qx hx)
  try simp only [eBent] at hp
  simp only [hx, hlt, Q5, Q6, h3, hp, hv, hr, hf, Qaj, Qa7, Qa8, Qai, Qc3, Qab, Qac, Qa6, Qad, Qal, Qa4, Qa1, Fam.step, Qaf, evO, opv, qv, binV, ldV, iadV, Qar, Qaa, Qa5, flat, kp, Qa2, Qa0, Qa3, ↓reduceIte, Nat.reduceEqDiff, Nat.reduceAdd, Nat.reduceLeDiff, Int.reduceNeg, Qa, Qb, Qe, Qf, Qi, Qs, Qv, Qr, Qt, endQ, rvs, rv1, resV, vw_i, Qaw, Q7, Qh, V.i.injEq, Qo, Qd, decide_true, true_and, and_true, and_self, implies_true, reduceCtorEq, Q8, Qp, Q9, Qc, Qy, Zd, eBent]
  refine ⟨fun e => ?_, fun e => ?_⟩
  ·rw [Qk8 hx e hc]
  ·intro j y hj hy
   by_cases hji : j < i
   ·exact hc j y hji hy
   ·have : j = i := by omega
    subst this
    rw [hx] at hy; cases hy; exact e
 ·intro hc
  simp only [Qa7, Qa8, Qai, Qat, Qac, Qa6, Qad, Qal, Qa4, Qa1, Fam.step, Qaf, evO, opv, qv, binV, Qa2, Qa0, Qa3, ↓reduceIte, Nat.reduceEqDiff, Int.reduceNeg, Qa, Qb, endQ, rvs, rv1, resV, vw_i, Zs, V.i.injEq, Qd, decide_false, true_and, and_self, reduceCtorEq]
  exact (Qhb fun x hx => by
   obtain ⟨j, hj⟩ := Zu hx
   exact hc j x (by have := Qam hj; exact this) hj).symm
theorem P98 (hG : GOk Try.prog Γ) (l : List Int) (f : Nat) (hf : f < 1000000) (caps : List V) (p : Int → Bool) (hv : caps.map (vw [] 8) = caps) (hr : Qa5 caps = false) (hl : l.length < 10000000)
  (h : ∀ x ∈ l, Γ f (V.i x :: caps) = (True, .b (p x))) : Qah Try.prog 98 [.sl 1 (l.map eI), .fn f caps] (.i (idxOf p l)) := by
 refine Qag hG hmix Try.func98 cb98 cc98 cs98 cn98 ?_
 simp only [rc98, rs98, Qa7, Qa8, Qab, Qa6, Qad, Qa4, Qa1, Fam.step, Qaf, evO, opv, qv, lenV, Qa2, Qa0, Qa3, ↓reduceIte, Nat.reduceEqDiff, Int.reduceNeg, Qa, Qb, zipA, Qh, true_and, reduceCtorEq, Qp]
 refine Qc5 l.length (fun i => ⟨lkp [(0, .sl 1 (l.map eI)), (1, .fn f caps), (7, .i l.length), (8, .i i)], []⟩) (fun i => ∀ j x, j < i → l[j]? = some x → p x = false) ?_ ?_ ?_ ?_
 ·simp only [Zg, kp, Qa0, Qa3, ↓reduceIte, Nat.reduceEqDiff, Qa, Qb, reduceCtorEq]
 ·intro j x h; omega
 ·intro i hi hc
  obtain ⟨x, hx⟩ : ∃ x, l[i]? = some x := ⟨_, Ql hi⟩
  have hlt : (i : Int) < l.length := by omega
  have h3 : inI ((i : Int) + 1) := by unfold inI; omega
  have hp := h x (Qx hx)
  try simp only [Qyv, Qaj, Qa7, Qb5, Qa8, Qai, Qc3, Qab, Qat, Qac, Qa6, Qe5, Qny, Qr7, Qmv, Qth, Qte, Qti, Qtd, Qj7, Qxr, Quv, Qjy, Qr6, Qnz, Qra, Qtg, Qxs, Qsq, Qxu, Qtk, Qtj, noGo, Qdt, ↓Qc1, ↓Qmu, rnQ, rndQ, updL, Qou, yres, Qov, ghO, Qj9, ocV, effO, nidQ, plO, plQ, plB, Qm5, Qeu, Qkr, Qkc, Qb2, optL, upTo, rids, Qda, Qis, Qgu, Qjf, List.foldl_cons, List.foldl_nil, Qd5, Qg1, Qdr, shV, shL, shB, Qao, Qeb, swH, sw, renV, renL, renB, cutH, putB, lkpV, keyL, entV, Qs5, keyV, Qck, endO, endK, endI, Qad, Qal, Qa4, Qa1, Qy0, Fam.step, Qaf, Qbu, Qb9, Qav, Qaz, ug, runX, Qyp, eff, Qb1, fpR, fpQ, fpV, Qbi, hits, putB, nv, sv, Qcl, evO, opv, qv, Qak, Qdp, Qmr, binV, ldV, iadV, lenV, curG, slcV, slxV, Qiq, Qar, Qap, putAt, Qba, Qbg, V.cells, Qaq, Qb8, Qce, Qaa, Qa5, flat, Qd3, kp, cutV, cutL, cutB, Qa2, Qbb, Qa0, Qa3, ↓reduceIte, Nat.reduceEqDiff, Nat.reduceAdd, Nat.reduceSub, Nat.reduceMul, Nat.reduceLT, Nat.reduceLeDiff, Nat.reduceBEq, Int.reduceNeg, Int.reduceToNat, Int.add_sub_cancel, Xl, Int.reduceLT, Int.reduceLE, Int.reduceAdd, Int.reduceSub, Int.reduceMul, Int.reduceEq, Qa, Qb, Qz, Q0, Qe, Qf, Qj, Qq, Zh, Qi, Q2, Qs, Qn, List.headD_nil, Qv, Qr, Qk, Qg, Qm, Qw, Qt, Ze, Za, Zp, List.set_nil, Q3, Xc, Zw, Zx, Zf, Z0, endQ, rvs, rv1, resV, vw_i, vw_b, vw_u, Qyz, vw_z, Qax, Qkv, Qaw, Qci, Qh4, Qrn, Qfv, zipA, Zs, Q7, beq_self_eq_true, Qh, Xd, Z7.injEq, V.i.injEq, V.b.injEq, Qu, Q1, Zz, Zl, X1, Qo, Z6, Bool.or_true, Bool.true_or, Zi, Zm, Qd, Zr, decide_true, decide_false, decide_eq_true_eq, decide_eq_false_iff_not, true_and, and_true, and_self, false_and, and_false, forall_const, false_implies, true_implies, implies_true, reduceCtorEq, ite_true, ite_false, not_true_eq_false, not_false_eq_true, ne_eq, Q8, Option.map_none, Xf, Zn, Zc, Zb, beq_true, beq_false, Xp, Zo, Q4, Qg9, Qje, Xb, Z8, Bool.xor_self, imp_self, Qp, Q9, Qc, Qy, Zd, Z3, Classical.not_not, List.length_replicate, Qyw, Qau, eBent, Qae, eBoil, eBox, Qbq, eI, eIs, Qye, Qyc] at hp
  simp only [hx, hlt, Q5, Q6, h3, hp, hv, hr, hf, Qaj, Qa7, Qa8, Qai, Qc3, Qab, Qac, Qa6, Qad, Qal, Qa4, Qa1, Fam.step, Qaf, evO, opv, qv, binV, ldV, iadV, Qar, Qaa, Qa5, flat, kp, Qa2, Qa0, Qa3, ↓reduceIte, Nat.reduceEqDiff, Nat.reduceLeDiff, Int.reduceNeg, Qa, Qb, Qe, Qf, Qn, Qv, Qr, Qt, endQ, rvs, rv1, resV, vw_i, Q7, Qh, V.i.injEq, Qo, Qd, decide_true, true_and, and_true, and_self, implies_true, reduceCtorEq, Q8, Qp, Q9, Qc, Qy, Zd, eI]
  refine ⟨fun e => ?_, fun e => ?_⟩
  ·rw [Qk8 hx e hc]
  ·intro j y hj hy
   by_cases hji : j < i
   ·exact hc j y hji hy
   ·have : j = i := by omega
    subst this
    rw [hx] at hy; cases hy; exact e
 ·intro hc
  simp only [Qa7, Qa8, Qai, Qat, Qac, Qa6, Qad, Qal, Qa4, Qa1, Fam.step, Qaf, evO, opv, qv, binV, Qa2, Qa0, Qa3, ↓reduceIte, Nat.reduceEqDiff, Int.reduceNeg, Qa, Qb, endQ, rvs, rv1, resV, vw_i, Zs, V.i.injEq, Qd, decide_false, true_and, and_self, reduceCtorEq]
  exact (Qhb fun x hx => by
   obtain ⟨j, hj⟩ := Zu hx
   exact hc j x (by have := Qam hj; exact this) hj).symm
def eBs (l : List Bent) : List V := [.sl 3 (l.map eBent), .fn 90 []]
def dBs : List V → List Bent | [.sl _ l, _] => l.map Qpj | _ => []
theorem Qwo (l : List Bent) : dBs (eBs l) = l := by simp [dBs, eBs, Function.comp_def, Qpk]
noncomputable def H4 : Gam := H3.ext 102 (fnG eBs dBs (fun l => l.length < 10000000) (idxOf fun b => !Qcj b) .i)
theorem okH4 : GOk Try.prog H4 := okH3.ext (f := 102) (fun a w => Try.call102 a w) (Qb0 fun l h => P102 okH3 l 90 (by decide) [] _ rfl rfl h fun b _ => h90 b)
theorem h102 (l : List Bent) : H4 102 [.sl 3 (l.map eBent), .fn 90 []] = (l.length < 10000000, .i (idxOf (fun b => !Qcj b) l)) :=
 (show H4 102 _ = fnG eBs dBs (fun l => l.length < 10000000) (idxOf fun b => !Qcj b) .i (eBs l) from rfl).trans (Qb6 _ (Qwo _))
theorem W91 (l : List Bent) (h : l.length < 10000000) : Qah Try.prog 91 [.sl 3 (l.map eBent), .fn 90 []] (.b (l.any fun b => !Qcj b)) := by
 refine Qag okH4 hmix Try.func91 cb91 cc91 cs91 cn91 ?_
 simp only [rc91, rs91, h102, Qa7, Qa8, Qac, Qa6, Qad, Qa4, Qa1, Fam.step, Qaf, evO, opv, qv, binV, Qar, Qaa, Qa5, flat, Qa2, Qa0, Qa3, ↓reduceIte, Nat.reduceEqDiff, Nat.reduceLT, Qa, Qb, Qk, endQ, rvs, rv1, resV, vw_b, Qax, Qh4, zipA, Qh, V.b.injEq, Qo, Qd, true_and, and_true, and_self, implies_true, reduceCtorEq]
 exact ⟨h, by rw [Qip]⟩
noncomputable def H5 : Gam := H4.ext 91 (fnG eBs dBs (fun l => l.length < 10000000) (fun l => l.any fun b => !Qcj b) .b)
theorem okH5 : GOk Try.prog H5 := okH4.ext (f := 91) (fun a w => Try.call91 a w) (Qb0 fun l h => W91 l h)
theorem h91 (l : List Bent) : H5 91 [.sl 3 (l.map eBent), .fn 90 []] = (l.length < 10000000, .b (l.any fun b => !Qcj b)) :=
 (show H5 91 _ = fnG eBs dBs (fun l => l.length < 10000000) (fun l => l.any fun b => !Qcj b) .b (eBs l) from rfl).trans (Qb6 _ (Qwo _))
theorem Qy6 (n lo hi : Int)  : H5 72 [.i n, .i lo, .i hi] = (True, .b (Qan n lo hi)) := h72 n lo hi
theorem Qy7 (s : Span) (m : Int)  : H5 82 [.ag (Qau s), .i m] = (True, .b (Qbl s m)) := h82 s m
def Qdn (c : Cane) : Bool := Qbl c.spring 500 && decide (c.spring.high - c.spring.low ≤ 40) && decide ((c.bents.length : Int) ≤ 8) && !(c.bents.any fun b => !Qcj b) && Qan c.wrong 0 2 && Qan c.limit 1 90 && Qan c.tire 0 90
theorem W63 (c : Cane) : Qah Try.prog 63 [.ag (Qae c)] (.b (Qdn c)) := by
 refine Qag okH5 hmix Try.func63 cb63 cc63 cs63 cn63 ?_
 have g1 := Qy7 c.spring 500
 unfold Qau at g1
 simp only [rc63, rs63, Qy6, g1, h91, Qa7, Qa8, Qac, Qa6, Qad, Qa4, Qa1, Fam.step, Qaf, Qb9, Qaz, ug, evO, opv, qv, Qak, binV, ldV, lenV, Qar, V.cells, Qaq, Qaa, Qa5, flat, Qa2, Qa0, Qa3, ↓reduceIte, Nat.reduceEqDiff, Nat.reduceAdd, Nat.reduceLT, Nat.reduceLeDiff, Qa, Qb, Qz, Q0, Qe, Qf, Qj, Qq, Qi, Q2, Qn, Qk, endQ, rvs, rv1, resV, vw_i, vw_b, Qax, Qaw, Qh4, zipA, Qh, V.b.injEq, Qu, Q1, Qo, Qd, true_and, and_true, and_self, implies_true, beq_true, Qg9, Xb, imp_self, Qp, Qae]
 unfold Qdn
 by_cases h1 : Qbl c.spring 500 = true
 ·have hs : (0 ≤ c.spring.low ∧ c.spring.low ≤ c.spring.high) ∧ c.spring.high ≤ 500 := by simpa [Qbl, Qan] using h1
  have hi : inI (c.spring.high - c.spring.low) := by unfold inI; omega
  by_cases h2 : c.spring.high - c.spring.low ≤ 40
  ·by_cases h3 : (c.bents.length : Int) ≤ 8
   ·have h4 : c.bents.length < 10000000 := by omega
    by_cases h5 : (c.bents.any fun b => !Qcj b) = true <;> by_cases h6 : Qan c.wrong 0 2 = true <;> by_cases h7 : Qan c.limit 1 90 = true <;> simp [h1, h2, h3, h4, h5, h6, h7, hi]
   ·simp [h1, h2, h3, hi]
  ·simp [h1, h2, hi]
 ·simp [h1]
noncomputable def H6 : Gam := H5.ext 63 (fnG eC1 dC1 (fun _ => True) Qdn .b)
theorem okH6 : GOk Try.prog H6 := okH5.ext (f := 63) (fun a w => Try.call63 a w) (Qb0 fun c _ => W63 c)
theorem h63 (c : Cane) : H6 63 [.ag (Qae c)] = (True, .b (Qdn c)) := (show H6 63 _ = fnG eC1 dC1 (fun _ => True) Qdn .b (eC1 c) from rfl).trans (Qb6 _ (Ql8 _))
def Qca (c : Cane) : Int := if Qdn c = true then 0 else 60
theorem W28 (c : Cane) : Qah Try.prog 28 [.ag (Qae c)] (.i (Qca c)) := by
 refine Qag okH6 hmix Try.func28 cb28 cc28 cs28 cn28 ?_
 have g1 := h63 c
 unfold Qae at g1
 simp only [rc28, rs28, g1, Qaj, Qa7, Qa8, Qai, Qc3, Qac, Qa6, Qad, Qa4, Qa1, Fam.step, Qaf, evO, opv, qv, ldV, Qar, V.cells, Qaq, Qaa, Qa5, flat, Qa2, Qa0, Qa3, ↓reduceIte, Nat.reduceEqDiff, Nat.reduceAdd, Nat.reduceLT, Nat.reduceLeDiff, Qa, Qb, Qe, Qf, Qi, Qs, Qk, endQ, rvs, rv1, resV, vw_i, Qax, Qaw, zipA, Qh, V.i.injEq, Qo, Qd, true_and, and_self, implies_true, Q4, Z3, Qae]
 by_cases h : Qdn c = true <;> simp [h, Qca]
structure OkC (c : Cane) : Prop where
 low : 0 ≤ c.spring.low
 le : c.spring.low ≤ c.spring.high
 high : c.spring.high ≤ 500
 spread : c.spring.high - c.spring.low ≤ 40
 bents : c.bents.length ≤ 8
 bent : ∀ b ∈ c.bents, Qcj b = true
 wrong : 0 ≤ c.wrong ∧ c.wrong ≤ 2
 limit : 1 ≤ c.limit ∧ c.limit ≤ 90
 tire : 0 ≤ c.tire ∧ c.tire ≤ 90
theorem Qqn (c : Cane) : Qdn c = true ↔ OkC c := by
 unfold Qdn Qbl Qan
 simp only [Xs, decide_eq_true_eq, Q4, List.any_eq_false, Z3]
 constructor
 ·rintro ⟨⟨⟨⟨⟨⟨⟨⟨h1, h2⟩, h3⟩, h4⟩, h5⟩, h6⟩, h7⟩, h8⟩, h9⟩
  exact ⟨h1, h2, h3, h4, by omega, fun b hb => by simpa using h6 b hb, h7, h8, h9⟩
 ·rintro ⟨h1, h2, h3, h4, h5, h6, h7, h8, h9⟩
  exact ⟨⟨⟨⟨⟨⟨⟨⟨h1, h2⟩, h3⟩, h4⟩, by omega⟩, fun b hb => by simpa using h6 b hb⟩, h7⟩, h8⟩, h9⟩
theorem Qhh (b : Bent) : Qcj b = true ↔ (1 ≤ b.bend ∧ b.bend ≤ 90) ∧ (0 ≤ b.back.low ∧ b.back.low ≤ b.back.high) ∧ b.back.high ≤ 90 := by
 simp [Qcj, Qbl, Qan]
end Go.C06
set_option linter.unusedSimpArgs false
set_option linter.unusedVariables false
namespace Go.C06
open Go.Fam Go.Proofs
variable {Γ : Gam}
noncomputable def H7 : Gam := H6.ext 28 (fnG eC1 dC1 (fun _ => True) Qca .i)
theorem okH7 : GOk Try.prog H7 := okH6.ext (f := 28) (fun a w => Try.call28 a w) (Qb0 fun c _ => W28 c)
theorem h28 (c : Cane) : H7 28 [.ag (Qae c)] = (True, .i (Qca c)) := (show H7 28 _ = fnG eC1 dC1 (fun _ => True) Qca .i (eC1 c) from rfl).trans (Qb6 _ (Ql8 _))
theorem Qy8 (n lo hi : Int)  : H7 72 [.i n, .i lo, .i hi] = (True, .b (Qan n lo hi)) := h72 n lo hi
def Qcp (c : Cane) (i : Int) : Int := min 90 (c.limit - c.tire * i)
def Qdo (c : Cane) (i : Int) : Prop := tame 1000 c.tire ∧ tame 1000 c.limit ∧ tame 1000 i
theorem W67 (c : Cane) (i : Int) (h : Qdo c i) : Qah Try.prog 67 [.ag (Qae c), .i i] (.i (Qcp c i)) := by
 refine Qag okH7 hmix Try.func67 cb67 cc67 cs67 cn67 ?_
 simp only [rc67, rs67, Qa7, Qa8, Qac, Qa6, Qad, Qa4, Qa1, Fam.step, Qaf, evO, opv, qv, binV, ldV, V.cells, Qaq, Qaa, Qa5, Qa2, Qa0, Qa3, ↓reduceIte, Nat.reduceEqDiff, Nat.reduceAdd, Nat.reduceLeDiff, Qa, Qb, Qe, Qf, Qj, Qq, Qn, endQ, rvs, rv1, resV, vw_i, Qax, Qaw, zipA, Qh, V.i.injEq, Qo, Qd, true_and, and_self, reduceCtorEq, Qae]
 have h1 := Qfl h.1 h.2.2 (by decide) (by decide)
 have h2 := h.2.1
 unfold tame at h1 h2
 exact ⟨by unfold inI; omega, by unfold inI; omega, rfl⟩
theorem W84 (n : Int) : Qah Try.prog 84 [.i n] (.b (!Qan n 1 90)) := by
 refine Qag okH7 hmix Try.func84 cb84 cc84 cs84 cn84 ?_
 simp only [rc84, rs84, Qy8, Qa7, Qa8, Qac, Qa6, Qad, Qa4, Qa1, Fam.step, Qaf, evO, opv, qv, Qar, Qaa, Qa5, flat, Qa2, Qa0, Qa3, ↓reduceIte, Nat.reduceLT, Qa, Qb, Qk, endQ, rvs, rv1, resV, vw_i, vw_b, zipA, Qo, Qd, and_self, implies_true, reduceCtorEq]
def s84 : List V → Prop × V | [.i n] => (True, .b (!Qan n 1 90)) | _ => (False, .u)
theorem Qxy (vs : List V) (h : (s84 vs).1) : Qah Try.prog 84 vs (s84 vs).2 := by
 unfold s84 at h ⊢
 split at h
 ·exact W84 _
 ·exact h.elim
def Qc2 (k : Int) (b : Bent) : Bool := !Qan (Qbm b.bend k) b.back.low b.back.high
def Qgl (c : Cane) (k : Int) : Nat := c.bents.countP (Qc2 k)
def Qe8 (c : Cane) (k : Int) : Bool := decide ((Qgl c k : Int) ≤ c.wrong)
def Qa9 (c : Cane) : List Int := (ints c.spring.low c.spring.high).filter (Qe8 c)
def ysT (c : Cane) (i : Nat) : List (List V) := (((ints c.spring.low c.spring.high).drop i).filter (Qe8 c)).map eI
noncomputable def H8 : Gam := (H7.ext 67 (fnG eCI dCI (fun a => Qdo a.1 a.2) (fun a => Qcp a.1 a.2) .i)).ext 84 s84
theorem okH8 : GOk Try.prog H8 := (okH7.ext (f := 67) (fun a w => Try.call67 a w) (Qb0 fun a h => W67 a.1 a.2 h)).ext (f := 84) (r := s84) (fun a w => Try.call84 a w) Qxy
theorem h67 (c : Cane) (i : Int) : H8 67 [.ag (Qae c), .i i] = (Qdo c i, .i (Qcp c i)) :=
 (show H8 67 _ = fnG eCI dCI (fun a => Qdo a.1 a.2) (fun a => Qcp a.1 a.2) .i (eCI (c, i)) from rfl).trans (Qb6 _ (Qtx _))
theorem h84 (n : Int) : H8 84 [.i n] = (True, .b (!Qan n 1 90)) := rfl
theorem Qy9 (n lo hi : Int)  : H8 72 [.i n, .i lo, .i hi] = (True, .b (Qan n lo hi)) := h72 n lo hi
theorem Qya (a b : Int)  : H8 87 [.i a, .i b] = (tame 1000000 a ∧ tame 1000000 b, .i (Qbm a b)) := h87 a b
theorem OkC.bentT {c : Cane} (h : OkC c) {b : Bent} (hb : b ∈ c.bents) : tame 1000000 b.bend := by
 have := (Qhh b).1 (h.bent b hb)
 unfold tame; omega
theorem I100 (c : Cane) (h : OkC c) : Qge Try.prog 100 [.pa (Qae c)] (ysT c 0) := by
 refine Qq6 okH8 hmix Try.func100 cb100 (md := 2) rfl cc100 cs100 cn100 ?_
 intro l
 have k1 := h.low
 have k2 := h.le
 have k3 := h.high
 have k4 := h.bents
 simp only [rc100, Qa7, Qa8, Qab, Qa6, Qad, Qa4, Qa1, Fam.step, Qaf, evO, opv, qv, ldV, Qa2, Qa0, Qa3, ↓reduceIte, Nat.reduceEqDiff, Nat.reduceAdd, Nat.reduceLeDiff, Qa, Qb, Qe, Qf, Qq, Qn, zipA, Qh, Qd, true_and, reduceCtorEq, Qae]
 refine Qc4 (c.spring.high + 1 - c.spring.low).toNat (fun i => ⟨lkp [(0, .yl l), (1, .pa (Qae c)), (3, .i (c.spring.low + i))], [.gh [.yl l, .pa (Qae c)] (some (ysT c i))]⟩) ?_ ?_ ?_
 ·simp only [Zg, Xq, cutH, kp, cutV, cutB, Qa0, Qa3, ↓reduceIte, Nat.reduceEqDiff, Qa, Qb, Qi, Qs, reduceCtorEq, Qae]
 ·intro i hi
  have hx := Qgs hi
  have hlt : c.spring.low + (i : Int) ≤ c.spring.high := by omega
  have h3 : inI (c.spring.low + (i : Int) + 1) := by unfold inI; omega
  simp only [hlt, Qaj, Qa7, Qa8, Qai, Qab, Qa6, cutH, Qad, Qa4, Qa1, Fam.step, Qaf, evO, opv, qv, binV, ldV, lenV, kp, Qa2, Qa0, Qa3, ↓reduceIte, Nat.reduceEqDiff, Nat.reduceAdd, Nat.reduceLeDiff, Qa, Qb, Qe, Qf, Qj, Qq, Qn, Qh, Qd, decide_true, true_and, reduceCtorEq, Qp, Qae]
  refine Qc4 c.bents.length (fun j => ⟨lkp [(0, .yl l), (1, .pa (Qae c)), (3, .i (c.spring.low + i)), (4, .i ((c.bents.take j).countP (Qc2 (c.spring.low + i)))), (18, .sl 3 (c.bents.map eBent)), (19, .i c.bents.length), (20, .i j)], [.gh [.yl l, .pa (Qae c)] (some (ysT c i))]⟩) ?_ ?_ ?_
  ·simp only [Zg, Xw, cutH, kp, cutV, cutB, Qa0, Qa3, ↓reduceIte, Nat.reduceEqDiff, Qa, Qb, Qi, Q2, Qs, reduceCtorEq, Qae]
  ·intro j hj
   obtain ⟨b, hb⟩ : ∃ b, c.bents[j]? = some b := ⟨_, Ql hj⟩
   have hltj : (j : Int) < c.bents.length := by omega
   have h4 : inI ((j : Int) + 1) := by unfold inI; omega
   have h5 := h.bentT (Qx hb)
   have h6 : tame 1000000 (c.spring.low + (i : Int)) := by unfold tame; omega
   have hc : (c.bents.take j).countP (Qc2 (c.spring.low + i)) ≤ j := Xh Xi (by simp; omega)
   have h7 : inI (((c.bents.take j).countP (Qc2 (c.spring.low + i)) : Int) + 1) := by unfold inI; omega
   have hct : ∀ q : Bool, Qc2 (c.spring.low + i) b = q → ((c.bents.take (j + 1)).countP (Qc2 (c.spring.low + i)) : Int) = (c.bents.take j).countP (Qc2 (c.spring.low + i)) + (if q = true then 1 else 0) := by
    rintro q rfl
    rw [Qb7 hb, Xo, Xj]
    split <;> simp
   simp only [hb, hltj, Qya, Qy9, Q5, Q6, Qaj, Qa7, Qb5, Qa8, Qai, Qc3, Qab, Qa6, Qe5, ↓Qc1, Qb2, cutH, putB, Qad, Qal, Qa4, Qa1, Fam.step, Qaf, Qbu, Qav, runX, eff, Qb1, fpR, fpQ, fpV, Qbi, hits, putB, nv, sv, evO, opv, qv, binV, ldV, iadV, curG, Qar, putAt, V.cells, Qaq, Qb8, Qaa, Qa5, flat, kp, cutV, cutB, Qa2, Qbb, Qa0, Qa3, ↓reduceIte, Nat.reduceEqDiff, Nat.reduceAdd, Nat.reduceLT, Nat.reduceLeDiff, Qa, Qb, Qz, Q0, Qe, Qf, Qj, Qq, Zh, Qi, Q2, Qs, Qn, Qv, Qr, Qk, Qg, Qm, Qw, Qt, Ze, Za, Zp, Q3, Zf, vw_i, Q7, beq_self_eq_true, Qh, Xd, Qu, Q1, Zl, Qo, Zi, Zm, Qd, decide_true, true_and, and_true, and_self, implies_true, reduceCtorEq, Q8, Zn, Zc, Zb, Q4, Qp, Q9, Qc, Qy, Z3, eBent, Qae]
   refine ⟨⟨h5, h6⟩, fun e => ?_, fun e => ?_⟩
   ·have e2 : Qc2 (c.spring.low + i) b = true := by simp [Qc2, e]
    simp only [h7, h4, hct true e2, ↓reduceIte, and_self]
   ·have e2 : Qc2 (c.spring.low + i) b = false := by simp [Qc2, e]
    simp only [h4, hct false e2, Xq, ↓reduceIte, Qd, and_self]
  ·simp only [Z5, Qaj, Qa7, Qa8, Qai, Qc3, Qat, Qac, Qa6, Qe5, Qti, ↓Qc1, Qou, yres, Qov, cutH, endI, Qad, Qal, Qa4, Qa1, Fam.step, Qaf, Qb9, Qav, Qaz, ug, evO, opv, qv, Qak, binV, ldV, cutV, cutB, Qa2, Qa0, Qa3, ↓reduceIte, Nat.reduceEqDiff, Nat.reduceAdd, Nat.reduceLeDiff, Qa, Qb, Qz, Q0, Qe, Qf, Qj, Qq, Qi, Qs, Qn, Qg, Zs, Qh, Qu, Q1, Qd, decide_false, decide_eq_true_eq, true_and, and_true, and_self, implies_true, reduceCtorEq, beq_true, Qg9, imp_self, Zd, Qae]
   have e : ysT c i = if Qe8 c (c.spring.low + i) = true then [.i (c.spring.low + i)] :: ysT c (i + 1) else ysT c (i + 1) := by
    unfold ysT
    rw [Qih hx, List.filter_cons]
    split <;> rfl
   by_cases hle : (c.bents.countP (Qc2 (c.spring.low + i)) : Int) ≤ c.wrong
   ·have ht : Qe8 c (c.spring.low + i) = true := by simp [Qe8, Qgl, hle]
    rw [e, if_pos ht]
    simp only [hle, flat, Qd3, Qg, Qu, Zz, decide_true, true_and, Zo, Q4]
    refine ⟨?_, ?_⟩
    ·simp [flat]
    ·intro bb
     cases bb <;> simp only [Q5, Q6, Xg, ↓reduceIte, Qd, Zr, true_and, and_true, and_self, forall_const, false_implies]
     rw [← Xg]
     exact h3
   ·have ht : ¬ Qe8 c (c.spring.low + i) = true := by simp [Qe8, Qgl, hle]
    rw [e, if_neg ht]
    simp only [hle, Q5, Q6, Xg, Qmr, Qd, decide_false, true_and, and_true, forall_const, false_implies, imp_self]
    rw [← Xg]
    exact h3
 ·have hgt : ¬ (c.spring.low + ((c.spring.high + 1 - c.spring.low).toNat : Int) ≤ c.spring.high) := by omega
  have hnil : ysT c (c.spring.high + 1 - c.spring.low).toNat = [] := by
   unfold ysT
   rw [List.drop_eq_nil_iff.2 (by rw [Qfi]; exact Zq _)]; rfl
  simp only [hgt, hnil, Qa7, Qa8, Qai, Qat, Qa6, endI, Qad, Qal, Qa4, Qa1, Fam.step, Qaf, evO, opv, qv, binV, ldV, Qa2, Qa0, Qa3, ↓reduceIte, Nat.reduceEqDiff, Nat.reduceAdd, Nat.reduceLeDiff, Qa, Qb, Qe, Qf, Qj, Qq, Qn, Qg, Qh, Qd, decide_false, and_self, reduceCtorEq, Qae]
theorem W86 (c : Cane) : Qah Try.prog 86 [.ag (Qae c)] (.fn 100 [.pa (Qae c)]) := by
 refine Qag okH8 hmix Try.func86 cb86 cc86 cs86 cn86 ?_
 simp only [rc86, rs86, Qa7, Qa8, Qac, Qa6, Qad, Qa4, Qa1, Fam.step, Qaf, evO, opv, qv, V.cells, Qaq, Qaa, Qa5, Qa2, Qa0, Qa3, ↓reduceIte, Nat.reduceEqDiff, Qa, Qb, endQ, rvs, rv1, resV, vw_i, Qax, Qkv, Qaw, Qh4, zipA, Qo, and_self, Qae]
noncomputable def H9 : Gam := (H8.ext 86 (fnG eC1 dC1 (fun _ => True) (fun c => c) fun c => .fn 100 [.pa (Qae c)])).ext 2000100 (fnG (fun c => [.pa (Qae c)]) (fun vs => match vs with | [.pa cs] => Qcn cs | _ => Qcn []) OkC (fun c => ysT c 0) (.sl 0))
theorem okH9 : GOk Try.prog H9 := by
 refine (okH8.ext (f := 86) (fun a w => Try.call86 a w) (Qb0 (e := eC1) (d := dC1) (ok := fun _ => True) (g := fun c => c) (eb := fun c => .fn 100 [.pa (Qae c)]) fun c _ => W86 c)).extI (f := 100) (fun a w => Try.call100 a w) fun vs ys h1 h2 => ?_
 simp only [fnG, V.sl.injEq, true_and] at h1 h2
 rw [← h1.1, ← h2]
 exact I100 _ h1.2
theorem h86 (c : Cane) : H9 86 [.ag (Qae c)] = (True, .fn 100 [.pa (Qae c)]) :=
 (show H9 86 _ = fnG eC1 dC1 (fun _ => True) (fun c => c) (fun c => .fn 100 [.pa (Qae c)]) (eC1 c) from rfl).trans (Qb6 _ (Ql8 _))
theorem h100 (c : Cane) : H9 2000100 [.pa (Qae c)] = (OkC c, .sl 0 (ysT c 0)) :=
 (show H9 2000100 _ = fnG (fun c => [.pa (Qae c)]) (fun vs => match vs with | [.pa cs] => Qcn cs | _ => Qcn []) OkC (fun c => ysT c 0) (.sl 0) [.pa (Qae c)] from rfl).trans (Qb6 (e := fun c => [.pa (Qae c)]) c (Qdl c))
theorem Qd7 (c : Cane) (h : OkC c) : (Qa9 c).length ≤ 41 := by
 refine Xh (List.length_filter_le _ _) ?_
 rw [Qfi]
 have := h.spread
 omega
theorem ysT0 (c : Cane) : ysT c 0 = (Qa9 c).map eI := by simp [ysT, Qa9]
def seqH (l : List Int) (k : Nat) : List Blk := [.cells 0 [.rf 1 k 0 k 1], .cells k ((l.take k).map eI).flatten]
theorem W99 (c : Cane) (h : OkC c) : Qc6 Try.prog 99 [.z 1, .fn 100 [.pa (Qae c)]] [] fun r hp => r = .rf 1 (Qa9 c).length 0 (Qa9 c).length 1 ∧ hp = seqH (Qa9 c) (Qa9 c).length := by
 refine Qio okH9 hmix Try.func99 cb99 cc99 cs99 (args := [.z 1, .fn 100 [.pa (Qae c)]]) (hp := []) (by exact cn99) (by decide) (by decide) ?_
 have hlen := Qd7 c h
 simp only [rc99, rs99, Qa7, Qa8, Qab, Qa6, Qmv, Qad, Qa4, Qa1, Fam.step, Qaf, Qbu, Qav, nv, evO, opv, qv, V.cells, Qaq, Qb8, Qa2, Qa0, Qa3, ↓reduceIte, Nat.reduceEqDiff, Qa, Qb, Qz, Q0, Qe, Qf, Qv, Qr, Qg, Za, rv1, resV, zipA, Qh, Xd, Qu, true_and, and_self, reduceCtorEq, Qae]
 refine Qr9 (gf := 100) (caps := [.pa (Qae c)]) (ok := OkC c) (ys := ysT c 0) (fun k => seqH (Qa9 c) k) (fun _ => True) ?_ ?_ (by decide) h rfl ?_ ?_ trivial ?_ ?_
 ·simp only [evO, Qa0, ↓reduceIte, Nat.reduceEqDiff, Qae]
 ·simp only [Nat.reduceAdd, Qa, Qb, Qkv, Qae]
  exact h100 c
 ·rw [ysT0]
  intro x hx
  obtain ⟨n, _, rfl⟩ := List.mem_map.1 hx
  rfl
 ·simp only [seqH, cutH, Zv, cutH, cutV, cutL, cutB, ↓reduceIte, Nat.reduceLT, Qa, Qb, Qi, Q2, Qs]
 ·intro k x hx _
  rw [ysT0, Qy, Option.map_eq_some_iff] at hx
  obtain ⟨n, hn, rfl⟩ := hx
  have hk := Qam hn
  have h1 : Qbj (k + 1) := by unfold Qbj; omega
  have hl : (((Qa9 c).take k).map eI).flatten.length = k * 1 := by rw [Qkf, Xt, Nat.min_eq_left (by omega)]
  have ht : (((Qa9 c).take k).map eI).flatten ++ [V.i n] = (((Qa9 c).take (k + 1)).map eI).flatten := by rw [Qb7 hn]; simp [eI]
  simp only [seqH, h1, hl, ht, Qay _ _ _ (Qix _), Zt, Zv, Qa7, Qab, Qdt, ↓Qc1, rnQ, rndQ, updL, cutH, putB, Qal, Qa4, Qa1, Fam.step, Qaf, Qbu, Qav, putB, nv, sv, Qcl, evO, opv, qv, ldV, Qap, putAt, Qba, Qbg, V.cells, Qaq, Qb8, Qaa, Qa5, cutV, cutL, cutB, Qa2, Qbb, Qa0, Qa3, ↓reduceIte, Nat.reduceEqDiff, Nat.reduceMul, Nat.reduceLT, Nat.reduceLeDiff, Qa, Qb, Qz, Q0, Qe, Qf, Qj, Qq, Zh, Qi, Q2, Qs, Qn, Qr, Qk, Qg, Qm, Za, Zp, Q3, Xc, vw_i, Qh, Qu, Qo, Qd, true_and, and_self, reduceCtorEq, not_false_eq_true, ne_eq, eI]
 ·intro _
  simp only [seqH, ysT0, Qa7, Qa8, Qac, Qa6, ↓Qc1, endK, Qad, Qal, Qa4, Qa1, Fam.step, Qaf, evO, opv, qv, ldV, cutV, cutL, Qa2, Qa0, Qa3, ↓reduceIte, Nat.reduceLT, Nat.reduceLeDiff, Qa, Qb, Qe, Qf, Qq, Qn, Qg, rvs, rv1, Qh, Qd, and_self, Qp]
end Go.C06
set_option linter.unusedSimpArgs false
set_option linter.unusedVariables false
namespace Go.C06
open Go.Fam Go.Proofs
variable {Γ : Gam}
noncomputable def H10 : Gam := H9.extH 99 (hpG (fun c : Cane => [.z 1, .fn 100 [.pa (Qae c)]]) (fun _ => []) (fun vs _ => match vs with | [_, .fn _ [.pa cs]] => Qcn cs | _ => Qcn []) OkC
 fun c r hp => r = .rf 1 (Qa9 c).length 0 (Qa9 c).length 1 ∧ hp = seqH (Qa9 c) (Qa9 c).length)
theorem Quf : GOk Try.prog H10 :=
 okH9.extH (f := 99) (fun a w => Try.call99 a w) (Qlm fun c h => ⟨fun r hp' _ y hy => (by cases hy), W99 c h⟩)
theorem k99 (c : Cane) : H10.h 99 [.z 1, .fn 100 [.pa (Qae c)]] [] = (OkC c, fun r hp => r = .rf 1 (Qa9 c).length 0 (Qa9 c).length 1 ∧ hp = seqH (Qa9 c) (Qa9 c).length) :=
 (show H10.h 99 _ _ = hpG (fun c : Cane => [.z 1, .fn 100 [.pa (Qae c)]]) (fun _ => []) (fun vs _ => match vs with | [_, .fn _ [.pa cs]] => Qcn cs | _ => Qcn []) OkC
  (fun c r hp => r = .rf 1 (Qa9 c).length 0 (Qa9 c).length 1 ∧ hp = seqH (Qa9 c) (Qa9 c).length) [.z 1, .fn 100 [.pa (Qae c)]] [] from rfl).trans (Qll (eA := fun c : Cane => [.z 1, .fn 100 [.pa (Qae c)]]) (eH := fun _ => []) c (Qdl c))
theorem W85 (c : Cane) (h : OkC c) : Qah Try.prog 85 [.fn 100 [.pa (Qae c)]] (.sl 1 ((Qa9 c).map eI)) := by
 refine Qag Quf hmix Try.func85 cb85 cc85 cs85 cn85 ?_
 have g1 := k99 c
 unfold Qae at g1
 simp only [rc85, rs85, g1, Qa7, Qa8, Qac, Qa6, Qj7, Qad, Qa4, Qa1, Fam.step, Qaf, Qav, evO, opv, qv, Qa2, Qa0, Qa3, ↓reduceIte, Qa, Qb, Qk, endQ, rvs, rv1, resV, zipA, true_and, and_self, reduceCtorEq, Qae]
 refine ⟨h, ?_⟩
 rintro r hp ⟨rfl, rfl⟩
 simp only [seqH, Z5, Qkf, Zq, Nat.mul_one, Qid, vw_I, ↓reduceIte, Qg, Qm, Qfv, Qh, and_self]
def dF1 : List V → Cane | [.fn _ [.pa cs]] => Qcn cs | _ => Qcn []
def eF1 (c : Cane) : List V := [.fn 100 [.pa (Qae c)]]
def eIL (l : List Int) : List V := [.sl 1 (l.map eI), .fn 84 []]
def dIL : List V → List Int | [.sl _ l, _] => l.map dI | _ => []
theorem Qwt (l : List Int) : dIL (eIL l) = l := by simp [dIL, eIL, Function.comp_def, Qg3]
noncomputable def H11 : Gam := (H10.ext 85 (fnG eF1 dF1 OkC Qa9 fun l => .sl 1 (l.map eI))).ext 98 (fnG eIL dIL (fun l => l.length < 10000000) (idxOf fun n => !Qan n 1 90) .i)
theorem Qx4 : GOk Try.prog H11 := (Quf.ext (f := 85) (fun a w => Try.call85 a w) (Qb0 (e := eF1) (d := dF1) (g := Qa9) (eb := fun l => .sl 1 (l.map eI)) fun c h => W85 c h)).ext (f := 98) (fun a w => Try.call98 a w)
 (Qb0 fun l h => P98 Quf l 84 (by decide) [] _ rfl rfl h fun n _ => h84 n)
theorem h85 (c : Cane) : H11 85 [.fn 100 [.pa (Qae c)]] = (OkC c, .sl 1 ((Qa9 c).map eI)) :=
 (show H11 85 _ = fnG eF1 dF1 OkC Qa9 (fun l => .sl 1 (l.map eI)) (eF1 c) from rfl).trans (Qb6 _ (Qdl c))
theorem h98 (l : List Int) : H11 98 [.sl 1 (l.map eI), .fn 84 []] = (l.length < 10000000, .i (idxOf (fun n => !Qan n 1 90) l)) :=
 (show H11 98 _ = fnG eIL dIL (fun l => l.length < 10000000) (idxOf fun n => !Qan n 1 90) .i (eIL l) from rfl).trans (Qb6 _ (Qwt _))
theorem W83 (l : List Int) (h : l.length < 10000000) : Qah Try.prog 83 [.sl 1 (l.map eI), .fn 84 []] (.b (l.any fun n => !Qan n 1 90)) := by
 refine Qag Qx4 hmix Try.func83 cb83 cc83 cs83 cn83 ?_
 simp only [rc83, rs83, h98, Qa7, Qa8, Qac, Qa6, Qad, Qa4, Qa1, Fam.step, Qaf, evO, opv, qv, binV, Qar, Qaa, Qa5, flat, Qa2, Qa0, Qa3, ↓reduceIte, Nat.reduceEqDiff, Nat.reduceLT, Qa, Qb, Qk, endQ, rvs, rv1, resV, vw_b, Qax, Qh4, zipA, Qh, V.b.injEq, Qo, Qd, true_and, and_true, and_self, implies_true, reduceCtorEq]
 exact ⟨h, by rw [Qip]⟩
noncomputable def H12 : Gam := H11.ext 83 (fnG eIL dIL (fun l => l.length < 10000000) (fun l => l.any fun n => !Qan n 1 90) .b)
theorem Qx5 : GOk Try.prog H12 := Qx4.ext (f := 83) (fun a w => Try.call83 a w) (Qb0 fun l h => W83 l h)
theorem h83 (l : List Int) : H12 83 [.sl 1 (l.map eI), .fn 84 []] = (l.length < 10000000, .b (l.any fun n => !Qan n 1 90)) :=
 (show H12 83 _ = fnG eIL dIL (fun l => l.length < 10000000) (fun l => l.any fun n => !Qan n 1 90) .b (eIL l) from rfl).trans (Qb6 _ (Qwt _))
theorem Qvb (s : Span) (m : Int)  : H12 82 [.ag (Qau s), .i m] = (True, .b (Qbl s m)) := h82 s m
theorem Qv9 (c : Cane)  : H12 28 [.ag (Qae c)] = (True, .i (Qca c)) := h28 c
theorem Qva (c : Cane) (i : Int)  : H12 67 [.ag (Qae c), .i i] = (Qdo c i, .i (Qcp c i)) := h67 c i
theorem Qvd (c : Cane)  : H12 86 [.ag (Qae c)] = (True, .fn 100 [.pa (Qae c)]) := h86 c
theorem Qvc (c : Cane)  : H12 85 [.fn 100 [.pa (Qae c)]] = (OkC c, .sl 1 ((Qa9 c).map eI)) := h85 c
def Qfw (c : Cane) (l : List Int) : Bool := (List.range l.length).any fun i => decide (Qcp c i < l.getD i 0)
def stE (c : Cane) (w : Span) (l : List Int) : Int :=
 if Qca c ≠ 0 then Qca c else if 6 < l.length ∨ Qbl w 540 = false ∨ (l.any fun n => !Qan n 1 90) = true then 1 else if Qfw c l = true then 61 else if Qa9 c = [] then 3 else 0
def stL (c : Cane) (w : Span) (l : List Int) : List Int := if stE c w l = 0 then Qa9 c else []
theorem Qhy {c : Cane} : Qca c = 0 ↔ OkC c := by
 rw [← Qqn]
 unfold Qca
 split <;> simp_all
theorem OkC.most {c : Cane} (h : OkC c) {i : Int} (hi : tame 1000 i) : Qdo c i := by
 have h1 := h.limit
 have h2 := h.tire
 exact ⟨by unfold tame; omega, by unfold tame; omega, hi⟩
theorem W59 (c : Cane) (w : Span) (l : List Int) : Qah Try.prog 59 [.ag (Qae c), .ag (Qau w), .sl 1 (l.map eI)] (.tp [.sl 1 ((stL c w l).map eI), .i (stE c w l)]) := by
 refine Qag Qx5 hmix Try.func59 cb59 cc59 cs59 cn59 ?_
 have g1 := Qv9 c
 have g2 := Qvb w 540
 have g3 := Qvd c
 have g4 := Qvc c
 unfold Qae at g1 g3 g4
 unfold Qau at g2
 simp only [rc59, rs59, g1, Qaj, Qa7, Qa8, Qai, Qc3, Qab, Qac, Qa6, Qad, Qa4, Qa1, Fam.step, Qaf, Qb9, Qaz, ug, evO, opv, qv, binV, ldV, lenV, Qar, V.cells, Qaq, Qaa, Qa5, flat, Qa2, Qa0, Qa3, ↓reduceIte, Nat.reduceEqDiff, Nat.reduceAdd, Nat.reduceLT, Nat.reduceLeDiff, Qa, Qb, Qz, Q0, Qe, Qf, Qi, Qs, Qk, Qw, endQ, rvs, rv1, resV, vw_i, vw_z, Qax, Qaw, Qci, Qh4, zipA, Qh, Qu, Q1, Qo, Qd, decide_eq_true_eq, decide_eq_false_iff_not, true_and, and_true, and_self, false_implies, implies_true, reduceCtorEq, beq_false, Q4, imp_self, Qp, Zd, Classical.not_not, Qau, Qae]
 refine ⟨fun h => ?_, fun h => ?_⟩
 ·have e : stE c w l = Qca c := by unfold stE; rw [if_pos h]
  have e2 : stL c w l = [] := by unfold stL; rw [e, if_neg h]
  simp only [e, e2, Qb]
 ·have hC := Qhy.1 h
  by_cases h6 : (6 : Int) < l.length
  ·have e : stE c w l = 1 := by unfold stE; rw [if_neg (by simp [h]), if_pos (.inl (by omega))]
   have e2 : stL c w l = [] := by unfold stL; rw [e]; rfl
   simp only [h6, e, e2, Qdp, Qaa, Qb, Qax, Zi, Qd, Zr, decide_true, and_true, and_self, false_and, forall_const, false_implies, not_true_eq_false, imp_self]
  ·have hl7 : l.length < 10000000 := by omega
   simp only [h6, g2, h83, hl7, Qak, Qaa, flat, ↓reduceIte, Qax, Qd, decide_false, true_and, and_true, and_self, forall_const, implies_true, not_false_eq_true, Xp, Zo, Q4, Qje, Z8, imp_self]
   refine ⟨fun hb => ?_, fun hb => ?_⟩
   ·have e : stE c w l = 1 := by
     unfold stE
     rw [if_neg (by simp [h]), if_pos]
     by_cases h1 : Qbl w 540 = true
     ·right; right
      simpa [h1] using hb
     ·right; left; simpa using h1
    have e2 : stL c w l = [] := by unfold stL; rw [e]; rfl
    simp only [e, e2, Qb]
   ·have hns : ¬ (6 < l.length ∨ Qbl w 540 = false ∨ (l.any fun n => !Qan n 1 90) = true) := by
     by_cases h1 : Qbl w 540 = true
     ·simp [h1] at hb ⊢
      exact ⟨by omega, hb⟩
     ·simp [h1] at hb
    refine Qc5 l.length (fun i => ⟨lkp [(3, .pa (Qae c)), (29, .sl 1 (l.map eI)), (30, .i l.length), (31, .i i)], []⟩) (fun i => ∀ j : Nat, j < i → ¬ Qcp c j < l.getD j 0) ?_ ?_ ?_ ?_
    ·simp only [Zg, kp, Qa0, Qa3, ↓reduceIte, Nat.reduceEqDiff, Qa, Qb, Qae]
    ·intro j hj; omega
    ·intro i hi hcr
     obtain ⟨n, hn⟩ : ∃ n, l[i]? = some n := ⟨_, Ql hi⟩
     have hd : l.getD i 0 = n := by rw [Qc, hn]; rfl
     have hlt : (i : Int) < l.length := by omega
     have h4 : inI ((i : Int) + 1) := by unfold inI; omega
     have g5 := Qva c i
     unfold Qae at g5
     have hm := hC.most (i := i) (by unfold tame; omega)
     simp only [hn, hlt, g5, hm, h4, Q5, Q6, Qaj, Qa7, Qa8, Qai, Qc3, Qab, Qac, Qa6, Qad, Qal, Qa4, Qa1, Fam.step, Qaf, evO, opv, qv, binV, ldV, iadV, Qar, Qaa, Qa5, flat, kp, Qa2, Qa0, Qa3, ↓reduceIte, Nat.reduceEqDiff, Nat.reduceAdd, Nat.reduceLT, Nat.reduceLeDiff, Qa, Qb, Qe, Qf, Qi, Qs, Qn, Qk, Qw, Qt, endQ, rvs, rv1, resV, vw_i, vw_z, Qax, Qaw, Qci, Q7, Qh, Qo, Qd, decide_true, decide_eq_true_eq, true_and, and_true, and_self, implies_true, Q8, Qp, Q9, Qc, Qy, Qae, eI]
     refine ⟨fun hcr2 => ?_, fun hcr2 => ?_⟩
     ·have e0 : Qfw c l = true := by
       unfold Qfw
       rw [Z4]
       exact ⟨i, by simpa using hi, by rw [hd]; simpa using hcr2⟩
      have e : stE c w l = 61 := by unfold stE; rw [if_neg (by simp [h]), if_neg hns, if_pos e0]
      have e2 : stL c w l = [] := by unfold stL; rw [e]; rfl
      simp only [e, e2, Qb]
     ·intro j hj
      by_cases hji : j < i
      ·rw [← Qc]; exact hcr j hji
      ·have : j = i := by omega
       subst this
       rw [← Qc, hd]; exact hcr2
    ·intro hcr
     have e0 : ¬ Qfw c l = true := by
      unfold Qfw
      rw [Z4]
      rintro ⟨i, hi, hi2⟩
      exact hcr i (by simpa using hi) (by simpa using hi2)
     simp only [g3, g4, Qaj, Qa7, Qa8, Qai, Qc3, Qat, Qac, Qa6, Qad, Qal, Qa4, Qa1, Fam.step, Qaf, evO, opv, qv, binV, ldV, lenV, Qar, Qaa, Qa5, flat, Qa2, Qa0, Qa3, ↓reduceIte, Nat.reduceEqDiff, Nat.reduceAdd, Nat.reduceLT, Nat.reduceLeDiff, Qa, Qb, Qe, Qf, Qi, Qs, Qk, Qw, endQ, rvs, rv1, resV, vw_i, vw_z, Qax, Qkv, Qaw, Qci, Qh4, Zs, Qh, Qo, Qd, decide_false, decide_eq_true_eq, true_and, and_true, and_self, imp_self, Qp, Qae]
     refine ⟨hC, fun ht => ?_, fun ht => ?_⟩
     ·have ht : Qa9 c = [] := Z9 (by omega)
      have e : stE c w l = 3 := by unfold stE; rw [if_neg (by simp [h]), if_neg hns, if_neg e0, if_pos ht]
      have e2 : stL c w l = [] := by unfold stL; rw [e]; rfl
      simp only [e, e2, Qb]
     ·have ht : ¬ Qa9 c = [] := fun e => by rw [e] at ht; simp at ht
      have e : stE c w l = 0 := by unfold stE; rw [if_neg (by simp [h]), if_neg hns, if_neg e0, if_neg ht]
      have e2 : stL c w l = Qa9 c := by unfold stL; rw [if_pos e]
      simp only [e, e2]
noncomputable def H13 : Gam := H12.ext 59 (fnG eCSL dCSL (fun _ => True) (fun a => (stL a.1 a.2.1 a.2.2, stE a.1 a.2.1 a.2.2)) fun r => .tp [.sl 1 (r.1.map eI), .i r.2])
theorem Qx6 : GOk Try.prog H13 := Qx5.ext (f := 59) (fun a w => Try.call59 a w) (Qb0 (e := eCSL) (d := dCSL) (ok := fun _ => True) (g := fun a => (stL a.1 a.2.1 a.2.2, stE a.1 a.2.1 a.2.2)) (eb := fun r => .tp [.sl 1 (r.1.map eI), .i r.2]) fun a _ => W59 a.1 a.2.1 a.2.2)
theorem h59 (c : Cane) (w : Span) (l : List Int) : H13 59 [.ag (Qae c), .ag (Qau w), .sl 1 (l.map eI)] = (True, .tp [.sl 1 ((stL c w l).map eI), .i (stE c w l)]) :=
 (show H13 59 _ = fnG eCSL dCSL (fun _ => True) (fun a => (stL a.1 a.2.1 a.2.2, stE a.1 a.2.1 a.2.2)) (fun r => .tp [.sl 1 (r.1.map eI), .i r.2]) (eCSL (c, w, l)) from rfl).trans (Qb6 _ (Qwr _))
theorem Qve (a b : Int)  : H13 87 [.i a, .i b] = (tame 1000000 a ∧ tame 1000000 b, .i (Qbm a b)) := h87 a b
def Qb4 (l : List Int) (k : Int) : Int := (l.map fun n => n - Qbm n k).sum
def Qdc (l : List Int) : Prop := l.length ≤ 100 ∧ ∀ n ∈ l, tame 1000 n
theorem Qdh {n k : Int} (hn : tame 1000 n) (hk : tame 1000 k) : tame 1000000 (Qbm n k) := Qri (Qfl hn hk (by decide) (by decide))
theorem Qjk {k : Int} (hk : tame 1000 k) : ∀ {l : List Int}, (∀ n ∈ l, tame 1000 n) → tame (2000000 * l.length) (Qb4 l k) := by
 intro l
 induction l with
 | nil => intro _; simp [Qb4, tame]
 | cons n l ih =>
  intro h
  have h1 := Qdh (h n (by simp)) hk
  have h2 := h n (by simp)
  have h3 := ih fun m hm => h m (by simp [hm])
  unfold Qb4 at h3 ⊢
  unfold tame at *
  simp only [Qa, List.sum_cons, Qe, Q5, Q6]
  omega
theorem Qjj {l : List Int} {i : Nat} {n k : Int} (h : l[i]? = some n) : Qb4 (l.take (i + 1)) k = Qb4 (l.take i) k + (n - Qbm n k) := by
 unfold Qb4
 rw [Qb7 h, Xx, Xy]; simp
theorem W60 (l : List Int) (k : Int) (h : Qdc l ∧ tame 1000 k) : Qah Try.prog 60 [.sl 1 (l.map eI), .i k] (.i (Qb4 l k)) := by
 refine Qag Qx6 hmix Try.func60 cb60 cc60 cs60 cn60 ?_
 simp only [rc60, rs60, Qa7, Qa8, Qab, Qa6, Qad, Qa4, Qa1, Fam.step, Qaf, evO, opv, qv, lenV, Qa2, Qa0, Qa3, ↓reduceIte, Nat.reduceEqDiff, Qa, Qb, zipA, Qh, true_and, reduceCtorEq, Qp]
 have hl := h.1.1
 refine Qc4 l.length (fun i => ⟨lkp [(1, .i k), (4, .i (Qb4 (l.take i) k)), (7, .sl 1 (l.map eI)), (8, .i l.length), (9, .i i)], []⟩) ?_ ?_ ?_
 ·simp only [Zg, Qb4, List.sum_nil, kp, Qa0, Qa3, ↓reduceIte, Nat.reduceEqDiff, Qa, Qb, Q2]
 ·intro i hi
  obtain ⟨n, hn⟩ : ∃ n, l[i]? = some n := ⟨_, Ql hi⟩
  have hlt : (i : Int) < l.length := by omega
  have h1 := h.1.2 n (Qx hn)
  have h2 := Qdh h1 h.2
  have h3 := Qjk h.2 (l := l.take i) fun m hm => h.1.2 m (List.mem_of_mem_take hm)
  rw [Xt] at h3
  have h4 : tame 1000000 n ∧ tame 1000000 k := by have := h.2; unfold tame at *; omega
  have h5 : inI (n - Qbm n k) ∧ inI (Qb4 (l.take i) k + (n - Qbm n k)) ∧ inI ((i : Int) + 1) := by unfold tame at *; unfold inI; omega
  simp only [hn, hlt, Qve, h4, h5, Qjj hn, Q5, Q6, Qaj, Qa7, Qa8, Qai, Qab, Qa6, Qad, Qal, Qa4, Qa1, Fam.step, Qaf, evO, opv, qv, binV, ldV, iadV, Qar, Qaa, Qa5, flat, kp, Qa2, Qa0, Qa3, ↓reduceIte, Nat.reduceEqDiff, Nat.reduceLT, Nat.reduceLeDiff, Qa, Qb, Qe, Qf, Qn, Qk, Qt, vw_i, Q7, Qh, Qo, Qd, decide_true, and_self, implies_true, Q8, Qp, Q9, Qc, Qy, eI]
 ·simp only [Z5, Qa7, Qa8, Qai, Qat, Qac, Qa6, Qad, Qal, Qa4, Qa1, Fam.step, Qaf, evO, opv, qv, binV, Qa2, Qa0, Qa3, ↓reduceIte, Nat.reduceEqDiff, Qa, Qb, endQ, rvs, rv1, resV, vw_i, Zs, Qd, decide_false, and_self]
noncomputable def H14 : Gam := H13.ext 60 (fnG eLI dLI (fun a => Qdc a.1 ∧ tame 1000 a.2) (fun a => Qb4 a.1 a.2) .i)
theorem Qom : GOk Try.prog H14 := Qx6.ext (f := 60) (fun a w => Try.call60 a w) (Qb0 fun a h => W60 a.1 a.2 h)
theorem h60 (l : List Int) (k : Int) : H14 60 [.sl 1 (l.map eI), .i k] = (Qdc l ∧ tame 1000 k, .i (Qb4 l k)) :=
 (show H14 60 _ = fnG eLI dLI (fun a => Qdc a.1 ∧ tame 1000 a.2) (fun a => Qb4 a.1 a.2) .i (eLI (l, k)) from rfl).trans (Qb6 _ (Qty _))
theorem Qp3 (c : Cane) (w : Span) (l : List Int)  : H14 59 [.ag (Qae c), .ag (Qau w), .sl 1 (l.map eI)] = (True, .tp [.sl 1 ((stL c w l).map eI), .i (stE c w l)]) := h59 c w l
theorem Qvf (n lo hi : Int)  : H14 72 [.i n, .i lo, .i hi] = (True, .b (Qan n lo hi)) := h72 n lo hi
theorem Qvg (a b : Int)  : H14 87 [.i a, .i b] = (tame 1000000 a ∧ tame 1000000 b, .i (Qbm a b)) := h87 a b
theorem W19 (c : Cane) : Qah Try.prog 19 [.ag (Qae c)] (.tp [.sl 1 ((stL c ⟨0, 0⟩ []).map eI), .i (stE c ⟨0, 0⟩ [])]) := by
 refine Qag Qom hmix Try.func19 cb19 cc19 cs19 cn19 ?_
 have g1 := Qp3 c ⟨0, 0⟩ []
 unfold Qae Qau at g1
 simp only [Qb] at g1
 simp only [rc19, rs19, g1, Qa7, Qa8, Qac, Qa6, Qad, Qa4, Qa1, Fam.step, Qaf, evO, opv, qv, ldV, Qar, Qap, Qba, V.cells, Qaq, Qaa, Qa5, flat, Qd3, Qa2, Qa0, Qa3, ↓reduceIte, Nat.reduceEqDiff, Nat.reduceAdd, Nat.reduceLT, Nat.reduceLeDiff, Qa, Qb, Qe, Qf, Qi, Qs, Qk, Qg, Qm, Qw, Qt, endQ, rvs, rv1, resV, vw_i, vw_z, Qax, Qaw, Qci, zipA, Qh, Qu, Q1, Qo, Qd, and_self, imp_self, Qae]
theorem Qox {c : Cane} {w : Span} {l : List Int} (h : stE c w l = 0) : OkC c ∧ l.length ≤ 6 ∧ Qbl w 540 = true ∧ (∀ n ∈ l, 1 ≤ n ∧ n ≤ 90) ∧ (∀ i : Nat, i < l.length → l.getD i 0 ≤ Qcp c i) ∧ Qa9 c ≠ [] ∧ stL c w l = Qa9 c := by
 have e2 : stL c w l = Qa9 c := by unfold stL; rw [if_pos h]
 unfold stE at h
 split at h
 ·rename_i h'; exact absurd h h'
 ·rename_i h1
  split at h
  ·cases h
  ·rename_i h2
   split at h
   ·cases h
   ·rename_i h3
    split at h
    ·cases h
    ·rename_i h4
     simp only [not_or] at h2
     refine ⟨Qhy.1 (by simpa using h1), by omega, by simpa using h2.2.1, fun n hn => ?_, fun i hi => ?_, h4, e2⟩
     ·have := h2.2.2
      simp [Qan] at this
      exact this n hn
     ·unfold Qfw at h3
      simp only [Z4, not_exists, not_and, X0, decide_eq_true_eq] at h3
      have := h3 i hi
      omega
theorem Qhd {c : Cane} {k : Int} : k ∈ Qa9 c ↔ (c.spring.low ≤ k ∧ k ≤ c.spring.high) ∧ Qe8 c k = true := by
 unfold Qa9
 rw [List.mem_filter, Qkk]
def Qp6 (c : Cane) (l : List Int) : Span := ⟨Qb4 l ((Qa9 c).getD ((Qa9 c).length - 1) 0), Qb4 l ((Qa9 c).getD 0 0)⟩
def Qd1 (c : Cane) (l : List Int) : Span × Int := if stE c ⟨0, 0⟩ l = 0 then (Qp6 c l, 0) else (⟨0, 0⟩, stE c ⟨0, 0⟩ l)
theorem W20 (c : Cane) (l : List Int) : Qah Try.prog 20 [.ag (Qae c), .sl 1 (l.map eI)] (.tp [.ag (Qau (Qd1 c l).1), .i (Qd1 c l).2]) := by
 refine Qag Qom hmix Try.func20 cb20 cc20 cs20 cn20 ?_
 have g1 := Qp3 c ⟨0, 0⟩ l
 unfold Qae Qau at g1
 simp only [rc20, rs20, g1, Qaj, Qa7, Qb5, Qa8, Qai, Qc3, Qac, Qa6, Qb2, optL, putB, Qad, Qa4, Qa1, Fam.step, Qaf, Qbu, Qav, runX, eff, Qb1, fpR, fpQ, fpV, Qbi, hits, putB, nv, sv, evO, opv, qv, binV, ldV, iadV, lenV, Qar, Qap, putAt, Qba, V.cells, Qaq, Qb8, Qaa, Qa5, flat, Qd3, Qa2, Qbb, Qa0, Qa3, ↓reduceIte, Nat.reduceEqDiff, Nat.reduceAdd, Nat.reduceLT, Nat.reduceLeDiff, Xl, Int.reduceLE, Qa, Qb, Qz, Q0, Qe, Qf, Qj, Qq, Zh, Qi, Q2, Qs, Qv, Qr, Qk, Qg, Qm, Qw, Qt, Ze, Za, Q3, Zf, Z0, endQ, rvs, rv1, resV, vw_i, Qax, Qaw, Qci, zipA, Qh, Qu, Q1, Zz, Zl, Qo, Z6, Zi, Zm, Qd, decide_eq_false_iff_not, true_and, and_true, and_self, reduceCtorEq, Xf, Zn, Zc, Zb, Q4, imp_self, Qp, Qc, Qy, Classical.not_not, Qau, Qae]
 refine ⟨fun h => ?_, fun h => ?_⟩
 ·simp only [Qd1, if_neg h]
 ·obtain ⟨h1, h2, h3, h4, h5, h6, h7⟩ := Qox h
  have hlen := Qd7 c h1
  have hpos : 0 < (Qa9 c).length := Zy.2 h6
  obtain ⟨a, ha⟩ : ∃ a, (Qa9 c)[(Qa9 c).length - 1]? = some a := ⟨_, Ql (by omega)⟩
  obtain ⟨b, hb⟩ : ∃ b, (Qa9 c)[0]? = some b := ⟨_, Ql hpos⟩
  have ha2 := (Qhd.1 (Qx ha)).1
  have hb2 := (Qhd.1 (Qx hb)).1
  have k1 := h1.low
  have k2 := h1.high
  have hs : Qdc l := ⟨by omega, fun n hn => by have := h4 n hn; unfold tame; omega⟩
  have e1 : ((Qa9 c).length : Int) - 1 = (((Qa9 c).length - 1 : Nat) : Int) := by omega
  have i1 : inI (((Qa9 c).length - 1 : Nat) : Int) := by unfold inI; omega
  have i2 : (((Qa9 c).length - 1 : Nat) : Int) < (Qa9 c).length := by omega
  have i3 : (0 : Int) < (Qa9 c).length := by omega
  have t1 : tame 1000 a := by unfold tame; omega
  have t2 : tame 1000 b := by unfold tame; omega
  simp only [h7, e1, i1, i2, i3, ha, hb, h60, hs, t1, t2, Qd1, h, Qp6, Qb8, Qaa, flat, ↓reduceIte, Nat.reduceAdd, Nat.reduceLeDiff, Qa, Qb, Qz, Q0, Qe, Qf, Qj, Qq, Zh, Qi, Q2, Qs, Qn, Qv, Qr, Qk, Qt, vw_i, Q7, Qh, Qu, Qd, and_self, implies_true, Q8, Q9, Qc, eI]
end Go.C06
set_option linter.unusedSimpArgs false
set_option linter.unusedVariables false
namespace Go.C06
open Go.Fam Go.Proofs
variable {Γ : Gam}
def Qcu (l : List Int) (w : Span) (ks : List Int) : Nat := ks.countP fun k => Qan (Qb4 l k) w.low w.high
def fitK (good all : Nat) : Int := if good = all then 1 else if good = 0 then 2 else 3
def Qgn (c : Cane) (l : List Int) (w : Span) : Int × Int := if stE c w l = 0 then (fitK (Qcu l w (Qa9 c)) (Qa9 c).length, 0) else (0, stE c w l)
theorem Qd8 {c : Cane} (h : OkC c) {k : Int} (hk : k ∈ Qa9 c) : 0 ≤ k ∧ k ≤ 500 := by
 have := (Qhd.1 hk).1
 have := h.low
 have := h.high
 omega
theorem W43 (c : Cane) (l : List Int) (w : Span) : Qah Try.prog 43 [.ag (Qae c), .sl 1 (l.map eI), .ag (Qau w)] (.tp [.i (Qgn c l w).1, .i (Qgn c l w).2]) := by
 refine Qag Qom hmix Try.func43 cb43 cc43 cs43 cn43 ?_
 have g1 := Qp3 c w l
 unfold Qae Qau at g1
 simp only [rc43, rs43, g1, Qaj, Qa7, Qa8, Qai, Qc3, Qab, Qac, Qa6, Qad, Qa4, Qa1, Fam.step, Qaf, evO, opv, qv, binV, ldV, lenV, Qar, V.cells, Qaq, Qaa, Qa5, flat, Qd3, Qa2, Qa0, Qa3, ↓reduceIte, Nat.reduceEqDiff, Nat.reduceAdd, Nat.reduceLT, Nat.reduceLeDiff, Qa, Qb, Qe, Qf, Qi, Qs, Qk, Qg, Qm, Qw, Qt, endQ, rvs, rv1, resV, vw_i, Qax, Qaw, Qci, zipA, Qh, Qu, Q1, Qo, Qd, decide_eq_false_iff_not, true_and, and_self, reduceCtorEq, Q4, imp_self, Qp, Classical.not_not, Qau, Qae]
 refine ⟨fun h => ?_, fun h => ?_⟩
 ·simp only [Qgn, if_neg h]
 ·obtain ⟨h1, h2, h3, h4, h5, h6, h7⟩ := Qox h
  have hlen := Qd7 c h1
  have hs : Qdc l := ⟨by omega, fun n hn => by have := h4 n hn; unfold tame; omega⟩
  simp only [h7]
  refine Qc4 (Qa9 c).length (fun i => ⟨lkp [(1, .sl 1 (l.map eI)), (5, .pa (Qau w)), (8, .sl 1 ((Qa9 c).map eI)), (10, .i (Qcu l w ((Qa9 c).take i))), (23, .sl 1 ((Qa9 c).map eI)), (24, .i (Qa9 c).length), (25, .i i)], []⟩) ?_ ?_ ?_
  ·simp only [Zg, Qcu, Xw, kp, Qa0, Qa3, ↓reduceIte, Nat.reduceEqDiff, Qa, Qb, Q2, Qau]
  ·intro i hi
   obtain ⟨k, hk⟩ : ∃ k, (Qa9 c)[i]? = some k := ⟨_, Ql hi⟩
   have hlt : (i : Int) < (Qa9 c).length := by omega
   have hkk := Qd8 h1 (Qx hk)
   have t1 : tame 1000 k := by unfold tame; omega
   have hg : Qcu l w ((Qa9 c).take i) ≤ i := Xh Xi (by simp; omega)
   have h4 : inI ((i : Int) + 1) ∧ inI ((Qcu l w ((Qa9 c).take i) : Int) + 1) := by unfold inI; omega
   have hct : ∀ q : Bool, Qan (Qb4 l k) w.low w.high = q → (Qcu l w ((Qa9 c).take (i + 1)) : Int) = Qcu l w ((Qa9 c).take i) + (if q = true then 1 else 0) := by
    rintro q rfl
    unfold Qcu
    rw [Qb7 hk, Xo, Xj]
    split <;> simp
   simp only [hk, hlt, h60, hs, t1, Qvf, Q5, Q6, Qaj, Qa7, Qb5, Qa8, Qai, Qc3, Qab, Qa6, Qb2, Qad, Qal, Qa4, Qa1, Fam.step, Qaf, runX, eff, Qb1, fpR, fpQ, fpV, Qbi, hits, evO, opv, qv, binV, ldV, iadV, Qar, Qaa, Qa5, flat, kp, Qa2, Qa0, Qa3, ↓reduceIte, Nat.reduceEqDiff, Nat.reduceAdd, Nat.reduceLT, Nat.reduceLeDiff, Qa, Qb, Q0, Qe, Qf, Qj, Qq, Qn, Qv, Qr, Qk, Qw, Qt, Ze, Q3, Zf, vw_i, Qax, Q7, Qh, Qu, Q1, Zl, Qo, Zi, Zm, Qd, decide_true, true_and, and_self, implies_true, Q8, Zn, Zb, Qp, Q9, Qc, Qy, Zd, Qau, eI]
   refine ⟨fun e => ?_, fun e => ?_⟩
   ·simp only [h4, hct true e, ↓reduceIte, and_self]
   ·simp only [h4, hct false e, Xq, ↓reduceIte, Qd, and_self]
  ·simp only [Z5, Qgn, h, fitK, Qaj, Qa7, Qa8, Qai, Qc3, Qab, Qat, Qac, Qa6, Qad, Qal, Qa4, Qa1, Fam.step, Qaf, evO, opv, qv, binV, ldV, lenV, Qa2, Qa0, Qa3, ↓reduceIte, Nat.reduceEqDiff, Qa, Qb, Qw, endQ, rvs, rv1, resV, vw_i, Qci, Zs, Qd, decide_false, decide_eq_true_eq, true_and, and_self, Qp, Qau]
   refine ⟨fun e => ?_, fun e => ?_⟩
   ·have e : Qcu l w (Qa9 c) = (Qa9 c).length := by omega
    simp only [e, ↓reduceIte]
   ·have e : ¬ Qcu l w (Qa9 c) = (Qa9 c).length := by omega
    simp only [e, ↓reduceIte]
    refine ⟨fun e2 => ?_, fun e2 => ?_⟩
    ·have e2 : Qcu l w (Qa9 c) = 0 := by omega
     simp only [e2, ↓reduceIte]
    ·have e2 : ¬ Qcu l w (Qa9 c) = 0 := by omega
     simp only [e2, ↓reduceIte]
structure Ang where
 low : Int
 high : Int
def Qkw (a : Ang) (b : Int) (l : List Int) : Ang := ⟨a.low + b - Qbm b (l.getD (l.length - 1) 0), a.high + b - Qbm b (l.getD 0 0)⟩
def Qjt (a : Ang) (b : Int) (l : List Int) : Prop := (tame 1000000 a.low ∧ tame 1000000 a.high ∧ tame 1000 b) ∧ l ≠ [] ∧ l.length ≤ 1000 ∧ ∀ k ∈ l, tame 1000 k
theorem W68 (a : Ang) (b : Int) (l : List Int) (h : Qjt a b l) : Qah Try.prog 68 [.ag [.i a.low, .i a.high], .i b, .sl 1 (l.map eI)] (.ag [.i (Qkw a b l).low, .i (Qkw a b l).high]) := by
 refine Qag Qom hmix Try.func68 cb68 cc68 cs68 cn68 ?_
 obtain ⟨⟨h1, h2, h3⟩, h4, h5, h6⟩ := h
 have hpos : 0 < l.length := Zy.2 h4
 obtain ⟨x, hx⟩ : ∃ x, l[l.length - 1]? = some x := ⟨_, Ql (by omega)⟩
 obtain ⟨y, hy⟩ : ∃ y, l[0]? = some y := ⟨_, Ql hpos⟩
 have tx := h6 x (Qx hx)
 have ty := h6 y (Qx hy)
 have bx := Qdh h3 tx
 have by' := Qdh h3 ty
 have e1 : (l.length : Int) - 1 = ((l.length - 1 : Nat) : Int) := by omega
 have i1 : inI ((l.length - 1 : Nat) : Int) := by unfold inI; omega
 have i2 : ((l.length - 1 : Nat) : Int) < l.length := by omega
 have i3 : (0 : Int) < l.length := by omega
 have tt : tame 1000000 b ∧ tame 1000000 x ∧ tame 1000000 y := by unfold tame at *; omega
 have ii : inI (a.low + b) ∧ inI (a.low + b - Qbm b x) ∧ inI (a.high + b) ∧ inI (a.high + b - Qbm b y) := by unfold tame at *; unfold inI; omega
 simp only [rc68, rs68, e1, i1, i2, i3, hx, hy, Qvg, tt, ii, Qkw, Qa7, Qb5, Qa8, Qac, Qa6, Qb2, optL, Qad, Qa4, Qa1, Fam.step, Qaf, Qbu, Qav, runX, eff, Qb1, fpR, fpQ, fpV, Qbi, hits, nv, sv, evO, opv, qv, binV, ldV, iadV, lenV, Qar, Qap, putAt, Qba, V.cells, Qaq, Qb8, Qaa, Qa5, flat, Qa2, Qbb, Qa0, Qa3, ↓reduceIte, Nat.reduceEqDiff, Nat.reduceAdd, Nat.reduceLT, Nat.reduceLeDiff, Xl, Int.reduceLE, Qa, Qb, Qz, Q0, Qe, Qf, Qj, Qq, Zh, Qi, Q2, Qs, Qn, Qv, Qr, Qk, Qg, Qw, Qt, Ze, Za, Q3, Zf, Z0, endQ, rvs, rv1, resV, vw_i, Qaw, zipA, Q7, Qh, Qu, Q1, Zz, Zl, Qo, Z6, Zi, Zm, Qd, and_self, implies_true, reduceCtorEq, Q8, Xf, Zn, Zc, Zb, Qp, Q9, Qc, Qy, eI]
theorem W69 (l : List Int) (h : l.length ≤ 1000000) : Qdd Try.prog 69 [.sl 1 (l.map eI)] (.rf 0 1 0 l.length 1) [.cells 1 (l.map eI).flatten] := by
 refine Qi6 Qom hmix Try.func69 cb69 cc69 cs69 cn69 ?_
 simp only [rc69, rs69, Qaj, Qa7, Qa8, Qai, Qc3, Qac, Qa6, Qr7, Qtg, putB, endO, Qad, Qa4, Qa1, Fam.step, Qaf, Qbu, Qav, putB, nv, sv, Qcl, evO, opv, qv, Qap, Qba, Qbg, Qa2, Qa0, Qa3, ↓reduceIte, Nat.reduceEqDiff, Nat.reduceMul, Qa, Qb, Qf, Qr, Qg, Za, Q3, rvs, rv1, resV, zipA, Qh, true_and, and_self, reduceCtorEq, ne_eq, Qp, Zd]
 refine fun b hb => ⟨fun e => ?_, fun e => ?_⟩
 ·have hl : l = [] := by
   cases l with
   | nil => rfl
   | cons x l => exact absurd (hb (by simp)) (by rw [e]; simp)
  subst hl
  simp only [Zv, Qb, Qf, and_self]
 ·have h1 : Qbj l.length := by unfold Qbj; omega
  simp only [h1, Zv, Qf, Qr, and_self]
end Go.C06
set_option linter.unusedSimpArgs false
set_option linter.unusedVariables false
namespace Go.C06
open Go.Fam Go.Proofs
def Poss (c : Cane) (l : List Int) : Prop := ∀ i : Nat, i < l.length → 1 ≤ l.getD i 0 ∧ l.getD i 0 ≤ Qcp c i
def trL (c : Cane) : Int := (Qa9 c).getD ((Qa9 c).length - 1) 0
def trF (c : Cane) : Int := (Qa9 c).getD 0 0
def Qhw (c : Cane) (l : List Int) : List Int := [Qb4 l (trL c), Qb4 l (trF c)]
structure Rch (c : Cane) (w : Span) (n : Nat) (l key : List Int) : Prop where
 len : l.length = n
 poss : Poss c l
 key : key = Qhw c l
 high : Qb4 l (trF c) ≤ w.high
def Sure (c : Cane) (w : Span) (l : List Int) : Prop := Poss c l ∧ w.low ≤ Qb4 l (trL c) ∧ Qb4 l (trF c) ≤ w.high
structure IMap (T : List Int → List Int → Prop) (m : AM (List Int)) : Prop where
 nd : (aks m).Nodup
 two : ∀ k ∈ aks m, k.length = 2
 no : ∀ k, k.length = 2 → aget m k = none → ∀ l, ¬ T l k
 is : ∀ k l, aget m k = some l → T l k
theorem IMap.imp {T T' : List Int → List Int → Prop} {m : AM (List Int)} (h : IMap T m) (he : ∀ l b, T l b ↔ T' l b) : IMap T' m :=
 ⟨h.nd, h.two, fun k h2 hb l ht => h.no k h2 hb l ((he l k).2 ht), fun k l hb => (he l k).1 (h.is k l hb)⟩
theorem IMap.put {T : List Int → List Int → Prop} {m : AM (List Int)} (h : IMap T m) {l0 k0 : List Int} (hk : k0.length = 2) : IMap (fun l k => T l k ∨ l = l0 ∧ k = k0) (aput m k0 l0) := by
 refine ⟨Qky h.nd _ _, fun k hk' => ?_, fun k h2 hb l ht => ?_, fun k l hb => ?_⟩
 ·rw [Qh6, Qnk] at hk'
  rcases hk' with hk' | rfl
  ·exact h.two k hk'
  ·exact hk
 ·rw [Qk1] at hb
  split at hb
  ·cases hb
  ·rename_i hne
   rcases ht with ht | ⟨_, rfl⟩
   ·exact h.no k h2 hb l ht
   ·exact hne rfl
 ·rw [Qk1] at hb
  split at hb
  ·rename_i e
   cases hb
   exact .inr ⟨rfl, e⟩
  ·exact .inl (h.is k l hb)
theorem Qg7 {l m : List Int} {i : Nat} (h : i < l.length) : (l ++ m).getD i 0 = l.getD i 0 := by
 simp only [Qc]; rw [List.getElem?_append_left h]
theorem Qf3 {l : List Int} {x : Int} {i : Nat} (h : i = l.length) : (l ++ [x]).getD i 0 = x := by
 subst h
 simp only [Qc]; rw [List.getElem?_append_right (Zq _), Nat.sub_self]; rfl
theorem Qgw {c : Cane} {l : List Int} {b : Int} : Poss c (l ++ [b]) ↔ Poss c l ∧ 1 ≤ b ∧ b ≤ Qcp c l.length := by
 constructor
 ·intro h
  refine ⟨fun i hi => ?_, ?_⟩
  ·have := h i (by simp; omega)
   rwa [Qg7 hi] at this
  ·have := h l.length (by simp)
   rwa [Qf3 rfl] at this
 ·rintro ⟨h1, h2⟩ i hi
  rw [Xn, List.length_singleton] at hi
  by_cases e : i = l.length
  ·rw [Qf3 e, e]; exact h2
  ·rw [Qg7 (by omega)]
   exact h1 i (by omega)
theorem Qfe (l : List Int) (b k : Int) : Qb4 (l ++ [b]) k = Qb4 l k + (b - Qbm b k) := by
 unfold Qb4
 rw [Xx, Xy]; simp
theorem Qmf {b k : Int} (hb : 0 ≤ b) (hk : 0 ≤ k ∧ k ≤ 500) : 0 ≤ Qbm b k ∧ Qbm b k ≤ b := by
 have h0 : 0 ≤ b * k := Zj hb hk.1
 have h1 : b * k ≤ b * 500 := Xa hk.2 hb
 unfold Qbm
 rw [Zk h0]
 omega
theorem Qpa {b k k' : Int} (hb : 0 ≤ b) (hk : 0 ≤ k) (h : k ≤ k') : Qbm b k ≤ Qbm b k' := by
 have h0 : 0 ≤ b * k := Zj hb hk
 have h1 : b * k ≤ b * k' := Xa h hb
 unfold Qbm
 rw [Zk h0, Zk (by omega)]
 omega
theorem Qto {c : Cane} (h : OkC c) (ht : Qa9 c ≠ []) {i : Nat} (hi : i < (Qa9 c).length) : 0 ≤ (Qa9 c).getD i 0 ∧ (Qa9 c).getD i 0 ≤ 500 := by
 refine Qd8 h ?_
 rw [Qc, Ql hi]
 exact Xr hi
theorem Qrj {c : Cane} (h : OkC c) (ht : Qa9 c ≠ []) : 0 ≤ trF c ∧ trF c ≤ 500 := Qto h ht (Zy.2 ht)
theorem Qy2 {c : Cane} (h : OkC c) (ht : Qa9 c ≠ []) : 0 ≤ trL c ∧ trL c ≤ 500 := Qto h ht (by have := Zy.2 ht; omega)
theorem Qmm (c : Cane) (i : Int) : Qcp c i ≤ 90 := by unfold Qcp; omega
theorem Poss.in_ {c : Cane} {l : List Int} (h : Poss c l) : ∀ n ∈ l, 1 ≤ n ∧ n ≤ 90 := by
 intro n hn
 obtain ⟨i, hi, rfl⟩ := List.mem_iff_getElem.1 hn
 have := h i hi
 rw [Qc, Ql hi] at this
 have h2 := Qmm c i
 simp only [Qt] at this
 omega
theorem Qn1 {k : Int} (hk : 0 ≤ k ∧ k ≤ 500) : ∀ {l : List Int}, (∀ n ∈ l, 1 ≤ n ∧ n ≤ 90) → 0 ≤ Qb4 l k ∧ Qb4 l k ≤ 90 * l.length := by
 intro l
 induction l with
 | nil => intro _; simp [Qb4]
 | cons n l ih =>
  intro h
  have h1 := h n (by simp)
  have h2 := Qmf (b := n) (k := k) (by omega) hk
  have h3 := ih fun m hm => h m (by simp [hm])
  unfold Qb4 at h3 ⊢
  simp only [Qa, List.sum_cons, Qe, Q5, Q6]
  omega
theorem Qnr {c : Cane} (hc : OkC c) (ht : Qa9 c ≠ []) {w : Span} {n : Nat} {l' key' : List Int} :
  Rch c w (n + 1) l' key' ↔ ∃ l key b, Rch c w n l key ∧ (1 ≤ b ∧ b ≤ Qcp c n) ∧ l' = l ++ [b] ∧ key' = [key.getD 0 0 + b - Qbm b (trL c), key.getD 1 0 + b - Qbm b (trF c)] ∧ key'.getD 1 0 ≤ w.high := by
 constructor
 ·rintro ⟨h1, h2, h3, h4⟩
  obtain ⟨l, b, rfl⟩ : ∃ l b, l' = l ++ [b] := by
   have hne : l' ≠ [] := by rintro rfl; simp at h1
   exact ⟨l'.dropLast, l'.getLast hne, (List.dropLast_concat_getLast hne).symm⟩
  have hl : l.length = n := by simpa using h1
  obtain ⟨p1, p2⟩ := Qgw.1 h2
  rw [hl] at p2
  have h5 := Qmf (b := b) (k := trF c) (by omega) (Qrj hc ht)
  rw [Qfe] at h4
  refine ⟨l, Qhw c l, b, ⟨hl, p1, rfl, by omega⟩, p2, rfl, ?_, ?_⟩
  ·rw [h3]
   simp only [Qhw, Qfe, Zw, Zx, Xu.injEq, and_true]
   omega
  ·rw [h3]
   simp only [Qhw, Qfe, Zw, Zx]
   omega
 ·rintro ⟨l, key, b, ⟨h1, h2, h3, h4⟩, hb, rfl, h6, h7⟩
  have e : key' = Qhw c (l ++ [b]) := by
   rw [h6, h3]
   simp only [Qhw, Qfe, Zw, Zx, Xu.injEq, and_true]
   omega
  refine ⟨by simp [h1], Qgw.2 ⟨h2, by rw [h1]; exact hb⟩, e, ?_⟩
  rw [e] at h7
  simpa [Qhw] using h7
def Nxt (c : Cane) (w : Span) (n : Nat) (E : List Int → List Int → Prop) (l' key' : List Int) : Prop :=
 ∃ l key b, E l key ∧ (1 ≤ b ∧ b ≤ Qcp c n) ∧ l' = l ++ [b] ∧ key' = [key.getD 0 0 + b - Qbm b (trL c), key.getD 1 0 + b - Qbm b (trF c)] ∧ key'.getD 1 0 ≤ w.high
theorem Qq4 {c : Cane} (hc : OkC c) (ht : Qa9 c ≠ []) {w : Span} {n : Nat} {m m' : AM (List Int)} (h : IMap (Rch c w n) m) (h' : IMap (Nxt c w n fun l key => aget m key = some l) m') : IMap (Rch c w (n + 1)) m' := by
 refine ⟨h'.nd, h'.two, fun k h2 hb l hr => ?_, fun k l hb => ?_⟩
 ·obtain ⟨l0, key, b, r1, r2, r3, r4, r5⟩ := (Qnr hc ht).1 hr
  cases ho : aget m key with
  | none => exact h.no key (by rw [r1.key]; rfl) ho l0 r1
  | some l1 => exact h'.no k h2 hb (l1 ++ [b]) ⟨l1, key, b, ho, r2, rfl, r4, r5⟩
 ·obtain ⟨l0, key, b, r1, r2, r3, r4, r5⟩ := h'.is k l hb
  exact (Qnr hc ht).2 ⟨l0, key, b, h.is key l0 r1, r2, r3, r4, r5⟩
theorem Qoh (c : Cane) (w : Span) (hw : 0 ≤ w.high) : IMap (Rch c w 0) [([0, 0], [])] := by
 refine ⟨by simp [aks], by simp [aks], fun k h2 hb l hr => ?_, fun k l hb => ?_⟩
 ·have : l = [] := Z9 hr.len
  subst this
  have := hr.key
  simp [Qhw, Qb4] at this
  subst this
  simp [aget] at hb
 ·have : k = [0, 0] ∧ l = [] := by
   unfold aget at hb
   by_cases e : [0, 0] = k
   ·simp [e] at hb; exact ⟨e.symm, hb⟩
   ·simp [e] at hb
  obtain ⟨rfl, rfl⟩ := this
  exact ⟨rfl, fun i hi => absurd hi (Nat.not_lt_zero _), by simp [Qhw, Qb4], by simpa [Qb4] using hw⟩
theorem Qv0 {c : Cane} {w : Span} {n : Nat} {m : AM (List Int)} (h : IMap (Rch c w n) m) {l : List Int} (hs : Sure c w l) (hl : l.length = n) : ∃ key l', aget m key = some l' ∧ w.low ≤ key.getD 0 0 ∧ key.getD 1 0 ≤ w.high := by
 have hr : Rch c w n l (Qhw c l) := ⟨hl, hs.1, rfl, hs.2.2⟩
 cases ho : aget m (Qhw c l) with
 | none => exact absurd hr (h.no _ rfl ho l)
 | some l' => exact ⟨_, l', ho, hs.2.1, hs.2.2⟩
def Qgd (c : Cane) (w : Span) (r : List Int × Int) : Prop :=
 if stE c w [] = 0 then (r.2 = 0 ∧ Sure c w r.1 ∧ r.1.length ≤ 6 ∧ ∀ l, Sure c w l → r.1.length ≤ l.length) ∨ (r.2 = 3 ∧ r.1 = [] ∧ ∀ l, Sure c w l → 6 < l.length) else r = ([], stE c w [])
end Go.C06
set_option linter.unusedSimpArgs false
set_option linter.unusedVariables false
namespace Go.C06
open Go.Fam Go.Proofs
variable {Γ : Gam}
theorem eq93 : Qas Try.prog 93 2 := Qas.of (fs := _) (show Try.prog.underlying 93 = some (.struct (Try.prog.fieldsOf 93)) by kernel_rfl) (by kernel_rfl) (by kernel_rfl)
def eABL (a : Ang × Int × List Int) : List V := [.ag [.i a.1.low, .i a.1.high], .i a.2.1, .sl 1 (a.2.2.map eI)]
def dABL : List V → Ang × Int × List Int | [.ag [x, y], .i n, .sl _ l] => (⟨gI x, gI y⟩, n, l.map dI) | _ => (⟨0, 0⟩, 0, [])
theorem Qwn (a : Ang × Int × List Int) : dABL (eABL a) = a := by obtain ⟨⟨x, y⟩, n, m⟩ := a; simp [dABL, eABL, gI, Function.comp_def, Qg3]
def eL1 (l : List Int) : List V := [.sl 1 (l.map eI)]
def dL1 : List V → List Int | [.sl _ l] => l.map dI | _ => []
theorem Qyi (l : List Int) : dL1 (eL1 l) = l := by simp [dL1, eL1, Function.comp_def, Qg3]
noncomputable def H15 : Gam := ((H14.ext 68 (fnG eABL dABL (fun a => Qjt a.1 a.2.1 a.2.2) (fun a => Qkw a.1 a.2.1 a.2.2) fun a => .ag [.i a.low, .i a.high])).ext 1000069
 (fnG eL1 dL1 (fun l => l.length ≤ 1000000) (fun l => l) fun l => .tp [.rf 0 1 0 l.length 1, .tp [bV (.cells 1 (l.map eI).flatten)]])).ext 43 (fnG eCLS dCLS (fun _ => True) (fun a => Qgn a.1 a.2.1 a.2.2) fun r => .tp [.i r.1, .i r.2])
theorem Qx7 : GOk Try.prog H15 := by
 have k1 := Qom.ext (f := 68) (fun a w => Try.call68 a w) (Qb0 (e := eABL) (d := dABL) (ok := fun a => Qjt a.1 a.2.1 a.2.2) (g := fun a => Qkw a.1 a.2.1 a.2.2) (eb := fun a => .ag [.i a.low, .i a.high]) fun a h => W68 a.1 a.2.1 a.2.2 h)
 have k2 := k1.extO (f := 69) (r := fnG eL1 dL1 (fun l => l.length ≤ 1000000) (fun l => l) fun l => .tp [.rf 0 1 0 l.length 1, .tp [bV (.cells 1 (l.map eI).flatten)]]) (fun a w => Try.call69 a w) fun vs v bs h1 h2 => by
  simp only [fnG, V.tp.injEq, Xu.injEq, and_true] at h1 h2
  obtain ⟨h3, h4⟩ := h2
  rw [← h1.1, ← h3, ← h4]
  simp only [Qa, Qb, Qao]
  exact W69 _ h1.2
 exact k2.ext (f := 43) (fun a w => Try.call43 a w) (Qb0 (e := eCLS) (d := dCLS) (ok := fun _ => True) (g := fun a => Qgn a.1 a.2.1 a.2.2) (eb := fun r => .tp [.i r.1, .i r.2]) fun a _ => W43 a.1 a.2.1 a.2.2)
theorem h68 (a b n : Int) (l : List Int) : H15 68 [.ag [.i a, .i b], .i n, .sl 1 (l.map eI)] = (Qjt ⟨a, b⟩ n l, .ag [.i (Qkw ⟨a, b⟩ n l).low, .i (Qkw ⟨a, b⟩ n l).high]) :=
 (show H15 68 _ = fnG eABL dABL (fun a => Qjt a.1 a.2.1 a.2.2) (fun a => Qkw a.1 a.2.1 a.2.2) (fun a => .ag [.i a.low, .i a.high]) (eABL (⟨a, b⟩, n, l)) from rfl).trans (Qb6 _ (Qwn _))
theorem h69 (l : List Int) : H15 1000069 [.sl 1 (l.map eI)] = (l.length ≤ 1000000, .tp [.rf 0 1 0 l.length 1, .tp [bV (.cells 1 (l.map eI).flatten)]]) :=
 (show H15 1000069 _ = fnG eL1 dL1 (fun l => l.length ≤ 1000000) (fun l => l) (fun l => .tp [.rf 0 1 0 l.length 1, .tp [bV (.cells 1 (l.map eI).flatten)]]) (eL1 l) from rfl).trans (Qb6 _ (Qyi _))
theorem Qvh (c : Cane) (w : Span) (l : List Int)  : H15 59 [.ag (Qae c), .ag (Qau w), .sl 1 (l.map eI)] = (True, .tp [.sl 1 ((stL c w l).map eI), .i (stE c w l)]) := h59 c w l
theorem Qsx (c : Cane) (i : Int)  : H15 67 [.ag (Qae c), .i i] = (Qdo c i, .i (Qcp c i)) := h67 c i
def wB : List Int → V
 | [] => .z 1
 | l => .sl 1 (l.map eI)
theorem Qv8 (l : List Int) (b : Int) : wB (l ++ [b]) = .sl 1 ((l ++ [b]).map eI) := by
 cases l <;> rfl
theorem Qy3 (hp : List Blk) (n : Nat) (l : List Int) : vw hp (n + 1) (wB l) = .sl 1 (l.map eI) := by cases l <;> rfl
theorem Qtc (l : List Int) : Qaa (wB l) = false := by cases l <;> rfl
theorem Qpi (hp : List Blk) (n : Nat) (l : List Int) : cutV hp n (wB l) = wB l := by cases l <;> rfl
theorem Qut (l : List Int) : rids (wB l) = [] := by cases l <;> rfl
def Ql2 (r : List Int × Int) : V := .tp [.sl 1 (r.1.map eI), .i r.2]
set_option maxHeartbeats 2000000 in
theorem W39 (c : Cane) (w : Span) : Qde Try.prog 39 [.ag (Qae c), .ag (Qau w)] fun v hp => (∃ r, v = Ql2 r ∧ Qgd c w r) ∧ hp = [] := by
 refine Qqz Qx7 hmix Try.func39 cb39 cc39 cs39 cn39 ?_
 have g1 := Qvh c w []
 unfold Qae Qau at g1
 simp only [Qb] at g1
 simp only [rc39, rs39, g1, Qaj, Qa7, Qa8, Qai, Qc3, Qab, Qac, Qa6, putB, keyL, Qck, endK, Qad, Qa4, Qa1, Fam.step, Qaf, Qbu, Qav, putB, nv, sv, evO, opv, qv, binV, ldV, Qar, Qap, Qba, V.cells, Qaq, Qce, Qaa, Qa5, flat, Qd3, Qa2, Qbb, Qa0, Qa3, ↓reduceIte, Nat.reduceEqDiff, Nat.reduceAdd, Nat.reduceLT, Nat.reduceLeDiff, Qa, Qb, Qe, Qf, Qi, Qs, Qr, Qk, Qg, Qm, Qt, Za, rvs, rv1, resV, vw_i, vw_z, Qax, Qaw, Qci, zipA, Qh, Qu, Q1, Qo, Qd, decide_eq_false_iff_not, true_and, and_self, forall_const, reduceCtorEq, Q8, Q4, imp_self, Classical.not_not, Qau, Qae]
 refine ⟨fun h => ?_, fun h => ?_⟩
 ·have h0 : ¬ stE c w [] = 0 := h
  have e2 : stL c w [] = [] := by unfold stL; rw [if_neg h0]
  exact ⟨([], stE c w []), rfl, by unfold Qgd; rw [if_neg h0]⟩
 ·obtain ⟨h1, h2, h3, h4, h5, h6, h7⟩ := Qox h
  have hlen := Qd7 c h1
  have hw : (0 ≤ w.low ∧ w.low ≤ w.high) ∧ w.high ≤ 540 := by simpa [Qbl, Qan] using h3
  have hnw : ∀ m, Qa5 (avs wB m) = false := fun m => Qiy Qtc m
  have hB : Qgd c w = fun r => (r.2 = 0 ∧ Sure c w r.1 ∧ r.1.length ≤ 6 ∧ ∀ l, Sure c w l → r.1.length ≤ l.length) ∨ (r.2 = 3 ∧ r.1 = [] ∧ ∀ l, Sure c w l → 6 < l.length) := by
   funext r; unfold Qgd; rw [if_pos h]
  have hn0 : aks ([] : AM (List Int)) = [] := rfl
  have hn0' : avs wB ([] : AM (List Int)) = [] := rfl
  simp only [h7, eq93, putK, Qhk, List.not_mem_nil, ↓reduceIte, Qr, true_and, and_self, forall_const, false_implies]
  refine Qf7 7 (fun i m => ⟨lkp [(2, .pa (Qae c)), (3, .pa (Qau w)), (6, .sl 1 ((Qa9 c).map eI)), (8, .mp 0 0), (27, .i i)], [.map true (aks m) (avs wB m)]⟩) (fun i m => IMap (Rch c w i) m ∧ ∀ l, Sure c w l → i ≤ l.length) [([0, 0], [])] ?_ ?_ ?_ ?_
  ·simp only [Zg, aks, avs, wB, cutH, kp, cutV, cutL, cutB, Qa0, Qa3, ↓reduceIte, Nat.reduceEqDiff, Nat.reduceLT, Qa, Qb, Qi, Qs, Qau, Qae]
  ·exact ⟨Qoh c w (by omega), fun _ _ => Nat.zero_le _⟩
  ·rintro i m hi ⟨hM, hmin⟩
   have hlt : (i : Int) < 7 := by omega
   have i1 : inI ((i : Int) + 1) := by unfold inI; omega
   simp only [hlt, Qaj, Qa7, Qa8, Qai, Qab, Qa6, cutH, Qad, Qa4, Qa1, Fam.step, Qaf, Qbu, Qav, nv, evO, opv, qv, binV, kp, Qa2, Qa0, Qa3, ↓reduceIte, Nat.reduceEqDiff, Nat.reduceAdd, Qa, Qb, Qe, Qf, Qv, Qr, Qg, Qh, decide_true, true_and, and_self, Qau, Qae]
   refine Qr8 (aks m).length (fun pre m' => ⟨lkp [(2, .pa (Qae c)), (3, .pa (Qau w)), (6, .sl 1 ((Qa9 c).map eI)), (9, .i i), (10, .mp 1 0), (27, .i i), (32, .it 2 0)],
     [.map true (aks m) (avs wB m), .map true (aks m') (avs wB m'), .iter 0 (aks m).length (Qiu (aks m).length pre) pre.getLast?]⟩)
    (fun pre m' => IMap (Nxt c w i fun l key => ∃ q ∈ pre, m[q]? = some (key, l)) m' ∧ ∀ q ∈ pre, ∀ key l, m[q]? = some (key, l) → ¬ (w.low ≤ key.getD 0 0 ∧ key.getD 1 0 ≤ w.high)) [] ?_ ?_ ?_
   ·simp only [Qqd, List.getLast?_nil, Qay _ _ _ (hnw m), hn0, hn0', cutH, kp, cutV, cutL, cutB, Qa0, Qa3, ↓reduceIte, Nat.reduceEqDiff, Nat.reduceLT, Qa, Qb, Qi, Qs, Qau, Qae]
   ·refine ⟨⟨by simp [aks], by simp [aks], fun k _ _ l ht => ?_, fun b l hb => (by simp [aget] at hb)⟩, fun q hq => (by simp at hq)⟩
    obtain ⟨l0, key, b, ⟨q, hq, _⟩, _⟩ := ht
    simp at hq
   ·rintro pre m' hnd hlt2 ⟨hC2, hN⟩
    simp only [Qaj, Qa7, Qa8, Qai, Qc3, Qab, Qat, Qac, Qa6, Qe5, Qth, Qte, ↓Qc1, ↓Qmu, swH, sw, renV, renB, cutH, putB, entV, keyV, endK, Qad, Qal, Qa4, Qa1, Fam.step, Qaf, Qbu, Qb9, Qav, Qaz, ug, putB, nv, sv, evO, opv, qv, binV, ldV, curG, putAt, V.cells, Qaq, kp, cutV, cutB, Qa2, Qbb, Qa0, Qa3, ↓reduceIte, Nat.reduceEqDiff, Nat.reduceAdd, Nat.reduceLT, Nat.reduceLeDiff, Qa, Qb, Qz, Q0, Qe, Qf, Qj, Qq, Qi, Q2, Qs, Qn, Qv, Qr, Qg, Qm, Qt, Za, Zp, rvs, rv1, vw_i, beq_self_eq_true, Qh, Xd, Qu, Q1, Zz, Qd, true_and, and_true, and_self, implies_true, reduceCtorEq, beq_true, Qp, Qc, Zd, Qau, Qae]
    refine ⟨fun hnil => ?_, fun q hq => ?_⟩
    ·have hall : ∀ q, q < (aks m).length → q ∈ pre := fun q hq => Classical.byContradiction fun hn => by
      have := Qiv.2 ⟨hq, hn⟩
      rw [hnil] at this; cases this
     have hM' : IMap (Rch c w (i + 1)) m' := by
      refine Qq4 h1 h6 hM (hC2.imp fun l b => ?_)
      constructor
      ·rintro ⟨l0, key, b, ⟨q, _, hq⟩, r2, r3, r4, r5⟩
       exact ⟨l0, key, b, Qp7 hM.nd hq, r2, r3, r4, r5⟩
      ·rintro ⟨l0, key, b, hq, r2, r3, r4, r5⟩
       obtain ⟨q, hq'⟩ := Zu (Qmz hq)
       exact ⟨l0, key, b, ⟨q, hall q (by have := Qam hq'; simpa [aks] using this), hq'⟩, r2, r3, r4, r5⟩
     have hmin' : ∀ l, Sure c w l → i + 1 ≤ l.length := by
      intro l hl
      have := hmin l hl
      by_cases e : l.length = i
      ·obtain ⟨key, l', ho, hk⟩ := Qv0 hM hl e
       obtain ⟨q, hq'⟩ := Zu (Qmz ho)
       exact absurd hk (hN q (hall q (by have := Qam hq'; simpa [aks] using this)) key l' hq')
      ·omega
     refine ⟨i1, m', ⟨hM', hmin'⟩, ?_⟩
     simp only [Qe2 _ _ (hnw m), Qe2 _ _ (hnw m'), Qay _ _ _ (hnw m'), Q5, Q6]
    ·obtain ⟨hqn, hqp⟩ := Qiv.1 hq
     obtain ⟨k, l0, hk0, hk1, hk2⟩ := Qwk hqn
     have hk3 := hM.two k (Qx hk1)
     obtain ⟨a, b, rfl⟩ : ∃ a b, k = [a, b] := by
      match k, hk3 with
      | [a, b], _ => exact ⟨a, b, rfl⟩
     have hk2' := hk2 wB
     have hr0 := hM.is _ l0 (Qp7 hM.nd hk0)
     simp only [hk1, hk2', Qml hq, Qak, Qb8, Nat.reduceAdd, Nat.reduceLeDiff, Qa, Qb, Qz, Q0, Qe, Qf, Qj, Qq, Zh, Qn, Qk, Qg, Qm, Qt, Qh, Qu, decide_eq_true_eq, true_and, and_true, and_self, Qg9, imp_self]
     have hkey := hr0.key
     simp only [Qhw, Xu.injEq, and_true] at hkey
     have hin := hr0.poss.in_
     have haL := Qn1 (Qy2 h1 h6) hin
     have haF := Qn1 (Qrj h1 h6) hin
     have hl0 := hr0.len
     refine ⟨fun e => ?_, fun e => ?_⟩
     ·refine ⟨(l0, 0), ?_, ?_⟩
      ·show V.tp [vw _ (6 + 1) (wB l0), _] = _
       rw [Qy3]; rfl
      ·simp only [Xs, decide_eq_true_eq] at e
       rw [hB]
       refine .inl ⟨rfl, ⟨hr0.poss, by rw [← hkey.1]; exact e.1, by rw [← hkey.2]; exact e.2⟩, by show l0.length ≤ 6; omega, fun l hl => ?_⟩
       show l0.length ≤ l.length
       rw [hl0]; exact hmin l hl
     ·have hnot : ¬ (w.low ≤ a ∧ b ≤ w.high) := by
       simp only [Bool.and_eq_false_iff, decide_eq_false_iff_not] at e
       omega
      refine Qf7 (Qcp c i).toNat (fun j y => ⟨lkp [(2, .pa (Qae c)), (3, .pa (Qau w)), (6, .sl 1 ((Qa9 c).map eI)), (9, .i i), (10, .mp 1 0), (11, .ad 3 0 0), (12, wB l0), (13, .i (j + 1)), (27, .i i), (32, .it 2 0)],
        [.map true (aks m) (avs wB m), .map true (aks y) (avs wB y), .iter 0 (aks m).length (Qiu (aks m).length (pre ++ [q])) (some q), .cells 0 [.i a, .i b]]⟩)
       (fun j y => IMap (fun l key => Nxt c w i (fun l key => ∃ q ∈ pre, m[q]? = some (key, l)) l key ∨ ∃ d : Int, (1 ≤ d ∧ d ≤ j) ∧ l = l0 ++ [d] ∧ key = [a + d - Qbm d (trL c), b + d - Qbm d (trF c)] ∧ key.getD 1 0 ≤ w.high) y) m' ?_ ?_ ?_ ?_
      ·simp only [Zg, Qay _ _ _ (hnw m), Qay _ _ _ (hnw m'), Qpi, cutH, kp, cutV, cutL, cutB, Qa0, Qa3, ↓reduceIte, Nat.reduceEqDiff, Nat.reduceLT, Int.reduceAdd, Qa, Qb, Qi, Qs, Qau, Qae]
      ·refine hC2.imp fun l k => ⟨.inl, ?_⟩
       rintro (h | ⟨d, hd, _⟩)
       ·exact h
       ·omega
      ·intro j y hj hC3
       have hle : ((j : Int) + 1) ≤ Qcp c i := by omega
       have hm90 := Qmm c i
       have i2 : inI ((j : Int) + 1 + 1) := by unfold inI; omega
       have g2 := Qsx c i
       have g3 := h68 a b (j + 1) (Qa9 c)
       unfold Qae at g2
       have hm := h1.most (i := (i : Int)) (by unfold tame; omega)
       have hoW : Qjt ⟨a, b⟩ (j + 1) (Qa9 c) := by
        refine ⟨⟨?_, ?_, ?_⟩, h6, by omega, fun k hk => ?_⟩
        ·show tame 1000000 a
         unfold tame; omega
        ·show tame 1000000 b
         unfold tame; omega
        ·unfold tame; omega
        ·have := Qd8 h1 hk; unfold tame; omega
       have hA : Qkw ⟨a, b⟩ (j + 1) (Qa9 c) = ⟨a + (j + 1) - Qbm (j + 1) (trL c), b + (j + 1) - Qbm (j + 1) (trF c)⟩ := rfl
       rw [hA] at g3
       obtain ⟨A, eA⟩ : ∃ A, A = a + (j + 1) - Qbm (j + 1) (trL c) := ⟨_, rfl⟩
       obtain ⟨B, eB⟩ : ∃ B, B = b + (j + 1) - Qbm (j + 1) (trF c) := ⟨_, rfl⟩
       rw [← eA, ← eB] at g3
       have hT : ∀ l k, ((Nxt c w i (fun l key => ∃ q ∈ pre, m[q]? = some (key, l)) l k ∨ ∃ d : Int, (1 ≤ d ∧ d ≤ ((j + 1 : Nat) : Int)) ∧ l = l0 ++ [d] ∧ k = [a + d - Qbm d (trL c), b + d - Qbm d (trF c)] ∧ k.getD 1 0 ≤ w.high) ↔
         ((Nxt c w i (fun l key => ∃ q ∈ pre, m[q]? = some (key, l)) l k ∨ ∃ d : Int, (1 ≤ d ∧ d ≤ (j : Int)) ∧ l = l0 ++ [d] ∧ k = [a + d - Qbm d (trL c), b + d - Qbm d (trF c)] ∧ k.getD 1 0 ≤ w.high) ∨ ((l = l0 ++ [(j : Int) + 1] ∧ k = [A, B]) ∧ B ≤ w.high))) := by
        intro l k
        rw [or_assoc]
        refine or_congr Iff.rfl ?_
        constructor
        ·rintro ⟨d, hd, e1, e2, e3⟩
         by_cases ed : d = j + 1
         ·subst ed
          rw [← eA, ← eB] at e2
          exact .inr ⟨⟨e1, e2⟩, by rw [e2] at e3; exact e3⟩
         ·exact .inl ⟨d, by omega, e1, e2, e3⟩
        ·rintro (⟨d, hd, e1, e2, e3⟩ | ⟨⟨e1, e2⟩, e3⟩)
         ·exact ⟨d, by omega, e1, e2, e3⟩
         ·exact ⟨j + 1, by omega, e1, by rw [e2, eA, eB], by rw [e2]; exact e3⟩
       have hfl : Qbj (l0.length + 1) ∧ l0.length ≤ 1000000 := by unfold Qbj; omega
       have hln : (l0.map eI).length + 1 = (l0 ++ [(j : Int) + 1]).length := by simp
       have hff : (l0.map eI).flatten ++ [V.i ((j : Int) + 1)] = ((l0 ++ [(j : Int) + 1]).map eI).flatten := by simp [eI]
       have hks : ∀ k ∈ aks y, k.length = 2 := hC3.two
       by_cases hB2 : B ≤ w.high
       ·simp only [hle, g2, hm, g3, hoW, Qy3, hB2, h69, Qtc, Qut, Qck, eq93, hfl, i2, Zt, Zv, Qdb _ _ (Qix _), hff, Qkf, Qaj, Qa7, Qb5, Qa8, Qai, Qab, Qa6, Qe5, Qdt, ↓Qc1, effO, Qeu, Qkr, Qb2, optL, upTo, Qda, Qd5, Qdr, shV, shB, Qao, cutH, putB, keyL, Qck, Qad, Qal, Qa4, Qa1, Fam.step, Qaf, Qbu, Qav, runX, eff, Qb1, fpR, fpQ, fpV, Qbi, hits, putB, nv, sv, Qcl, evO, opv, qv, binV, ldV, curG, Qar, Qap, putAt, Qba, Qbg, V.cells, Qaq, Qb8, Qce, Qaa, Qa5, flat, Qd3, kp, cutV, cutL, cutB, Qa2, Qbb, Qa0, Qa3, ↓reduceIte, Nat.reduceEqDiff, Nat.reduceAdd, Nat.reduceMul, Nat.reduceLT, Nat.reduceLeDiff, Nat.reduceBEq, Qa, Qb, Qz, Q0, Qe, Qf, Qj, Qq, Zh, Qi, Q2, Qs, Qn, Qv, Qr, Qk, Qg, Qm, Qw, Qt, Ze, Za, Zp, Q3, Xc, Zf, Z0, vw_i, Qax, Qaw, Qrn, Qfv, beq_self_eq_true, Qh, Xd, Qu, Q1, Zz, Zl, X1, Qo, Z6, Zi, Zm, Qd, decide_true, true_and, and_self, forall_const, implies_true, reduceCtorEq, not_false_eq_true, ne_eq, Q8, Xf, Zn, Zc, Zb, Qc, Qau, Qae]
        refine ⟨hks, aput y [A, B] (l0 ++ [(j : Int) + 1]), (hC3.put (l0 := l0 ++ [(j : Int) + 1]) (k0 := [A, B]) rfl).imp fun l k => ?_, ?_⟩
        ·have := hT l k
         simp only [Qc] at this
         rw [this]
         simp only [hB2, and_true, Qc]
        ·have hl1 : l0.length + 1 = (l0 ++ [(j : Int) + 1]).length := by simp
         rw [hl1]
         simp only [Qay _ _ _ (hnw m), Qo8, Qay _ _ _ (hnw y), Qpi, hpF, upB, upL, upV, Qea _ _ (Qix _), Qkf, Nat.mul_one, Zq, Qid, vw_I, ← Qv8, ← Qme hC3.nd, Qh6, Q5, Q6, cutV, ↓reduceIte, Nat.reduceLT, Qa, Qb, Qj, Qq, Qi, Q2, Qv, Qr, Qg, Qm, Qfv, Qh, and_self]
       ·simp only [hle, g2, hm, g3, hoW, hB2, i2, Qay _ _ _ (hnw m), Qay _ _ _ (hnw y), Qpi, Qaj, Qa7, Qa8, Qai, Qab, Qa6, Qe5, ↓Qc1, cutH, putB, Qad, Qal, Qa4, Qa1, Fam.step, Qaf, Qbu, Qav, putB, nv, sv, evO, opv, qv, binV, ldV, curG, Qar, putAt, V.cells, Qaq, Qb8, Qaa, Qa5, flat, Qd3, kp, cutV, cutL, cutB, Qa2, Qbb, Qa0, Qa3, ↓reduceIte, Nat.reduceEqDiff, Nat.reduceAdd, Nat.reduceLT, Nat.reduceLeDiff, Qa, Qb, Qz, Q0, Qe, Qf, Qj, Qq, Zh, Qi, Q2, Qs, Qn, Qv, Qr, Qk, Qg, Qm, Za, Zp, vw_i, Qax, Qaw, Qrn, beq_self_eq_true, Qh, Qu, Qo, Qd, decide_true, decide_false, true_and, and_self, implies_true, Qc, Qau, Qae]
        refine ⟨y, hC3.imp fun l k => ?_, ?_⟩
        ·have := hT l k
         simp only [Qc] at this
         simp only [Qc]
         rw [this]
         simp only [hB2, and_false, or_false]
        ·simp only [Q5, Q6]
      ·intro y hC3
       have hgt : ¬ (((Qcp c i).toNat : Int) + 1 ≤ Qcp c i) := by omega
       have g2 := Qsx c i
       unfold Qae at g2
       have hm := h1.most (i := (i : Int)) (by unfold tame; omega)
       simp only [hgt, g2, hm, Qa7, Qa8, Qai, Qat, Qa6, Qad, Qal, Qa4, Qa1, Fam.step, Qaf, evO, opv, qv, binV, ldV, Qar, Qaa, Qa5, flat, cutV, cutB, Qa2, Qa0, Qa3, ↓reduceIte, Nat.reduceEqDiff, Nat.reduceAdd, Nat.reduceLT, Nat.reduceLeDiff, Qa, Qb, Qe, Qf, Qi, Q2, Qs, Qk, vw_i, Qax, Qaw, Qh, Qo, Qd, decide_false, true_and, and_self, implies_true, Qau, Qae]
       refine ⟨q, y, hq, ⟨hC3.imp fun l k => ?_, fun q' hq' key l hk' => ?_⟩, ?_⟩
       ·constructor
        ·rintro (⟨l1, k1, d, ⟨q', hq', h⟩, r2, r3, r4, r5⟩ | ⟨d, hd, r3, r4, r5⟩)
         ·exact ⟨l1, k1, d, ⟨q', by simp [hq'], h⟩, r2, r3, r4, r5⟩
         ·exact ⟨l0, [a, b], d, ⟨q, by simp, hk0⟩, ⟨hd.1, by omega⟩, r3, r4, r5⟩
        ·rintro ⟨l1, k1, d, ⟨q', hq', h⟩, r2, r3, r4, r5⟩
         rcases Xz.1 hq' with hq' | hq'
         ·exact .inl ⟨l1, k1, d, ⟨q', hq', h⟩, r2, r3, r4, r5⟩
         ·have : q' = q := by simpa using hq'
          subst this
          rw [hk0] at h
          simp only [Z7.injEq, Prod.mk.injEq] at h
          obtain ⟨rfl, rfl⟩ := h
          exact .inr ⟨d, ⟨r2.1, by omega⟩, r3, r4, r5⟩
       ·rcases Xz.1 hq' with hq' | hq'
        ·have := hN q' hq' key l hk'
         simpa only [Qc] using this
        ·have : q' = q := by simpa using hq'
         subst this
         rw [hk0] at hk'
         simp only [Z7.injEq, Prod.mk.injEq] at hk'
         obtain ⟨rfl, rfl⟩ := hk'
         exact hnot
       ·simp only [Qay _ _ _ (hnw m), Qay _ _ _ (hnw y), List.getLast?_concat]
  ·rintro m ⟨hM, hmin⟩
   have h77 : ¬ (((7 : Nat) : Int) < 7) := by decide
   simp only [h77, Qa7, Qa8, Qai, Qat, Qac, Qa6, endK, Qad, Qal, Qa4, Qa1, Fam.step, Qaf, evO, opv, qv, binV, Qa2, Qa0, Qa3, ↓reduceIte, Nat.reduceEqDiff, Qa, Qb, rvs, rv1, vw_i, vw_z, Qd, decide_false, true_and, and_self, Qau, Qae]
   exact ⟨([], 3), rfl, by rw [hB]; exact .inr ⟨rfl, rfl, fun l hl => hmin l hl⟩⟩
end Go.C06
set_option linter.unusedSimpArgs false
set_option linter.unusedVariables false
namespace Go.C06
open Go.Fam Go.Proofs
variable {Γ : Gam}
noncomputable def fewN (c : Cane) (w : Span) : Option Nat := open Classical in if ∃ l, Sure c w l ∧ l.length ≤ 6 then some (Qls fun n => ∃ l, Sure c w l ∧ l.length = n) else none
noncomputable def fewR (c : Cane) (w : Span) : Int × Int := if stE c w [] = 0 then match fewN c w with | some n => (n, 0) | none => (0, 3) else (0, stE c w [])
theorem Qld {c : Cane} {w : Span} {n : Nat} : fewN c w = some n ↔ n ≤ 6 ∧ (∃ l, Sure c w l ∧ l.length = n) ∧ ∀ l, Sure c w l → n ≤ l.length := by
 unfold fewN
 constructor
 ·intro h
  split at h
  ·rename_i hex
   obtain ⟨l, hl, h6⟩ := hex
   have sp := Qee (p := fun n => ∃ l, Sure c w l ∧ l.length = n) ⟨_, l, hl, rfl⟩
   simp only [Z7.injEq] at h
   rw [h] at sp
   refine ⟨Xh (sp.2 _ ⟨l, hl, rfl⟩) h6, sp.1, fun l' hl' => sp.2 _ ⟨l', hl', rfl⟩⟩
  ·cases h
 ·rintro ⟨h1, ⟨l, hl, h2⟩, h3⟩
  rw [if_pos ⟨l, hl, by omega⟩]
  have sp := Qee (p := fun n => ∃ l, Sure c w l ∧ l.length = n) ⟨_, l, hl, rfl⟩
  obtain ⟨l', hl', h4⟩ := sp.1
  have := h3 l' hl'
  have := sp.2 n ⟨l, hl, h2⟩
  congr 1
  omega
theorem Qlc {c : Cane} {w : Span} : fewN c w = none ↔ ∀ l, Sure c w l → 6 < l.length := by
 unfold fewN
 constructor
 ·intro h l hl
  split at h
  ·cases h
  ·rename_i hex
   exact Nat.lt_of_not_le fun h6 => hex ⟨l, hl, h6⟩
 ·intro h
  rw [if_neg]
  rintro ⟨l, hl, h6⟩
  have := h l hl
  omega
theorem Qpb {c : Cane} {w : Span} {r : List Int × Int} (h : Qgd c w r) : ((r.1.length : Int), r.2) = fewR c w := by
 unfold Qgd at h
 unfold fewR
 split at h
 ·rename_i h0
  rw [if_pos h0]
  rcases h with ⟨h1, h2, h3, h4⟩ | ⟨h1, h2, h3⟩
  ·rw [Qld.2 ⟨h3, ⟨r.1, h2, rfl⟩, h4⟩, h1]
  ·rw [Qlc.2 h3, h1, h2]; rfl
 ·rename_i h0
  rw [if_neg h0, h]; rfl
def p39 (vs : List V) : Prop := eCS (dCS vs) = vs
def q39 : List V → Prop
 | .tp (r :: bs) :: vs => bs = [] ∧ ∃ o, r = Ql2 o ∧ Qgd (dCS vs).1 (dCS vs).2 o
 | _ => False
noncomputable def H16 : Gam := (H15.ext 3000039 fun vs => (p39 vs, .u)).ext 4000039 fun vs => (q39 vs, .u)
theorem Qs8 : GOk Try.prog H16 := by
 refine Qx7.extR (f := 39) (p := p39) (q := q39) (fun a w => Try.call39 a w) fun vs h => ?_
 have := W39 (dCS vs).1 (dCS vs).2
 have e : eCS (dCS vs) = vs := h
 unfold eCS at e
 rw [e] at this
 refine this.mono fun r hp hr => ?_
 obtain ⟨⟨o, rfl, hb⟩, rfl⟩ := hr
 exact ⟨[], rfl, rfl, o, rfl, hb⟩
theorem h39 (c : Cane) (w : Span) : H16 3000039 [.ag (Qae c), .ag (Qau w)] = (True, .u) := by
 refine (show H16 3000039 _ = (p39 (eCS (c, w)), V.u) from rfl).trans ?_
 unfold p39
 rw [Qpn]; simp
theorem h39' (c : Cane) (w : Span) (x : V) (bs : List V) : H16 4000039 [.tp (x :: bs), .ag (Qae c), .ag (Qau w)] = (bs = [] ∧ ∃ o, x = Ql2 o ∧ Qgd c w o, .u) := by
 refine (show H16 4000039 _ = (bs = [] ∧ ∃ o, x = Ql2 o ∧ Qgd (dCS (eCS (c, w))).1 (dCS (eCS (c, w))).2 o, V.u) from rfl).trans ?_
 rw [Qpn]
theorem W25 (c : Cane) (w : Span) : Qah Try.prog 25 [.ag (Qae c), .ag (Qau w)] (.tp [.i (fewR c w).1, .i (fewR c w).2]) := by
 refine Qag Qs8 hmix Try.func25 cb25 cc25 cs25 cn25 ?_
 have g1 := h39 c w
 have g2 := h39' c w
 unfold Qae Qau at g1 g2
 simp only [rc25, rs25, g1, g2, Qa7, Qa8, Qac, Qa6, Qtd, Qad, Qa4, Qa1, Fam.step, Qaf, Qav, evO, opv, qv, ldV, lenV, V.cells, Qaq, Qaa, Qa5, Qa2, Qa0, Qa3, ↓reduceIte, Nat.reduceEqDiff, Nat.reduceAdd, Nat.reduceLT, Nat.reduceLeDiff, Qa, Qb, Qe, Qf, Qi, Qs, Qr, Qk, endQ, rvs, rv1, resV, vw_i, Qax, Qaw, Qci, zipA, Qh, Qo, true_and, and_self, reduceCtorEq, Qy, Qau, Qae]
 rintro r bs ⟨rfl, o, rfl, hb⟩
 have e := Qpb hb
 rw [← e]
 simp only [Ql2, shV, shL, Nat.reduceAdd, Nat.reduceLT, Qb, Qe, Qf, Qg, Qm, Qt, vw_i, Qh, and_self, Qp]
end Go.C06
set_option linter.unusedSimpArgs false
set_option linter.unusedVariables false
namespace Go.C06
open Go.Fam Go.Proofs
variable {Γ : Gam}
def RIt (al : List V → Prop) (xs : List V) (r : V) (hp : List Blk) : Prop :=
 ∃ (b : Bool) (bv : List V) (rest : List (List V)) (tl : List Blk), hp = .gh xs (some ((.b b :: bv) :: rest)) :: (bv.map vB ++ tl) ∧ (b = true → rest = []) ∧ al bv
def toP (bend v : Int) (ts : List Int) (l : Nat) : Nat → Nat → Nat
 | 0, t => t
 | n + 1, t => if t < l ∧ Qbm bend (ts.getD (t + 1) 0) = v then toP bend v ts l n (t + 1) else t
def toF (bend v : Int) (ts : List Int) (l t : Nat) : Nat := toP bend v ts l (l - t) t
theorem Qsu {bend v : Int} {ts : List Int} {l t : Nat} (h : t < l ∧ Qbm bend (ts.getD (t + 1) 0) = v) : toF bend v ts l t = toF bend v ts l (t + 1) := by
 unfold toF
 rw [show l - t = (l - (t + 1)) + 1 by omega, toP, if_pos h]
theorem Qo1 {bend v : Int} {ts : List Int} {l t : Nat} (h : ¬ (t < l ∧ Qbm bend (ts.getD (t + 1) 0) = v)) : toF bend v ts l t = t := by
 unfold toF
 cases l - t with
 | zero => rfl
 | succ n => rw [toP, if_neg h]
theorem Qtn {bend v : Int} {ts : List Int} {l : Nat} : ∀ (n t : Nat), t ≤ l → t ≤ toP bend v ts l n t ∧ toP bend v ts l n t ≤ l ∧ ∀ k, t < k → k ≤ toP bend v ts l n t → Qbm bend (ts.getD k 0) = v
 | 0, t, h => ⟨Zq _, h, fun k h1 h2 => by simp only [toP] at h2; omega⟩
 | n + 1, t, h => by
  unfold toP
  split
  ·rename_i hc
   obtain ⟨h1, h2, h3⟩ := Qtn (bend := bend) (v := v) (ts := ts) (l := l) n (t + 1) (by omega)
   refine ⟨by omega, h2, fun k k1 k2 => ?_⟩
   by_cases e : k = t + 1
   ·rw [e]; exact hc.2
   ·exact h3 k (by omega) k2
  ·exact ⟨Zq _, h, fun k h1 h2 => by omega⟩
theorem Qtm {bend v : Int} {ts : List Int} {l t : Nat} (h : t ≤ l) : t ≤ toF bend v ts l t ∧ toF bend v ts l t ≤ l ∧ ∀ k, t < k → k ≤ toF bend v ts l t → Qbm bend (ts.getD k 0) = v := Qtn _ t h
def endP (bend : Int) (ts : List Int) (l f : Nat) : Nat := toF bend (Qbm bend (ts.getD f 0)) ts l f
def grpP (bend : Int) (ts : List Int) (l : Nat) : Nat → Nat → List (Nat × Nat)
 | 0, _ => []
 | n + 1, f => if f ≤ l then (f, endP bend ts l f) :: grpP bend ts l n (endP bend ts l f + 1) else []
theorem Qmh {bend : Int} {ts : List Int} {l f : Nat} (h : f ≤ l) : f ≤ endP bend ts l f ∧ endP bend ts l f ≤ l := ⟨(Qtm h).1, (Qtm h).2.1⟩
theorem Qlk (bend : Int) (ts : List Int) (l : Nat) : ∀ (n m f : Nat), l + 1 ≤ f + n → n ≤ m → grpP bend ts l m f = grpP bend ts l n f
 | 0, 0, _, _, _ => rfl
 | 0, m + 1, f, h, _ => by
  unfold grpP
  rw [if_neg (by omega)]
 | n + 1, 0, _, _, h => by omega
 | n + 1, m + 1, f, h, hm => by
  unfold grpP
  split
  ·rename_i hf
   have := Qmh (bend := bend) (ts := ts) hf
   rw [Qlk bend ts l n m _ (by omega) (by omega)]
  ·rfl
def grpF (bend : Int) (ts : List Int) (l f : Nat) : List (Nat × Nat) := grpP bend ts l (l + 1) f
theorem Qlj {bend : Int} {ts : List Int} {l f : Nat} (h : f ≤ l) : grpF bend ts l f = (f, endP bend ts l f) :: grpF bend ts l (endP bend ts l f + 1) := by
 have := Qmh (bend := bend) (ts := ts) h
 unfold grpF
 rw [show grpP bend ts l (l + 1) f = (f, endP bend ts l f) :: grpP bend ts l l (endP bend ts l f + 1) by rw [grpP, if_pos h]]
 rw [Qlk bend ts l l (l + 1) _ (by omega) (by omega)]
theorem Qs3 {bend : Int} {ts : List Int} {l f : Nat} (h : l < f) : grpF bend ts l f = [] := by
 unfold grpF grpP
 rw [if_neg (by omega)]
def Qey (t : Task) (bend : Int) (ts : List Int) (p : Nat × Nat) : Task := ⟨t.angle + bend - Qbm bend (ts.getD p.1 0), t.left - 1, t.number + 1, p.1, p.2⟩
structure OkTask (ts : List Int) (t : Task) : Prop where
 angle : 0 ≤ t.angle ∧ t.angle ≤ 1000
 left : 0 ≤ t.left ∧ t.left ≤ 100
 number : 0 ≤ t.number ∧ t.number ≤ 100
 first : 0 ≤ t.first ∧ t.first ≤ t.last
 last : t.last < ts.length
def Qc8 (c : Cane) (w : Span) (ts : List Int) : List V := [.i c.spring.low, .i c.spring.high, .sl 3 (c.bents.map eBent), .i c.wrong, .i c.limit, .i c.tire, .i w.low, .i w.high, .sl 1 (ts.map eI), .mp 1 0]
def gB (mp : V) (c : Cane) (w : Span) (ts : List Int) : List V := [mp, bV (.cells 0 (Qc8 c w ts)), bV (.cells 0 [.ad 2 0 0]), bV (.cells 0 [.ad 2 0 0])]
def okTs (ts : List Int) : Prop := ts.length ≤ 1000 ∧ ∀ k ∈ ts, tame 1000 k
def ysG (t : Task) (bend : Int) (ts : List Int) (f : Nat) : List (List V) := (grpF bend ts t.last.toNat f).map fun p => gyE [.ag (Qbq (Qey t bend ts p))] []
set_option maxHeartbeats 1000000 in
theorem W106 (al : List V → Prop) (c : Cane) (w : Span) (ts : List Int) (t : Task) (bend : Int) (l : Nat) (mp : V) (hal : ∀ bv, al bv → ∃ mp, bv = gB mp c w ts) (ht : OkTask ts t) (hts : okTs ts) (hb : tame 1000 bend) (ha0 : al (gB mp c w ts)) :
  Qia Try.prog 106 al [.yl l, .pa (Qbq t), .pa [.i bend], .ad 4 0 0] (.gh [.yl l, .pa (Qbq t), .pa [.i bend], .ad 4 0 0] (some ((.b true :: gB mp c w ts) :: ysG t bend ts t.first.toNat)) :: (gB mp c w ts).map vB)
   (RIt al [.yl l, .pa (Qbq t), .pa [.i bend], .ad 4 0 0]) := by
 refine Qjc (Qs8.wal al) hmix Try.func106 cb106 (lo := 5) cc106 cs106 (by exact cn106) (by simp [gB]) (by decide) ?_
 have hG1 : ∀ a b, (H16.wal al) 87 [.i a, .i b] = (tame 1000000 a ∧ tame 1000000 b, .i (Qbm a b)) := fun a b => h87 a b
 have hyal : (H16.wal al).al = al := rfl
 have hfn : (t.first.toNat : Int) = t.first := by have := ht.first; omega
 have hln : (t.last.toNat : Int) = t.last := by have := ht.first; omega
 have hll : t.last.toNat < ts.length := by have := ht.last; have := ht.first; omega
 have k1 := ht.angle
 have k2 := ht.left
 have k3 := ht.number
 have k4 := hts.1
 simp only [rc106, rs106, gB, Qa7, Qa8, Qab, Qa6, Qao, Qad, Qa4, Qa1, Fam.step, Qaf, evO, opv, qv, ldV, Qa2, Qa0, Qa3, ↓reduceIte, Nat.reduceEqDiff, Nat.reduceAdd, Nat.reduceLeDiff, Qa, Qb, Qe, Qf, Qj, Qq, Qn, rv1, resV, zipA, Qh, Qd, true_and, reduceCtorEq, Qbq]
 refine Qhm (fun k σ => ∃ (f : Nat) (mp : V), f ≤ t.last.toNat + 1 ∧ k = t.last.toNat + 1 - f ∧ al (gB mp c w ts) ∧ σ = ⟨lkp [(0, .yl l), (1, .pa (Qbq t)), (2, .pa [.i bend]), (3, .ad 4 0 0), (5, .i f)], Blk.gh [V.yl l, .pa (Qbq t), .pa [.i bend], .ad 4 0 0] (some ((.b true :: gB mp c w ts) :: ysG t bend ts f)) :: (gB mp c w ts).map vB⟩) ⟨_, t.first.toNat, mp, ?_, rfl, ha0, ?_⟩ ?_
 ·have := ht.first; omega
 ·simp only [gB, hfn, Qao, kp, Qa0, Qa3, ↓reduceIte, Nat.reduceEqDiff, Qa, Qb, reduceCtorEq, Qbq]
 ·rintro k _ ⟨f, mp, hf, rfl, ha, rfl⟩
  by_cases hfl : f ≤ t.last.toNat
  ·have hlt : (f : Int) ≤ t.last := by omega
   obtain ⟨x, hx⟩ : ∃ x, ts[f]? = some x := ⟨_, Ql (by omega)⟩
   have tx := hts.2 x (Qx hx)
   have hxd : ts.getD f 0 = x := by rw [Qc, hx]; rfl
   have tt : tame 1000000 bend ∧ tame 1000000 x := by unfold tame at *; omega
   have hfi : (f : Int) < ts.length := by omega
   have bx := Qdh hb tx
   have hv0 : Qbm bend (ts.getD f 0) = Qbm bend x := by rw [hxd]
   have hstart : toF bend (Qbm bend x) ts t.last.toNat f = endP bend ts t.last.toNat f := by unfold endP; rw [hv0]
   obtain ⟨v, hv⟩ : ∃ v, v = Qbm bend x := ⟨_, rfl⟩
   rw [← hv] at bx hstart hv0
   simp only [gB, Qao, Qc8, hlt, hx, hfi, hG1, tt, ← hv, Qaj, Qa7, Qb5, Qa8, Qai, Qab, Qa6, Qb2, Qao, Qad, Qa4, Qa1, Fam.step, Qaf, runX, eff, Qb1, fpR, fpQ, fpV, Qbi, hits, evO, opv, qv, binV, ldV, iadV, curG, Qar, Qaa, Qa5, flat, kp, Qa2, Qa0, Qa3, ↓reduceIte, Nat.reduceEqDiff, Nat.reduceAdd, Nat.reduceLT, Nat.reduceLeDiff, Qa, Qb, Q0, Qe, Qf, Qj, Qq, Qn, Qv, Qr, Qk, Qg, Qm, Qw, Qt, Ze, Q3, Zf, vw_i, Q7, beq_self_eq_true, Qh, Qu, Q1, Zl, Qo, Zi, Zm, Qd, decide_true, true_and, and_self, implies_true, reduceCtorEq, Q8, Zn, Zc, Zb, Qp, Q9, Qc, Qy, Qbq, eI]
   refine Qhm (fun k σ => ∃ to : Nat, f ≤ to ∧ to ≤ t.last.toNat ∧ k = t.last.toNat - to ∧ toF bend v ts t.last.toNat to = endP bend ts t.last.toNat f ∧ σ = ⟨lkp [(0, .yl l), (1, .pa (Qbq t)), (2, .pa [.i bend]), (3, .ad 4 0 0), (5, .i f), (6, .i to), (7, .i v)], .gh [.yl l, .pa (Qbq t), .pa [.i bend], .ad 4 0 0] (some ((.b true :: gB mp c w ts) :: ysG t bend ts f)) :: (gB mp c w ts).map vB⟩) ⟨_, f, Zq _, hfl, rfl, hstart, ?_⟩ ?_
   ·simp only [gB, Qao, Qc8, Qao, kp, Qa0, Qa3, ↓reduceIte, Nat.reduceEqDiff, Qa, Qb, reduceCtorEq, Qbq]
   ·rintro k _ ⟨to, hto, htol, rfl, hend, rfl⟩
    by_cases hc : to < t.last.toNat
    ·have hlt2 : (to : Int) < t.last := by omega
     obtain ⟨y, hy⟩ : ∃ y, ts[to + 1]? = some y := ⟨_, Ql (by omega)⟩
     have ty := hts.2 y (Qx hy)
     have hyd : ts.getD (to + 1) 0 = y := by rw [Qc, hy]; rfl
     have tt2 : tame 1000000 bend ∧ tame 1000000 y := by unfold tame at *; omega
     have e1 : (to : Int) + 1 = ((to + 1 : Nat) : Int) := by omega
     have i1 : inI (((to + 1 : Nat) : Int)) := by unfold inI; omega
     have i2 : ((to + 1 : Nat) : Int) < ts.length := by omega
     by_cases hc2 : Qbm bend y = v
     ·have hst := Qsu (bend := bend) (v := v) (ts := ts) (l := t.last.toNat) (t := to) ⟨hc, by rw [hyd]; exact hc2⟩
      simp only [gB, Qao, Qc8, hlt2, e1, i1, i2, hy, hG1, tt2, hc2, Qaj, Qa7, Qb5, Qa8, Qai, Qab, Qa6, Qb2, Qao, Qad, Qal, Qa4, Qa1, Fam.step, Qaf, Qb9, Qaz, ug, runX, eff, Qb1, fpR, fpQ, fpV, Qbi, hits, evO, opv, qv, Qak, binV, ldV, iadV, curG, Qar, Qaa, Qa5, flat, kp, Qa2, Qa0, Qa3, ↓reduceIte, Nat.reduceEqDiff, Nat.reduceAdd, Nat.reduceLT, Nat.reduceLeDiff, Qa, Qb, Qz, Q0, Qe, Qf, Qj, Qq, Qn, Qv, Qr, Qk, Qg, Qm, Qw, Qt, Ze, Q3, Zf, vw_i, Q7, beq_self_eq_true, Qh, Qu, Q1, Zl, Qo, Zi, Zm, Qd, Zr, decide_true, true_and, and_self, forall_const, implies_true, reduceCtorEq, Q8, Zn, Zc, Zb, Qp, Q9, Qc, Qy, Qbq, eI]
      refine ⟨t.last.toNat - (to + 1), by omega, to + 1, by omega, by omega, rfl, by rw [← hst]; exact hend, ?_⟩
      simp only []
     ·have hst := Qo1 (bend := bend) (v := v) (ts := ts) (l := t.last.toNat) (t := to) (fun h => hc2 (by have := h.2; rw [hyd] at this; exact this))
      have e0 : endP bend ts t.last.toNat f = to := by rw [← hend]; exact hst
      have hys : ysG t bend ts f = [.tp [.ag (Qbq (Qey t bend ts (f, to)))], .tp []] :: ysG t bend ts (to + 1) := by
       unfold ysG
       rw [Qlj hfl, e0]; rfl
      have j1 : inI (t.angle + bend) ∧ inI (t.angle + bend - v) ∧ inI (t.left - 1) ∧ inI (t.number + 1) ∧ inI ((to : Int) + 1) := by unfold tame at *; unfold inI; omega
      simp only [gB, Qao, Qc8, hlt2, e1, i1, i2, hy, hG1, tt2, hc2, hys, Qey, j1, hyal, Qaj, Qa7, Qb5, Qa8, Qai, Qc3, Qat, Qac, Qa6, Qnz, yres, Qb2, Qao, endK, Qad, Qal, Qa4, Qa1, Fam.step, Qaf, Qb9, Qav, Qaz, ug, runX, eff, Qb1, fpR, fpQ, fpV, Qbi, hits, evO, opv, qv, Qak, binV, ldV, iadV, curG, Qar, Qap, putAt, Qba, V.cells, Qaq, Qaa, Qa5, flat, kp, Qa2, Qa0, Qa3, ↓reduceIte, Nat.reduceEqDiff, Nat.reduceAdd, Nat.reduceLT, Nat.reduceLeDiff, Qa, Qb, Qz, Q0, Qe, Qf, Qj, Qq, Zh, Qi, Q2, Qn, Qv, Qr, Qk, Qg, Qm, Qw, Qt, Ze, Q3, Zf, rvs, vw_i, Q7, beq_self_eq_true, Qh, Qu, Q1, Zl, Qo, Zi, Zm, Qd, Zr, decide_true, decide_false, true_and, and_self, forall_const, implies_true, reduceCtorEq, Q8, Zn, Zc, Zb, Zo, Q4, Qp, Q9, Qc, Qy, Zd, Qbq, eI]
      refine ⟨by rw [← Qc, hv0], fun b bv' hbv => ⟨fun e => ?_, fun e => ?_⟩⟩
      ·subst e
       exact ⟨false, bv', [], [], by simp, (fun h => by cases h), hbv⟩
      ·subst e
       obtain ⟨mp', rfl⟩ := hal _ hbv
       refine ⟨t.last.toNat + 1 - (to + 1), by omega, to + 1, mp', by omega, rfl, hbv, ?_⟩
       simp only [gB, Qao, Qc8, Q5, Q6, Qao, ↓reduceIte, Qa, Qb]
    ·have hlt2 : ¬ (to : Int) < t.last := by omega
     have hst := Qo1 (bend := bend) (v := v) (ts := ts) (l := t.last.toNat) (t := to) (fun h => hc h.1)
     have e0 : endP bend ts t.last.toNat f = to := by rw [← hend]; exact hst
     have hys : ysG t bend ts f = [.tp [.ag (Qbq (Qey t bend ts (f, to)))], .tp []] :: ysG t bend ts (to + 1) := by
      unfold ysG
      rw [Qlj hfl, e0]; rfl
     have j1 : inI (t.angle + bend) ∧ inI (t.angle + bend - v) ∧ inI (t.left - 1) ∧ inI (t.number + 1) ∧ inI ((to : Int) + 1) := by unfold tame at *; unfold inI; omega
     simp only [gB, Qao, Qc8, hlt2, hys, Qey, j1, hyal, Qaj, Qa7, Qb5, Qa8, Qai, Qc3, Qat, Qac, Qa6, Qnz, yres, Qb2, Qao, endK, Qad, Qal, Qa4, Qa1, Fam.step, Qaf, Qb9, Qav, Qaz, ug, runX, eff, Qb1, fpR, fpQ, fpV, Qbi, hits, evO, opv, qv, Qmr, binV, ldV, iadV, curG, Qar, Qap, putAt, Qba, V.cells, Qaq, Qaa, Qa5, kp, Qa2, Qa0, Qa3, ↓reduceIte, Nat.reduceEqDiff, Nat.reduceAdd, Nat.reduceLT, Nat.reduceLeDiff, Qa, Qb, Qz, Q0, Qe, Qf, Qj, Qq, Zh, Qi, Q2, Qn, Qv, Qr, Qk, Qg, Qm, Qw, Ze, Q3, Zf, rvs, vw_i, beq_self_eq_true, Qh, Qu, Q1, Zl, Qo, Z6, Zi, Zm, Qd, decide_false, true_and, and_true, and_self, false_and, forall_const, implies_true, reduceCtorEq, Zn, Zc, Zb, beq_true, Zo, Q4, imp_self, Qp, Qc, Qy, Zd, Qbq]
     refine ⟨by rw [← Qc, hv0], fun b bv' hbv => ⟨fun e => ?_, fun e => ?_⟩⟩
     ·subst e
      exact ⟨false, bv', [], [], by simp, (fun h => by cases h), hbv⟩
     ·subst e
      obtain ⟨mp', rfl⟩ := hal _ hbv
      refine ⟨t.last.toNat + 1 - (to + 1), by omega, to + 1, mp', by omega, rfl, hbv, ?_⟩
      simp only [gB, Qao, Qc8, Q5, Q6, Qao, ↓reduceIte, Qa, Qb]
  ·have hlt : ¬ (f : Int) ≤ t.last := by omega
   simp only [gB, Qao, hlt, Qa7, Qa8, Qai, Qat, Qa6, Qao, endK, Qad, Qal, Qa4, Qa1, Fam.step, Qaf, evO, opv, qv, binV, ldV, kp, Qa2, Qa0, Qa3, ↓reduceIte, Nat.reduceEqDiff, Nat.reduceLeDiff, Qa, Qb, Qe, Qf, Qj, Qq, Qn, rvs, Qh, Qd, decide_false, true_and, reduceCtorEq, Qbq]
   have hn : ysG t bend ts f = [] := by unfold ysG; rw [Qs3 (by omega)]; rfl
   rw [hn]
   exact ⟨true, gB mp c w ts, [], [], by simp [gB, Qao], fun _ => rfl, ha⟩
end Go.C06
