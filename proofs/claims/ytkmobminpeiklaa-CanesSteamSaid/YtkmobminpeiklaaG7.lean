import Derived.Test.YtkmobminpeiklaaG6
import Derived.Test.YtkmobminpeiklaaG4
import Derived.Test.YtkmobminpeiklaaChecked
import Derived.RangeFuncLeaves
import Derived.WalkKit
import Derived.OwnWalkIn
import Derived.TacticsInMore
import Derived.LoopNIn
import Derived.LoopIn
import Derived.Shelf.Sort.Plain
import Derived.Test.YtkmobminpeiklaaProg
import Derived.Shelf.Slices.In.SortNone
set_option linter.all false
open List renaming map_cons → Qb, map_nil → Qc, length_cons → Qd, length_nil → Qe, getD_eq_getElem?_getD → Qf, drop_succ_cons → Qg, length_map → Qh, append_nil → Qj, headD_cons → Qk, take_succ_cons → Ql, getElem?_eq_getElem → Qn, drop_zero → Qo, getElem?_cons_zero → Qq, all_nil → Qr, all_cons → Qs, take_nil → Qu, nil_append → Qv, getElem?_nil → Qw, replicate_zero → Qx, cons_append → Qz, getElem?_map → Q0, getElem?_cons_succ → Q6, take_zero → Za, set_cons_zero → Zb, contains_nil → Zc, mem_of_getElem? → Zd, isEmpty_nil → Zf, replicate_succ → Zh, length_append → Zj, any_nil → Zk, drop_nil → Zl, flatten_nil → Zn, flatten_cons → Zo, length_singleton → Zr, pairwise_iff_getElem → Zs, any_eq_true → Zu, set_cons_succ → Zv, take_of_length_le → Zw, contains_cons → Zx, getElem?_eq_none → Zz, isEmpty_cons → Z0, getElem?_of_mem → Z5, take_length → Z6, getElem?_eq_some_iff → Z7, range → Z9, mem_singleton → Xa, length_take → Xe, any_cons → Xf, eq_nil_of_length_eq_zero → Xg, map_append → Xi, length_pos_iff → Xj, mem_range → Xl, nodup_iff_pairwise_ne → Xm, nodup_append → Xn, getElem_mem → Xo, mem_append → Xs, mem_iff_getElem → Xt, mem_cons_of_mem → Xu, append_toArray → Xv, mergeSort_perm → Xw, take_set_of_le → Xx, mem_cons → Xy, getElem?_take → X0, ext_getElem? → X2, size_toArray → X4, push_toArray → X5, take_sublist → X6, mem_flatMap → X8
open Nat renaming zero_add → Qi, le_refl → Zt, mul_one → Z4, add_zero → Xc, min_eq_left → Xr
open Bool renaming false_eq_true → Qa, or_false → Qm, and_self → Qp, and_true → Qy, not_true → Q1, false_and → Q4, not_false → Q5, true_eq_false → Zi, not_eq_true' → Zm, true_and → Zp, and_false → Zq, false_or → Zy, and_eq_true → Xd, decide_eq_true → Xk, not_eq_true → Xp, or_true → Xq, not_eq_false' → Xz, not_eq_false → X1, true_or → X3, not_not → X7
open Option renaming getD_some → Qt, map_some → Q7, getD_none → Ze, map_none → Xh
open Int renaming natCast_nonneg → Q2, toNat_natCast → Q3, natCast_add → Q8, natCast_one → Q9, natCast_zero → Zg, toNat_zero → Z3, lt_irrefl → Z8, le_refl → Xb
set_option linter.unusedSimpArgs false
set_option linter.unusedVariables false
namespace Go.C06
open Go.Fam Go.Proofs
theorem Qmk (a b : Int) : (ints a b).Pairwise (· < ·) := by
 rw [Zs]
 intro i j hi hj hij
 rw [Qfi] at hi hj
 have h1 := Qgs (lo := a) (hi := b) (k := i) hi
 have h2 := Qgs (lo := a) (hi := b) (k := j) hj
 rw [Z7] at h1 h2
 obtain ⟨_, h1⟩ := h1
 obtain ⟨_, h2⟩ := h2
 rw [h1, h2]; omega
theorem Qep (c : Cane) : (Qa9 c).Pairwise (· < ·) := (Qmk _ _).sublist List.filter_sublist
theorem Qj8 {l : List Int} (h : l.Pairwise (· < ·)) {k : Int} (hk : k ∈ l) : l.getD 0 0 ≤ k ∧ k ≤ l.getD (l.length - 1) 0 := by
 obtain ⟨i, hi, rfl⟩ := Xt.1 hk
 rw [Zs] at h
 simp only [Qf]
 rw [Qn (show 0 < l.length by omega), Qn (show l.length - 1 < l.length by omega)]
 simp only [Qt]
 constructor
 ·by_cases e : i = 0
  ·subst e; exact Xb _
  ·have := h 0 i (by omega) hi (by omega); omega
 ·by_cases e : i = l.length - 1
  ·subst e; exact Xb _
  ·have := h i (l.length - 1) hi (by omega) (by omega); omega
theorem Qoz {c : Cane} {k : Int} (hk : k ∈ Qa9 c) : trF c ≤ k ∧ k ≤ trL c := Qj8 (Qep c) hk
theorem Qfd {k k' : Int} (hk : 0 ≤ k) (h : k ≤ k') : ∀ {l : List Int}, (∀ n ∈ l, 1 ≤ n ∧ n ≤ 90) → Qb4 l k' ≤ Qb4 l k := by
 intro l
 induction l with
 | nil => intro _; exact Xb _
 | cons n l ih =>
  intro hl
  have h1 := Qpa (b := n) (by have := hl n (by simp); omega) hk h
  have h3 := ih fun m hm => hl m (by simp [hm])
  unfold Qb4 at h3 ⊢
  simp only [Qb, List.sum_cons]
  omega
theorem Qv3 {c : Cane} (ht : Qa9 c ≠ []) : trF c ∈ Qa9 c := by
 unfold trF
 have := Xj.2 ht
 rw [Qf, Qn this]
 exact Xo _
theorem Qv4 {c : Cane} (ht : Qa9 c ≠ []) : trL c ∈ Qa9 c := by
 unfold trL
 have := Xj.2 ht
 rw [Qf, Qn (show (Qa9 c).length - 1 < (Qa9 c).length by omega)]
 exact Xo _
theorem Qs2 {c : Cane} (hc : OkC c) (ht : Qa9 c ≠ []) {l : List Int} (hl : ∀ n ∈ l, 1 ≤ n ∧ n ≤ 90) (w : Span) :
  Qcu l w (Qa9 c) = (Qa9 c).length ↔ w.low ≤ Qb4 l (trL c) ∧ Qb4 l (trF c) ≤ w.high := by
 unfold Qcu
 rw [List.countP_eq_length]
 simp only [Qan, Xd, decide_eq_true_eq]
 constructor
 ·intro h
  exact ⟨(h _ (Qv4 ht)).1, (h _ (Qv3 ht)).2⟩
 ·intro h k hk
  have h1 := Qoz hk
  have h2 := Qd8 hc hk
  have h3 := Qrj hc ht
  have h4 := Qfd (k := k) (k' := trL c) h2.1 h1.2 hl
  have h5 := Qfd (k := trF c) (k' := k) h3.1 h1.1 hl
  omega
def Qf1 (c : Cane) (ks : List Int) (w : Span) : Nat → List Int → Bool
 | 0, f => decide (Qcu f w ks = ks.length)
 | n + 1, f => (ints 1 (Qcp c f.length)).any fun b => Qf1 c ks w n (f ++ [b])
theorem Qob {c : Cane} (hc : OkC c) (ht : Qa9 c ≠ []) (w : Span) : ∀ (n : Nat) (f : List Int), Poss c f → (Qf1 c (Qa9 c) w n f = true ↔ ∃ m, m.length = n ∧ Sure c w (f ++ m)) := by
 intro n
 induction n with
 | zero =>
  intro f hf
  rw [Qf1, decide_eq_true_eq, Qs2 hc ht hf.in_]
  constructor
  ·intro h; exact ⟨[], rfl, by rw [Qj]; exact ⟨hf, h⟩⟩
  ·rintro ⟨m, hm, hs⟩
   rw [Xg hm, Qj] at hs
   exact hs.2
 | succ n ih =>
  intro f hf
  rw [Qf1, Zu]
  constructor
  ·rintro ⟨b, hb, h⟩
   rw [Qkk] at hb
   obtain ⟨m, hm, hs⟩ := (ih (f ++ [b]) (Qgw.2 ⟨hf, hb⟩)).1 h
   exact ⟨b :: m, by simp [hm], by simpa using hs⟩
  ·rintro ⟨m, hm, hs⟩
   cases m with
   | nil => simp at hm
   | cons b m =>
    have hp : Poss c (f ++ [b]) := by
     intro i hi
     have := hs.1 i (by simp at hi ⊢; omega)
     rw [show f ++ b :: m = (f ++ [b]) ++ m by simp, Qg7 hi] at this
     exact this
    refine ⟨b, Qkk.2 (Qgw.1 hp).2, (ih _ hp).2 ⟨m, by simpa using hm, by simpa using hs⟩⟩
theorem Qsg (c : Cane) : Poss c [] := fun i hi => absurd hi (Nat.not_lt_zero _)
theorem Qrz {c : Cane} (hc : OkC c) (ht : Qa9 c ≠ []) (w : Span) : fewN c w = (Z9 7).find? fun n => Qf1 c (Qa9 c) w n [] := by
 have key : ∀ n, Qf1 c (Qa9 c) w n [] = true ↔ ∃ m, m.length = n ∧ Sure c w m := fun n => by simpa using Qob hc ht w n [] (Qsg c)
 cases hf : (Z9 7).find? fun n => Qf1 c (Qa9 c) w n [] with
 | none =>
  rw [Qlc]
  intro l hl
  refine Nat.lt_of_not_le fun h6 => ?_
  rw [List.find?_eq_none] at hf
  exact hf l.length (by simp; omega) ((key _).2 ⟨l, rfl, hl⟩)
 | some n =>
  rw [List.find?_eq_some_iff_getElem] at hf
  obtain ⟨h1, i, hi, he, hlt⟩ := hf
  simp only [List.length_range] at hi
  simp only [List.getElem_range] at he hlt
  subst he
  obtain ⟨m, hm, hs⟩ := (key _).1 h1
  refine Qld.2 ⟨by omega, ⟨m, hs, hm⟩, fun l hl => Nat.le_of_not_lt fun h6 => ?_⟩
  have := hlt l.length h6
  rw [(key _).2 ⟨l, rfl, hl⟩] at this
  cases this
def exC : Cane := ⟨⟨180, 220⟩, [⟨50, ⟨10, 10⟩⟩], 0, 40, 10⟩
def exS : Box := ⟨2, [⟨10, 5⟩, ⟨20, 3⟩, ⟨5, 4⟩]⟩
theorem Qwz : OkC exC := (Qqn _).1 (by decide +kernel)
theorem Qoc : Qa9 exC = (Z9 20).map fun (n : Nat) => (200 + n : Int) := by decide +kernel
theorem Qu3 : fewR exC ⟨31, 31⟩ = (2, 0) := by
 unfold fewR
 rw [if_pos (by decide +kernel), Qrz Qwz (by rw [Qoc]; decide)]
 have e : ((Z9 7).find? fun n => Qf1 exC (Qa9 exC) ⟨31, 31⟩ n []) = some 2 := by decide +kernel
 rw [e]; rfl
theorem Qn7 : (Qej exC ⟨31, 31⟩).1 = 2 ∧ (Qej exC ⟨31, 31⟩).2.2 = 0 := by decide +kernel
theorem Qt7 : stL exC ⟨0, 0⟩ [] = (Z9 20).map (fun (n : Nat) => (200 + n : Int)) ∧ stE exC ⟨0, 0⟩ [] = 0 := by decide +kernel
theorem Qps : Qd1 exC [39] = (⟨31, 32⟩, 0) := by decide +kernel
theorem Qpt : Qbs exS = (27, 0) := by decide +kernel
end Go.C06
set_option linter.unusedSimpArgs false
set_option linter.unusedVariables false
namespace Go.C06
open Go.Fam Go.Proofs
variable {Γ : Gam}
theorem W57 : Qah Try.prog 57 [] (.ag (Qae exC)) := by
 refine Qag Qoo hmix Try.func57 cb57 cc57 cs57 cn57 ?_
 simp only [rc57, rs57, Qa7, Qa8, Qac, Qa6, Qdt, putB, Qad, Qa4, Qa1, Fam.step, Qaf, Qbu, Qav, putB, nv, sv, evO, opv, qv, ldV, Qap, putAt, Qba, Qbg, V.cells, Qaq, Qb8, Qaa, Qa5, Qa2, Qbb, Qa0, Qa3, ↓reduceIte, Nat.reduceEqDiff, Nat.reduceAdd, Nat.reduceMul, Nat.reduceLeDiff, Qb, Qc, Qs, Qr, Qd, Qe, Qg, Qo, Zl, Ql, Za, Qu, Qz, Qv, Qj, Qq, Zb, Qx, Zh, endQ, rvs, rv1, resV, vw_i, Qax, Qaw, zipA, Qi, Qp, Qm, true_and, and_self, reduceCtorEq, not_false_eq_true, ne_eq, Qae]
 rfl
theorem W58 : Qah Try.prog 58 [] (.ag (eBox exS)) := by
 refine Qag Qoo hmix Try.func58 cb58 cc58 cs58 cn58 ?_
 simp only [rc58, rs58, Qa7, Qa8, Qac, Qa6, putB, Qad, Qa4, Qa1, Fam.step, Qaf, Qbu, Qav, putB, nv, sv, evO, opv, qv, ldV, Qap, putAt, Qba, Qbg, V.cells, Qaq, Qb8, Qaa, Qa5, Qa2, Qbb, Qa0, Qa3, ↓reduceIte, Nat.reduceEqDiff, Nat.reduceAdd, Nat.reduceMul, Nat.reduceLeDiff, Qb, Qc, Qs, Qr, Qd, Qe, Qg, Qo, Zl, Ql, Za, Qu, Qz, Qv, Qj, Qq, Zb, Qx, Zh, endQ, rvs, rv1, resV, vw_i, Qax, Qaw, zipA, Qi, Qp, Qm, true_and, and_self, reduceCtorEq, not_false_eq_true, ne_eq, eBox]
 rfl
def cst (v : V) : List V → Prop × V | [] => (True, v) | _ => (False, .u)
theorem Qph {f : Nat} {v : V} (h : Qah Try.prog f [] v) (vs : List V) (h2 : (cst v vs).1) : Qah Try.prog f vs (cst v vs).2 := by
 unfold cst at h2 ⊢
 split at h2
 ·exact h
 ·exact h2.elim
noncomputable def H30 : Gam := ((((H29.ext 57 (cst (.ag (Qae exC)))).ext 58 (cst (.ag (eBox exS)))).ext 34 (fnG eCI dCI (fun a => OkC a.1) (fun a => isTB a.1 a.2) .b)).ext 21 (fnG eLI dLI (fun a => Qdc a.1 ∧ tame 1000 a.2) (fun a => Qb4 a.1 a.2) .i)).ext 17 (fnG eCL dCL (fun a => OkC a.1) (fun a => areB a.1 a.2) .b)
theorem Quh : GOk Try.prog H30 := by
 have k1 := Qoo.ext (f := 57) (r := cst (.ag (Qae exC))) (fun a w => Try.call57 a w) (Qph W57)
 have k2 := k1.ext (f := 58) (r := cst (.ag (eBox exS))) (fun a w => Try.call58 a w) (Qph W58)
 have k3 := k2.ext (f := 34) (fun a w => Try.call34 a w) (Qb0 (e := eCI) (d := dCI) (ok := fun a => OkC a.1) (g := fun a => isTB a.1 a.2) (eb := .b) fun a h => W34 a.1 a.2 h)
 have k4 := k3.ext (f := 21) (fun a w => Try.call21 a w) (Qb0 (e := eLI) (d := dLI) (ok := fun a => Qdc a.1 ∧ tame 1000 a.2) (g := fun a => Qb4 a.1 a.2) (eb := .i) fun a h => W21 a.1 a.2 h)
 exact k4.ext (f := 17) (fun a w => Try.call17 a w) (Qb0 (e := eCL) (d := dCL) (ok := fun a => OkC a.1) (g := fun a => areB a.1 a.2) (eb := .b) fun a h => W17 a.1 a.2 h)
theorem h57 : H30 57 [] = (True, .ag (Qae exC)) := rfl
theorem h58 : H30 58 [] = (True, .ag (eBox exS)) := rfl
theorem h34 (c : Cane) (k : Int) : H30 34 [.ag (Qae c), .i k] = (OkC c, .b (isTB c k)) :=
 (show H30 34 _ = fnG eCI dCI (fun a => OkC a.1) (fun a => isTB a.1 a.2) .b (eCI (c, k)) from rfl).trans (Qb6 _ (Qtx _))
theorem h21 (l : List Int) (k : Int) : H30 21 [.sl 1 (l.map eI), .i k] = (Qdc l ∧ tame 1000 k, .i (Qb4 l k)) :=
 (show H30 21 _ = fnG eLI dLI (fun a => Qdc a.1 ∧ tame 1000 a.2) (fun a => Qb4 a.1 a.2) .i (eLI (l, k)) from rfl).trans (Qb6 _ (Qty _))
theorem Qvt (c : Cane)  : H30 19 [.ag (Qae c)] = (True, .tp [.sl 1 ((stL c ⟨0, 0⟩ []).map eI), .i (stE c ⟨0, 0⟩ [])]) := h19 c
theorem Qvu (c : Cane) (l : List Int)  : H30 20 [.ag (Qae c), .sl 1 (l.map eI)] = (True, .tp [.ag (Qau (Qd1 c l).1), .i (Qd1 c l).2]) := h20 c l
theorem Qvv (c : Cane) (w : Span)  : H30 25 [.ag (Qae c), .ag (Qau w)] = (True, .tp [.i (fewR c w).1, .i (fewR c w).2]) := h25 c w
theorem Qvw (c : Cane) (w : Span)  : H30 26 [.ag (Qae c), .ag (Qau w)] = (True, .tp [.i (Qej c w).1, .i (Qej c w).2.2]) := h26 c w
theorem Qvx (s : Box)  : H30 51 [.ag (eBox s)] = (True, .tp [.i (Qbs s).1, .i (Qbs s).2]) := h51 s
theorem eq23 : Qas Try.prog 23 2 := Qas.of (fs := _) (show Try.prog.underlying 23 = some (.struct (Try.prog.fieldsOf 23)) by kernel_rfl) (by kernel_rfl) (by kernel_rfl)
set_option maxRecDepth 100000 in
set_option maxHeartbeats 4000000 in
theorem W18 : Qah Try.prog 18 [] (.b true) := by
 refine Qag Quh hmix Try.func18 cb18 cc18 cs18 cn18 ?_
 obtain ⟨c, hc⟩ : ∃ c, c = exC := ⟨_, rfl⟩
 obtain ⟨s, hs⟩ : ∃ s, s = exS := ⟨_, rfl⟩
 obtain ⟨L, hL⟩ : ∃ L : List Int, L = (Z9 20).map fun (n : Nat) => (200 + n : Int) := ⟨_, rfl⟩
 have g1 := Qvt c
 have g2 := Qvu c [39]
 have g3 := Qvv c ⟨31, 31⟩
 have g4 := Qvw c ⟨31, 31⟩
 have g5 := Qvx s
 have g6 := h57
 have g7 := h58
 rw [hc, Qt7.1, Qt7.2, ← hL, ← hc] at g1
 rw [hc, Qps, ← hc] at g2
 rw [hc, Qu3, ← hc] at g3
 rw [hc, Qn7.1, Qn7.2, ← hc] at g4
 rw [hs, Qpt, ← hs] at g5
 rw [← hc] at g6
 rw [← hs] at g7
 have l1 : (L.length : Int) = 20 := by rw [hL]; rfl
 have l2 : L[0]? = some 200 := by rw [hL]; rfl
 clear hL hc hs
 unfold Qae at g1 g2 g3 g4 g6
 unfold eBox at g5 g7
 simp only [Qb, Qc, Qau, eI] at g1 g2 g3 g4 g5 g6 g7
 simp only [rc18, rs18, g1, g2, g3, g4, g5, g6, g7, l1, l2, Qa7, Qa8, Qac, Qa6, Qdt, putB, Qad, Qa4, Qa1, Fam.step, Qaf, Qbu, Qb9, Qav, Qaz, ug, putB, nv, sv, evO, opv, qv, Qak, binV, ldV, iadV, lenV, Qar, Qap, putAt, Qba, Qbg, V.cells, Qaq, Qb8, Qce, Qaa, Qa5, flat, Qd3, Qa2, Qbb, Qa0, Qa3, ↓reduceIte, Nat.reduceEqDiff, Nat.reduceAdd, Nat.reduceMul, Nat.reduceLT, Nat.reduceLeDiff, Z3, Int.reduceLT, Int.reduceLE, Qb, Qc, Qs, Qr, Qd, Qe, Qg, Qo, Zl, Ql, Za, Qu, Qk, Qz, Qv, Qj, Qq, Q6, Qt, Zb, Zv, Qx, Zh, endQ, rvs, rv1, resV, vw_i, vw_b, Qax, Qaw, zipA, beq_self_eq_true, Qi, V.b.injEq, Qp, Qy, Zq, Qm, Qa, Zi, decide_true, true_and, and_true, and_self, forall_const, implies_true, reduceCtorEq, not_false_eq_true, ne_eq, Q7, beq_true, Qg9, Xk, imp_self, Qh, Qf, Q0, eI]
 exact ⟨eq23, rfl⟩
theorem W71 (c : Cane) (h : OkC c) : Qah Try.prog 71 [.ag (Qae c)] (.sl 1 ((Qa9 c).map eI)) := by
 refine Qag Quh hmix Try.func71 cb71 cc71 cs71 cn71 ?_
 have k1 := h.low
 have k2 := h.le
 have k3 := h.high
 have k4 := h.spread
 simp only [rc71, rs71, Qa7, Qa8, Qab, Qa6, Qny, Qad, Qa4, Qa1, Fam.step, Qaf, evO, opv, qv, ldV, V.cells, Qaq, Qaa, Qa5, Qa2, Qa0, Qa3, ↓reduceIte, Nat.reduceEqDiff, Nat.reduceAdd, Nat.reduceLeDiff, Qb, Qc, Qd, Qe, Qo, Qk, Qv, vw_i, Qax, Qaw, zipA, Qi, Qm, Qa, true_and, and_self, Qae]
 obtain ⟨T, hT⟩ : ∃ T : Nat → List Int, T = fun i => ((ints c.spring.low c.spring.high).take i).filter (Qe8 c) := ⟨_, rfl⟩
 have hlen : ∀ i, (T i).length ≤ 41 := fun i => by
  rw [hT]
  refine Nat.le_trans (List.length_filter_le _ _) ?_
  rw [Xe, Qfi]; omega
 refine Qc4 (c.spring.high + 1 - c.spring.low).toNat (fun i => ⟨lkp [(1, .pa (Qae c)), (3, .rf 0 (T i).length 0 (T i).length 1), (4, .i (c.spring.low + i))], [.cells (T i).length ((T i).map V.i)]⟩) ?_ ?_ ?_
 ·have h0 : T 0 = [] := by rw [hT]; rfl
  simp only [Zg, Int.add_zero, h0, kp, Qa0, Qa3, ↓reduceIte, Nat.reduceEqDiff, Qb, Qc, Qe, Qae]
 ·intro i hi
  have hx := Qgs hi
  have hlt : c.spring.low + (i : Int) ≤ c.spring.high := by omega
  have h3 : inI (c.spring.low + (i : Int) + 1) := by unfold inI; omega
  have g1 := h34 c (c.spring.low + i)
  unfold Qae at g1
  have hw : isTB c (c.spring.low + i) = Qe8 c (c.spring.low + i) := by
   have : Qan (c.spring.low + i) c.spring.low c.spring.high = true := by simp only [Qan, Xd, decide_eq_true_eq]; omega
   simp [isTB, this]
  have hs : T (i + 1) = if Qe8 c (c.spring.low + i) = true then T i ++ [c.spring.low + i] else T i := by
   rw [hT]
   simp only [Qb7 hx, List.filter_append, List.filter_cons, List.filter_nil]
   split <;> simp
  have hl1 := hlen i
  have hl2 : ((T i).map V.i).length = (T i).length := by simp
  have hfl : Qbj ((T i).length + 1) := by unfold Qbj; omega
  have happ : (T i).map V.i ++ [V.i (c.spring.low + i)] = (T i ++ [c.spring.low + (i : Int)]).map V.i := by simp
  simp only [hlt, g1, h, hw, Qaj, Qa7, Qa8, Qai, Qc3, Qab, Qa6, Qdt, putB, Qad, Qal, Qa4, Qa1, Fam.step, Qaf, Qbu, Qav, putB, nv, sv, Qcl, evO, opv, qv, binV, ldV, Qar, Qap, putAt, Qba, Qbg, V.cells, Qaq, Qb8, Qaa, Qa5, flat, kp, Qa2, Qa0, Qa3, ↓reduceIte, Nat.reduceEqDiff, Nat.reduceAdd, Nat.reduceMul, Nat.reduceLT, Nat.reduceLeDiff, Qb, Qc, Qs, Qr, Qd, Qe, Qg, Qo, Ql, Za, Qu, Qk, Qz, Qv, Qj, Qq, Zb, Qx, Zh, vw_i, Qax, Qaw, Qi, Qp, Qm, Qa, decide_true, true_and, and_self, implies_true, reduceCtorEq, not_false_eq_true, ne_eq, Qh, Xp, Qae]
  refine ⟨fun e => ?_, fun e => ?_⟩
  ·rw [if_pos e] at hs
   simp only [hs, hfl, happ, h3, Z4, Q8, Q9, Zo, Zn, Zj, Qd, Qe, Qi, Qd, Qe, Qj, Qi, true_and, and_self]
   rw [Int.add_assoc]
  ·rw [if_neg (by simp [e])] at hs
   simp only [hs, h3, Q8, Q9, true_and]
   rw [Int.add_assoc]
 ·have hgt : ¬ (c.spring.low + ((c.spring.high + 1 - c.spring.low).toNat : Int) ≤ c.spring.high) := by omega
  have hE : T (c.spring.high + 1 - c.spring.low).toNat = Qa9 c := by
   rw [hT]
   simp only
   rw [Zw (by rw [Qfi]; omega)]; rfl
  simp only [hgt, hE, Z4, Zt, Qn4, vw_I, Qa7, Qa8, Qai, Qat, Qac, Qa6, Qad, Qal, Qa4, Qa1, Fam.step, Qaf, evO, opv, qv, binV, ldV, Qa2, Qa0, Qa3, ↓reduceIte, Nat.reduceEqDiff, Nat.reduceAdd, Nat.reduceLeDiff, Qb, Qc, Qd, Qe, Qg, Qo, Qk, Qq, endQ, rvs, rv1, resV, Qfv, Qi, Qa, decide_false, and_self, Qh, Qae]
noncomputable def H31 : Gam := (H30.ext 18 (cst (.b true))).ext 71 (fnG eC1 dC1 OkC Qa9 fun l => .sl 1 (l.map eI))
theorem Qui : GOk Try.prog H31 := (Quh.ext (f := 18) (r := cst (.b true)) (fun a w => Try.call18 a w) (Qph W18)).ext (f := 71) (fun a w => Try.call71 a w) (Qb0 (e := eC1) (d := dC1) (ok := OkC) (g := Qa9) (eb := fun l => .sl 1 (l.map eI)) fun c h => W71 c h)
theorem h18 : H31 18 [] = (True, .b true) := rfl
theorem h71 (c : Cane) : H31 71 [.ag (Qae c)] = (OkC c, .sl 1 ((Qa9 c).map eI)) := (show H31 71 _ = fnG eC1 dC1 OkC Qa9 (fun l => .sl 1 (l.map eI)) (eC1 c) from rfl).trans (Qb6 _ (Ql8 _))
theorem Qw0 (n lo hi : Int)  : H31 56 [.i n, .i lo, .i hi] = (True, .b (Qan n lo hi)) := h56 n lo hi
theorem Qvz (c : Cane) (b i : Int)  : H31 37 [.ag (Qae c), .i b, .i i] = (Qdo c i, .b (Qhi c b i)) := h37 c b i
theorem Qvy (c : Cane)  : H31 16 [.ag (Qae c)] = (True, .i (Qca c)) := h16 c
theorem Qw1 (w : Span)  : H31 89 [.ag (Qau w)] = (True, .b (Qbl w 540)) := h89 w
theorem W42 (c : Cane) (h : OkC c) : Qah Try.prog 42 [.ag (Qae c)] (.sl 1 ((Qa9 c).map eI)) := by
 refine Qag Qui hmix Try.func42 cb42 cc42 cs42 cn42 ?_
 have g1 := h71 c
 unfold Qae at g1
 simp only [rc42, rs42, g1, h, Qa7, Qa8, Qac, Qa6, Qad, Qa4, Qa1, Fam.step, Qaf, evO, opv, qv, ldV, Qar, V.cells, Qaq, Qaa, Qa5, flat, Qa2, Qa0, Qa3, ↓reduceIte, Nat.reduceEqDiff, Nat.reduceAdd, Nat.reduceLT, Nat.reduceLeDiff, Qb, Qc, Qd, Qe, Ql, Qu, Qj, endQ, rvs, rv1, resV, vw_i, Qax, Qaw, zipA, Qi, Qm, Qa, and_self, imp_self, Qae]
theorem Qqs {c : Cane} (h : OkC c) (b : Int) (i : Nat) : Qhi c b i = true ↔ 1 ≤ b ∧ b ≤ Qcp c i := by
 have h1 := h.limit
 have h2 := h.tire
 have h3 : 0 ≤ c.tire * (i : Int) := Int.mul_nonneg h2.1 (by omega)
 simp only [Qhi, Qcp, Xd, decide_eq_true_eq]
 omega
theorem W62 (c : Cane) (l : List Int) (w : Span) : Qah Try.prog 62 [.ag (Qae c), .sl 1 (l.map eI), .ag (Qau w)] (.tp [.sl 1 ((stL c w l).map eI), .i (stE c w l)]) := by
 refine Qag Qui hmix Try.func62 cb62 cc62 cs62 cn62 ?_
 have g1 := Qvy c
 have g2 := Qw1 w
 have g4 := h71 c
 unfold Qae at g1 g4
 unfold Qau at g2
 simp only [rc62, rs62, g1, Qaj, Qa7, Qa8, Qai, Qc3, Qab, Qac, Qa6, Qad, Qa4, Qa1, Fam.step, Qaf, Qb9, Qaz, ug, evO, opv, qv, binV, ldV, lenV, Qar, V.cells, Qaq, Qaa, Qa5, flat, Qa2, Qa0, Qa3, ↓reduceIte, Nat.reduceEqDiff, Nat.reduceAdd, Nat.reduceLT, Nat.reduceLeDiff, Qb, Qc, Qs, Qr, Qd, Qe, Ql, Qu, Qj, Qw, endQ, rvs, rv1, resV, vw_i, vw_z, Qax, Qaw, Qci, zipA, Qi, Qp, Qy, Qm, Qa, decide_eq_true_eq, decide_eq_false_iff_not, true_and, and_true, and_self, false_implies, implies_true, reduceCtorEq, beq_false, Zm, imp_self, Qh, Xp, Classical.not_not, Qau, Qae]
 refine ⟨fun h => ?_, fun h => ?_⟩
 ·have e : stE c w l = Qca c := by unfold stE; rw [if_pos h]
  have e2 : stL c w l = [] := by unfold stL; rw [e, if_neg h]
  simp only [e, e2, Qc]
 ·have hC := Qhy.1 h
  simp only [g2, Qak, decide_eq_true_eq, true_and, and_true, Qje, imp_self]
  refine ⟨fun hb => ?_, fun hb => ?_⟩
  ·have e : stE c w l = 1 := by
    unfold stE
    rw [if_neg (by simp [h]), if_pos]
    by_cases h1 : Qbl w 540 = true
    ·left
     simp [h1] at hb
     omega
    ·right; left; simpa using h1
   have e2 : stL c w l = [] := by unfold stL; rw [e]; rfl
   simp only [e, e2, Qc]
  ·have hl6 : l.length ≤ 6 ∧ Qbl w 540 = true := by
    simp only [Bool.or_eq_false_iff, decide_eq_false_iff_not, Xz] at hb
    exact ⟨by omega, hb.2⟩
   refine Qc5 l.length (fun i => ⟨lkp [(1, .sl 1 (l.map eI)), (3, .pa (Qae c)), (9, .i i)], []⟩) (fun i => ∀ (j : Nat) n, j < i → l[j]? = some n → Qan n 1 90 = true) ?_ ?_ ?_ ?_
   ·simp only [Zg, kp, Qa0, Qa3, ↓reduceIte, Nat.reduceEqDiff, Qb, Qc, Qae]
   ·intro j n hj; omega
   ·intro i hi hcr
    obtain ⟨n, hn⟩ : ∃ n, l[i]? = some n := ⟨_, Qn hi⟩
    have hlt : (i : Int) < l.length := by omega
    have h4 : inI ((i : Int) + 1) := by unfold inI; omega
    simp only [hn, hlt, Qw0, h4, Q8, Q9, Qaj, Qa7, Qa8, Qai, Qc3, Qab, Qac, Qa6, Qad, Qal, Qa4, Qa1, Fam.step, Qaf, evO, opv, qv, binV, ldV, iadV, lenV, Qar, Qaa, Qa5, flat, kp, Qa2, Qa0, Qa3, ↓reduceIte, Nat.reduceEqDiff, Nat.reduceLT, Nat.reduceLeDiff, Qb, Qc, Qd, Qe, Qk, Qj, Qw, Qt, endQ, rvs, rv1, resV, vw_i, vw_z, Qci, Q2, Qi, Qm, Qa, decide_true, true_and, and_true, and_self, implies_true, Q7, Zm, Qh, Q3, Qf, Q0, X1, Qae, eI]
    refine ⟨fun hw => ?_, fun hw => ?_⟩
    ·have e : stE c w l = 1 := by
      unfold stE
      rw [if_neg (by simp [h]), if_pos]
      right; right
      rw [Zu]
      exact ⟨n, Zd hn, by simpa using hw⟩
     have e2 : stL c w l = [] := by unfold stL; rw [e]; rfl
     simp only [e, e2, Qc]
    ·intro j m hj hm
     by_cases hji : j < i
     ·exact hcr j m hji hm
     ·have : j = i := by omega
      subst this
      rw [hn] at hm; cases hm
      simpa using hw
   ·intro hcr
    have h77 : ¬ ((l.length : Int) < l.length) := by omega
    have hns : ¬ (6 < l.length ∨ Qbl w 540 = false ∨ (l.any fun n => !Qan n 1 90) = true) := by
     rintro (h1 | h1 | h1)
     ·omega
     ·rw [hl6.2] at h1; cases h1
     ·rw [Zu] at h1
      obtain ⟨n, hn, hn2⟩ := h1
      obtain ⟨j, hj⟩ := Z5 hn
      rw [hcr j n (Qam hj) hj] at hn2
      cases hn2
    simp only [h77, Qa7, Qa8, Qai, Qab, Qat, Qa6, Qad, Qal, Qa4, Qa1, Fam.step, Qaf, evO, opv, qv, binV, lenV, Qa2, Qa0, Qa3, ↓reduceIte, Nat.reduceEqDiff, Qb, Qc, Qa, decide_false, true_and, Qh, Qae]
    refine Qc5 l.length (fun i => ⟨lkp [(1, .sl 1 (l.map eI)), (3, .pa (Qae c)), (10, .i i)], []⟩) (fun i => ∀ j : Nat, j < i → ¬ Qcp c j < l.getD j 0) ?_ ?_ ?_ ?_
    ·simp only [Zg, kp, Qa0, Qa3, ↓reduceIte, Nat.reduceEqDiff, Qb, Qc, Qae]
    ·intro j hj; omega
    ·intro i hi hc2
     obtain ⟨n, hn⟩ : ∃ n, l[i]? = some n := ⟨_, Qn hi⟩
     have hd : l.getD i 0 = n := by rw [Qf, hn]; rfl
     have hlt : (i : Int) < l.length := by omega
     have h4 : inI ((i : Int) + 1) := by unfold inI; omega
     have g5 := Qvz c n i
     unfold Qae at g5
     have hm := hC.most (i := i) (by unfold tame; omega)
     have hw := hcr i n hi hn
     have hp := Qqs hC n i
     simp only [Qan, Xd, decide_eq_true_eq] at hw
     simp only [hn, hlt, g5, hm, h4, Q8, Q9, Qaj, Qa7, Qb5, Qa8, Qai, Qc3, Qab, Qac, Qa6, Qb2, Qad, Qal, Qa4, Qa1, Fam.step, Qaf, runX, eff, Qb1, fpR, fpQ, fpV, Qbi, hits, evO, opv, qv, binV, ldV, iadV, lenV, Qar, Qaa, Qa5, flat, kp, Qa2, Qa0, Qa3, ↓reduceIte, Nat.reduceEqDiff, Nat.reduceAdd, Nat.reduceLT, Nat.reduceLeDiff, Qb, Qc, Qr, Qd, Qe, Ql, Qu, Qk, Qz, Qv, Qj, Qw, Qt, Ze, Qx, Zf, endQ, rvs, rv1, resV, vw_i, vw_z, Qax, Qaw, Qci, Q2, Qi, Qp, Qy, Q4, Qm, Q1, Q5, Qa, decide_true, true_and, and_true, and_self, implies_true, Q7, Zk, Zc, Zm, Qh, Q3, Qf, Q0, X1, Qae, eI]
     refine ⟨fun hq => ?_, fun hq => ?_⟩
     ·have e0 : Qfw c l = true := by
       unfold Qfw
       rw [Zu]
       refine ⟨i, by simpa using hi, ?_⟩
       rw [hd, decide_eq_true_eq]
       have : ¬ Qhi c n i = true := by simpa using hq
       rw [hp] at this
       omega
      have e : stE c w l = 61 := by unfold stE; rw [if_neg (by simp [h]), if_neg hns, if_pos e0]
      have e2 : stL c w l = [] := by unfold stL; rw [e]; rfl
      simp only [e, e2, Qc]
     ·intro j hj
      by_cases hji : j < i
      ·rw [← Qf]; exact hc2 j hji
      ·have : j = i := by omega
       subst this
       rw [← Qf, hd]
       have := hp.1 (by simpa using hq)
       omega
    ·intro hc2
     have e0 : ¬ Qfw c l = true := by
      unfold Qfw
      rw [Zu]
      rintro ⟨i, hi, hi2⟩
      exact hc2 i (by simpa using hi) (by simpa using hi2)
     simp only [h77, g4, hC, Qaj, Qa7, Qa8, Qai, Qc3, Qat, Qac, Qa6, Qad, Qal, Qa4, Qa1, Fam.step, Qaf, evO, opv, qv, binV, ldV, lenV, Qar, Qaa, Qa5, flat, Qa2, Qa0, Qa3, ↓reduceIte, Nat.reduceEqDiff, Nat.reduceAdd, Nat.reduceLT, Nat.reduceLeDiff, Qb, Qc, Qd, Qe, Ql, Qu, Qj, Qw, endQ, rvs, rv1, resV, vw_i, vw_z, Qax, Qaw, Qci, Qi, Qm, Qa, decide_false, decide_eq_true_eq, true_and, and_self, imp_self, Qh, Qae]
     refine ⟨fun ht => ?_, fun ht => ?_⟩
     ·have ht : Qa9 c = [] := Xg (by omega)
      have e : stE c w l = 3 := by unfold stE; rw [if_neg (by simp [h]), if_neg hns, if_neg e0, if_pos ht]
      have e2 : stL c w l = [] := by unfold stL; rw [e]; rfl
      simp only [e, e2, Qc]
     ·have ht : ¬ Qa9 c = [] := fun e => by rw [e] at ht; simp at ht
      have e : stE c w l = 0 := by unfold stE; rw [if_neg (by simp [h]), if_neg hns, if_neg e0, if_neg ht]
      have e2 : stL c w l = Qa9 c := by unfold stL; rw [if_pos e]
      simp only [e, e2]
end Go.C06
set_option linter.unusedSimpArgs false
set_option linter.unusedVariables false
namespace Go.C06
open Go.Fam Go.Proofs
variable {Γ : Gam}
noncomputable def H32 : Gam := (H31.ext 42 (fnG eC1 dC1 OkC Qa9 fun l => .sl 1 (l.map eI))).ext 62 (fnG eCLS dCLS (fun _ => True) (fun a => (stL a.1 a.2.2 a.2.1, stE a.1 a.2.2 a.2.1)) fun r => .tp [.sl 1 (r.1.map eI), .i r.2])
theorem Quj : GOk Try.prog H32 := (Qui.ext (f := 42) (fun a w => Try.call42 a w) (Qb0 (e := eC1) (d := dC1) (ok := OkC) (g := Qa9) (eb := fun l => .sl 1 (l.map eI)) fun c h => W42 c h)).ext (f := 62) (fun a w => Try.call62 a w)
 (Qb0 (e := eCLS) (d := dCLS) (ok := fun _ => True) (g := fun a => (stL a.1 a.2.2 a.2.1, stE a.1 a.2.2 a.2.1)) (eb := fun r => .tp [.sl 1 (r.1.map eI), .i r.2]) fun a _ => W62 a.1 a.2.1 a.2.2)
theorem h62 (c : Cane) (l : List Int) (w : Span) : H32 62 [.ag (Qae c), .sl 1 (l.map eI), .ag (Qau w)] = (True, .tp [.sl 1 ((stL c w l).map eI), .i (stE c w l)]) :=
 (show H32 62 _ = fnG eCLS dCLS (fun _ => True) (fun a => (stL a.1 a.2.2 a.2.1, stE a.1 a.2.2 a.2.1)) (fun r => .tp [.sl 1 (r.1.map eI), .i r.2]) (eCLS (c, l, w)) from rfl).trans (Qb6 _ (Qwq _))
theorem Qw3 (n lo hi : Int)  : H32 56 [.i n, .i lo, .i hi] = (True, .b (Qan n lo hi)) := h56 n lo hi
theorem Qw2 (l : List Int) (k : Int)  : H32 21 [.sl 1 (l.map eI), .i k] = (Qdc l ∧ tame 1000 k, .i (Qb4 l k)) := h21 l k
theorem W27 (c : Cane) : Qah Try.prog 27 [.ag (Qae c)] (.tp [.sl 1 ((stL c ⟨0, 0⟩ []).map eI), .i (stE c ⟨0, 0⟩ [])]) := by
 refine Qag Quj hmix Try.func27 cb27 cc27 cs27 cn27 ?_
 have g1 := h62 c [] ⟨0, 0⟩
 unfold Qae Qau at g1
 simp only [Qc] at g1
 simp only [rc27, rs27, g1, Qa7, Qa8, Qac, Qa6, Qad, Qa4, Qa1, Fam.step, Qaf, evO, opv, qv, ldV, Qar, Qap, Qba, V.cells, Qaq, Qaa, Qa5, flat, Qd3, Qa2, Qa0, Qa3, ↓reduceIte, Nat.reduceEqDiff, Nat.reduceAdd, Nat.reduceLT, Nat.reduceLeDiff, Qb, Qc, Qd, Qe, Ql, Qu, Qj, Qq, Q6, Qw, Qt, endQ, rvs, rv1, resV, vw_i, vw_z, Qax, Qaw, Qci, zipA, Qi, Qp, Qy, Qm, Qa, and_self, imp_self, Qae]
theorem W70 (ks l : List Int) (w : Span) (h : Qdc l ∧ ks.length ≤ 1000 ∧ ∀ k ∈ ks, tame 1000 k) : Qah Try.prog 70 [.sl 1 (ks.map eI), .sl 1 (l.map eI), .ag (Qau w)] (.i (Qcu l w ks)) := by
 refine Qag Quj hmix Try.func70 cb70 cc70 cs70 cn70 ?_
 simp only [rc70, rs70, Qa7, Qa8, Qab, Qa6, Qad, Qa4, Qa1, Fam.step, Qaf, evO, opv, qv, V.cells, Qaq, Qaa, Qa5, Qa2, Qa0, Qa3, ↓reduceIte, Nat.reduceEqDiff, Nat.reduceAdd, Qb, Qc, vw_i, Qaw, zipA, Qi, Qm, true_and, and_self, reduceCtorEq, Qau]
 refine Qc4 ks.length (fun i => ⟨lkp [(0, .sl 1 (ks.map eI)), (1, .sl 1 (l.map eI)), (5, .pa (Qau w)), (7, .i (Qcu l w (ks.take i))), (8, .i i)], []⟩) ?_ ?_ ?_
 ·simp only [Zg, Qcu, List.countP_nil, kp, Qa0, Qa3, ↓reduceIte, Nat.reduceEqDiff, Qb, Qc, Za, reduceCtorEq, Qau]
 ·intro i hi
  obtain ⟨k, hk⟩ : ∃ k, ks[i]? = some k := ⟨_, Qn hi⟩
  have hlt : (i : Int) < ks.length := by omega
  have t1 := h.2.2 k (Zd hk)
  have hks := h.2.1
  have hg : Qcu l w (ks.take i) ≤ i := Nat.le_trans List.countP_le_length (by simp; omega)
  have h4 : inI ((i : Int) + 1) ∧ inI ((Qcu l w (ks.take i) : Int) + 1) := by unfold inI; omega
  have hct : ∀ q : Bool, Qan (Qb4 l k) w.low w.high = q → (Qcu l w (ks.take (i + 1)) : Int) = Qcu l w (ks.take i) + (if q = true then 1 else 0) := by
   rintro q rfl
   unfold Qcu
   rw [Qb7 hk, List.countP_append, List.countP_singleton]
   split <;> simp
  simp only [hk, hlt, Qw2, h.1, t1, Qw3, Q8, Q9, Qaj, Qa7, Qb5, Qa8, Qai, Qc3, Qab, Qa6, Qb2, Qad, Qal, Qa4, Qa1, Fam.step, Qaf, runX, eff, Qb1, fpR, fpQ, fpV, Qbi, hits, evO, opv, qv, binV, ldV, iadV, lenV, Qar, Qaa, Qa5, flat, kp, Qa2, Qa0, Qa3, ↓reduceIte, Nat.reduceEqDiff, Nat.reduceAdd, Nat.reduceLT, Nat.reduceLeDiff, Qb, Qc, Qr, Qd, Qe, Qg, Qo, Qk, Qz, Qv, Qj, Qw, Qt, Ze, Qx, Zf, vw_i, Qax, Q2, Qi, Qp, Qy, Q4, Qm, Q1, Q5, Qa, decide_true, true_and, and_self, implies_true, reduceCtorEq, Q7, Zk, Zc, Qh, Q3, Qf, Q0, Xp, Qau, eI]
  refine ⟨fun e => ?_, fun e => ?_⟩
  ·simp only [h4, hct true e, ↓reduceIte, and_self]
  ·simp only [h4, hct false e, Int.add_zero, ↓reduceIte, Qa, and_self]
 ·simp only [Z6, Qa7, Qa8, Qai, Qat, Qac, Qa6, Qad, Qal, Qa4, Qa1, Fam.step, Qaf, evO, opv, qv, binV, lenV, Qa2, Qa0, Qa3, ↓reduceIte, Nat.reduceEqDiff, Qb, Qc, endQ, rvs, rv1, resV, vw_i, Z8, Qa, decide_false, and_self, reduceCtorEq, Qh, Qau]
def Qlw (a : List Int × List Int × Span) : Prop := Qdc a.2.1 ∧ a.1.length ≤ 1000 ∧ ∀ k ∈ a.1, tame 1000 k
def eLLS (a : List Int × List Int × Span) : List V := [.sl 1 (a.1.map eI), .sl 1 (a.2.1.map eI), .ag (Qau a.2.2)]
def dLLS : List V → List Int × List Int × Span | [.sl _ k, .sl _ l, .ag w] => (k.map dI, l.map dI, Qew w) | _ => ([], [], Qew [])
theorem Qwu (a : List Int × List Int × Span) : dLLS (eLLS a) = a := by obtain ⟨k, l, w⟩ := a; simp [dLLS, eLLS, Function.comp_def, Qg3, Qg4]
noncomputable def H33 : Gam := H32.ext 70 (fnG eLLS dLLS Qlw (fun a => (Qcu a.2.1 a.2.2 a.1 : Int)) .i)
theorem Qj0 : GOk Try.prog H33 := Quj.ext (f := 70) (fun a w => Try.call70 a w) (Qb0 (e := eLLS) (d := dLLS) (ok := Qlw) (g := fun a => (Qcu a.2.1 a.2.2 a.1 : Int)) (eb := .i) fun a h => W70 a.1 a.2.1 a.2.2 h)
theorem h70 (ks l : List Int) (w : Span) : H33 70 [.sl 1 (ks.map eI), .sl 1 (l.map eI), .ag (Qau w)] = (Qlw (ks, l, w), .i (Qcu l w ks)) :=
 (show H33 70 _ = fnG eLLS dLLS Qlw (fun a => (Qcu a.2.1 a.2.2 a.1 : Int)) .i (eLLS (ks, l, w)) from rfl).trans (Qb6 _ (Qwu _))
theorem Qt1 (c : Cane) (l : List Int) (w : Span)  : H33 62 [.ag (Qae c), .sl 1 (l.map eI), .ag (Qau w)] = (True, .tp [.sl 1 ((stL c w l).map eI), .i (stE c w l)]) := h62 c l w
theorem Qt0 (l : List Int) (k : Int)  : H33 21 [.sl 1 (l.map eI), .i k] = (Qdc l ∧ tame 1000 k, .i (Qb4 l k)) := h21 l k
theorem Qw5 (c : Cane)  : H33 16 [.ag (Qae c)] = (True, .i (Qca c)) := h16 c
theorem Qw4 (c : Cane)  : H33 15 [.ag (Qae c)] = (True, .b (farB c)) := h15 c
theorem W40 (c : Cane) (l : List Int) (w : Span) : Qah Try.prog 40 [.ag (Qae c), .sl 1 (l.map eI), .ag (Qau w)] (.tp [.i (Qgn c l w).1, .i (Qgn c l w).2]) := by
 refine Qag Qj0 hmix Try.func40 cb40 cc40 cs40 cn40 ?_
 have g1 := Qt1 c l w
 have g2 := h70 (stL c w l) l w
 unfold Qae Qau at g1
 unfold Qau at g2
 simp only [rc40, rs40, g1, g2, Qaj, Qa7, Qa8, Qai, Qc3, Qab, Qac, Qa6, Qad, Qal, Qa4, Qa1, Fam.step, Qaf, evO, opv, qv, binV, ldV, lenV, Qar, V.cells, Qaq, Qaa, Qa5, flat, Qd3, Qa2, Qa0, Qa3, ↓reduceIte, Nat.reduceEqDiff, Nat.reduceAdd, Nat.reduceLT, Nat.reduceLeDiff, Qb, Qc, Qd, Qe, Ql, Qu, Qj, Qq, Q6, Qw, Qt, endQ, rvs, rv1, resV, vw_i, Qax, Qaw, Qci, zipA, Qi, Qp, Qy, Qm, Qa, decide_eq_true_eq, decide_eq_false_iff_not, true_and, and_true, and_self, implies_true, reduceCtorEq, Zm, imp_self, Qh, Classical.not_not, Qau, Qae]
 refine ⟨fun h => ?_, fun h => ?_⟩
 ·simp only [Qgn, if_neg h]
 ·obtain ⟨h1, h2, h3, h4, h5, h6, h7⟩ := Qox h
  have hlen := Qd7 c h1
  have hs : Qdc l := ⟨by omega, fun n hn => by have := h4 n hn; unfold tame; omega⟩
  have hm : Qlw (stL c w l, l, w) := ⟨hs, by rw [h7]; show (Qa9 c).length ≤ 1000; omega, fun k hk => by rw [h7] at hk; have := Qd8 h1 hk; unfold tame; omega⟩
  rw [h7] at hm
  simp only [hm, h7, Qgn, h, fitK, ↓reduceIte, true_and]
  refine ⟨fun e => ?_, fun e => ?_⟩
  ·have e : Qcu l w (Qa9 c) = (Qa9 c).length := by omega
   simp only [e, ↓reduceIte]
  ·have e : ¬ Qcu l w (Qa9 c) = (Qa9 c).length := by omega
   simp only [e, ↓reduceIte]
   refine ⟨fun e2 => ?_, fun e2 => ?_⟩
   ·have e2 : Qcu l w (Qa9 c) = 0 := by omega
    simp only [e2, ↓reduceIte]
   ·have e2 : ¬ Qcu l w (Qa9 c) = 0 := by omega
    simp only [e2, ↓reduceIte]
theorem W46 (c : Cane) (l : List Int) : Qah Try.prog 46 [.ag (Qae c), .sl 1 (l.map eI)] (.tp [.ag (Qau (Qd1 c l).1), .i (Qd1 c l).2]) := by
 refine Qag Qj0 hmix Try.func46 cb46 cc46 cs46 cn46 ?_
 have g1 := Qt1 c l ⟨0, 0⟩
 unfold Qae Qau at g1
 simp only [rc46, rs46, g1, Qaj, Qa7, Qb5, Qa8, Qai, Qc3, Qab, Qac, Qa6, Qb2, optL, putB, Qad, Qa4, Qa1, Fam.step, Qaf, Qbu, Qav, runX, eff, Qb1, fpR, fpQ, fpV, Qbi, hits, putB, nv, sv, evO, opv, qv, binV, ldV, iadV, Qar, Qap, putAt, Qba, V.cells, Qaq, Qb8, Qaa, Qa5, flat, Qd3, Qa2, Qbb, Qa0, Qa3, ↓reduceIte, Nat.reduceEqDiff, Nat.reduceAdd, Nat.reduceLT, Nat.reduceLeDiff, Z3, Int.reduceLE, Qb, Qc, Qs, Qr, Qd, Qe, Qg, Qo, Zl, Ql, Za, Qu, Qz, Qv, Qj, Qq, Q6, Qw, Qt, Ze, Zb, Zv, Qx, Zh, Zf, Z0, endQ, rvs, rv1, resV, vw_i, Qax, Qaw, Qci, zipA, Qi, Xc, Qp, Qy, Zp, Q4, Qm, Zy, Q1, Q5, Qa, decide_eq_false_iff_not, true_and, and_true, and_self, reduceCtorEq, Xf, Zk, Zx, Zc, Zm, imp_self, Qh, Qf, Q0, Classical.not_not, Qau, Qae]
 refine ⟨fun h => ?_, fun h => ?_⟩
 ·simp only [Qd1, if_neg h]
 ·obtain ⟨h1, h2, h3, h4, h5, h6, h7⟩ := Qox h
  have hlen := Qd7 c h1
  have hpos : 0 < (Qa9 c).length := Xj.2 h6
  obtain ⟨b, hb⟩ : ∃ b, (Qa9 c)[0]? = some b := ⟨_, Qn hpos⟩
  have hb2 := Qd8 h1 (Zd hb)
  have hs : Qdc l := ⟨by omega, fun n hn => by have := h4 n hn; unfold tame; omega⟩
  have i3 : (0 : Int) < (Qa9 c).length := by omega
  have t2 : tame 1000 b := by unfold tame; omega
  have hlow : ∀ i : Nat, i < (Qa9 c).length → ∃ k, (Qa9 c)[i]? = some k ∧ (Qa9 c).getD i 0 = k ∧ tame 1000 k ∧ Qb4 l k ≤ Qb4 l b ∧ Qb4 l k ≤ Qb4 l ((Qa9 c).getD (i - 1) 0) := by
   intro i hi
   obtain ⟨k, hk⟩ : ∃ k, (Qa9 c)[i]? = some k := ⟨_, Qn hi⟩
   have hk2 := Qd8 h1 (Zd hk)
   have hd : (Qa9 c).getD i 0 = k := by rw [Qf, hk]; rfl
   have e0 : (Qa9 c).getD 0 0 = b := by rw [Qf, hb]; rfl
   have hends := Qj8 (Qep c) (Zd hk)
   rw [e0] at hends
   refine ⟨k, hk, hd, by unfold tame; omega, Qfd hb2.1 hends.1 h4, ?_⟩
   by_cases hi0 : i = 0
   ·subst hi0
    rw [Nat.zero_sub, hd]; exact Xb _
   ·have hp := Zs.1 (Qep c) (i - 1) i (by omega) hi (by omega)
    obtain ⟨k', hk'⟩ : ∃ k, (Qa9 c)[i - 1]? = some k := ⟨_, Qn (by omega)⟩
    have hd' : (Qa9 c).getD (i - 1) 0 = k' := by rw [Qf, hk']; rfl
    have hk2' := Qd8 h1 (Zd hk')
    rw [(Z7.1 hk).2, (Z7.1 hk').2] at hp
    rw [hd']
    exact Qfd hk2'.1 (by omega) h4
  simp only [h7, i3, hb, Qt0, hs, t2, Qb8, Qaa, flat, Nat.reduceAdd, Nat.reduceLeDiff, Qs, Qr, Qd, Qe, Qg, Qo, Zl, Ql, Za, Qk, Qz, Qv, Qj, Qt, vw_i, Qi, Qp, Qa, true_and, and_self, implies_true, Q7, eI]
  refine ⟨?_, ?_⟩
  ·simp [Qxp, Qor]
  refine Qc4 (Qa9 c).length (fun i => ⟨lkp [(1, .sl 1 (l.map eI)), (4, .ad 0 0 0), (6, .sl 1 ((Qa9 c).map eI)), (8, .ad 1 0 0), (9, .i i)], [.cells 0 [.i 0, .i 0], .cells 0 [.i (Qb4 l ((Qa9 c).getD (i - 1) 0)), .i (Qb4 l b)]]⟩) ?_ ?_ ?_
  ·have e0 : (Qa9 c).getD 0 0 = b := by rw [Qf, hb]; rfl
   simp only [Zg, Nat.zero_sub, e0, kp, Qa0, Qa3, ↓reduceIte, Nat.reduceEqDiff, Qb, Qc]
  ·intro i hi
   obtain ⟨k, hk, hd, tk, a1, a2⟩ := hlow i hi
   have hlt : (i : Int) < (Qa9 c).length := by omega
   have h5 : inI ((i : Int) + 1) := by unfold inI; omega
   have m1 : min (Qb4 l ((Qa9 c).getD (i - 1) 0)) (Qb4 l k) = Qb4 l k := by omega
   have m2 : max (Qb4 l b) (Qb4 l k) = Qb4 l b := by omega
   have hk2 : (Qa9 c)[i + 1 - 1]?.getD 0 = k := by rw [Nat.add_sub_cancel, hk]; rfl
   rw [Qf] at m1
   simp only [hk, hlt, Qt0, hs, tk, h5, Q8, Q9, m1, m2, hk2, Qaj, Qa7, Qb5, Qa8, Qai, Qab, Qa6, Qb2, optL, Qad, Qal, Qa4, Qa1, Fam.step, Qaf, Qav, runX, eff, Qb1, fpR, fpQ, fpV, Qbi, hits, nv, sv, evO, opv, qv, binV, ldV, iadV, lenV, curG, Qar, Qap, putAt, Qba, V.cells, Qaq, Qb8, Qaa, Qa5, flat, kp, Qa2, Qbb, Qa0, Qa3, ↓reduceIte, Nat.reduceEqDiff, Nat.reduceAdd, Nat.reduceLT, Nat.reduceLeDiff, Qb, Qc, Qs, Qr, Qd, Qe, Qg, Qo, Zl, Ql, Za, Qk, Qz, Qv, Qj, Qq, Q6, Qw, Qt, Ze, Zb, Zv, Qx, Zf, Z0, vw_i, Qax, Q2, beq_self_eq_true, Qi, Xc, Qp, Qy, Zp, Q4, Qm, Zy, Q1, Q5, Qa, decide_true, and_self, implies_true, Q7, Xf, Zk, Zx, Zc, Qh, Q3, Qf, Q0, eI]
  ·have h77 : ¬ (((Qa9 c).length : Int) < (Qa9 c).length) := by omega
   have hb0 : (Qa9 c)[0]?.getD 0 = b := by rw [hb]; rfl
   simp only [h77, Qd1, h, Qp6, hb0, Qa7, Qa8, Qai, Qat, Qac, Qa6, putB, Qad, Qal, Qa4, Qa1, Fam.step, Qaf, Qbu, Qav, putB, nv, sv, evO, opv, qv, binV, ldV, lenV, putAt, V.cells, Qaq, Qb8, Qa2, Qbb, Qa0, Qa3, ↓reduceIte, Nat.reduceEqDiff, Nat.reduceAdd, Nat.reduceLeDiff, Qb, Qc, Qs, Qr, Qd, Qe, Qg, Qo, Zl, Ql, Za, Qu, Qv, Qj, Qq, Q6, Zb, endQ, rvs, rv1, resV, vw_i, Qaw, Qci, Qi, Qp, Qa, decide_false, and_self, Qh, Qf]
theorem eq61 : Qas Try.prog 61 3 := Qas.of (fs := _) (show Try.prog.underlying 61 = some (.struct (Try.prog.fieldsOf 61)) by kernel_rfl) (by kernel_rfl) (by kernel_rfl)
theorem W24 (c : Cane) (h : c.bents.length ≤ 1000000) : Qah Try.prog 24 [.ag (Qae c)] (.ag (Qae c)) := by
 refine Qag Qj0 hmix Try.func24 cb24 cc24 cs24 cn24 ?_
 have hfl : Qbj c.bents.length := by unfold Qbj; omega
 have k1 : Qcm 3 ((c.bents.map eBent).flatten) 0 c.bents.length = c.bents.map eBent := Qff (e := eBent) (k := 3) (fun _ => rfl) c.bents
 have k2 : ((c.bents.map eBent).flatten).length = c.bents.length * 3 := Qi0 (e := eBent) (k := 3) (fun _ => rfl) c.bents
 have k3 : ∀ (hp : List Blk), (c.bents.map eBent).map (fun r => r.map (vw hp 6)) = c.bents.map eBent := fun hp => Qeh (e := eBent) hp 6 (fun _ => rfl) c.bents
 simp only [rc24, rs24, Zn, Qv, hfl, k1, k2, k3, Zt, Qa7, Qa8, Qac, Qa6, putB, Qad, Qa4, Qa1, Fam.step, Qaf, Qbu, Qav, putB, nv, sv, Qcl, evO, opv, qv, ldV, curG, Qap, putAt, Qba, Qbg, V.cells, Qaq, Qb8, Qaa, Qa5, Qa2, Qbb, Qa0, Qa3, ↓reduceIte, Nat.reduceEqDiff, Nat.reduceAdd, Nat.reduceMul, Nat.reduceLeDiff, Qb, Qc, Qs, Qr, Qd, Qe, Qg, Qo, Zl, Ql, Za, Qu, Qk, Qz, Qv, Qj, Qq, Q6, Zb, Zv, Qx, endQ, rvs, rv1, resV, vw_i, Qax, Qaw, Qfv, zipA, beq_self_eq_true, Qi, Qp, Qm, Qa, and_self, Qh, Qae]
theorem W29 (l m : List Int) (h : l.length ≤ 1000000) : Qah Try.prog 29 [.sl 1 (l.map eI), .sl 1 (m.map eI)] (.b (decide (l = m))) := by
 refine Qag Qj0 hmix Try.func29 cb29 cc29 cs29 cn29 ?_
 simp only [rc29, rs29, Qaj, Qa7, Qa8, Qai, Qc3, Qab, Qac, Qa6, Qad, Qa4, Qa1, Fam.step, Qaf, evO, opv, qv, binV, lenV, Qa2, Qa0, Qa3, ↓reduceIte, Nat.reduceEqDiff, Qb, Qc, endQ, rvs, rv1, resV, vw_b, zipA, Qi, V.b.injEq, decide_eq_false_iff_not, true_and, and_self, reduceCtorEq, Zm, Qh, Classical.not_not]
 refine ⟨fun h1 => ?_, fun h1 => ?_⟩
 ·have : ¬ l = m := fun e => by rw [e] at h1; omega
  simp only [this, decide_false]
 ·have hlm : l.length = m.length := by omega
  refine Qc5 l.length (fun i => ⟨lkp [(0, .sl 1 (l.map eI)), (1, .sl 1 (m.map eI)), (5, .i i)], []⟩) (fun i => ∀ j : Nat, j < i → l[j]? = m[j]?) ?_ ?_ ?_ ?_
  ·simp only [Zg, kp, Qa0, Qa3, ↓reduceIte, Nat.reduceEqDiff, Qb, Qc, reduceCtorEq]
  ·intro j hj; omega
  ·intro i hi hc
   obtain ⟨n, hn⟩ : ∃ n, l[i]? = some n := ⟨_, Qn hi⟩
   obtain ⟨n', hn'⟩ : ∃ n, m[i]? = some n := ⟨_, Qn (by omega)⟩
   have hlt : (i : Int) < l.length := by omega
   have hlt' : (i : Int) < m.length := by omega
   have h4 : inI ((i : Int) + 1) := by unfold inI; omega
   simp only [hn, hn', hlt, hlt', h4, Q8, Q9, Qaj, Qa7, Qb5, Qa8, Qai, Qc3, Qab, Qac, Qa6, Qb2, Qad, Qal, Qa4, Qa1, Fam.step, Qaf, runX, eff, Qb1, fpR, fpQ, fpV, Qbi, hits, evO, opv, qv, binV, ldV, iadV, lenV, kp, Qa2, Qa0, Qa3, ↓reduceIte, Nat.reduceEqDiff, Nat.reduceLeDiff, Qb, Qc, Qr, Qd, Qe, Qk, Qz, Qv, Qj, Qw, Qt, Ze, Qx, Zf, endQ, rvs, rv1, resV, vw_b, Q2, Qi, V.b.injEq, Qp, Qy, Q4, Qm, Q1, Q5, Qa, decide_true, decide_eq_false_iff_not, true_and, and_true, and_self, reduceCtorEq, Q7, Zk, Zc, Zm, Qh, Q3, Qf, Q0, Classical.not_not, eI]
   refine ⟨fun hne => ?_, fun he => ?_⟩
   ·have : ¬ l = m := fun e => by rw [e, hn'] at hn; cases hn; exact hne rfl
    simp only [this, decide_false]
   ·intro j hj
    by_cases hji : j < i
    ·exact hc j hji
    ·have : j = i := by omega
     subst this
     rw [hn, hn', he]
  ·intro hc
   have h77 : ¬ ((l.length : Int) < l.length) := by omega
   have : l = m := X2 fun j => by
    by_cases hj : j < l.length
    ·exact hc j hj
    ·rw [Zz (by omega), Zz (by omega)]
   simp only [this, Qa7, Qa8, Qai, Qat, Qac, Qa6, Qad, Qal, Qa4, Qa1, Fam.step, Qaf, evO, opv, qv, binV, lenV, Qa2, Qa0, Qa3, ↓reduceIte, Nat.reduceEqDiff, Qb, Qc, endQ, rvs, rv1, resV, vw_b, Z8, Qa, decide_true, decide_false, and_self, reduceCtorEq, Qh]
theorem W30 (c : Cane) (h : c.bents.length ≤ 1000000) : Qah Try.prog 30 [.ag (Qae c), .ag (Qae c)] (.b true) := by
 refine Qag Qj0 hmix Try.func30 cb30 cc30 cs30 cn30 ?_
 simp only [rc30, rs30, eq23, Qaj, Qa7, Qa8, Qai, Qab, Qa6, Qad, Qa4, Qa1, Fam.step, Qaf, Qb9, Qaz, ug, evO, opv, qv, Qak, binV, ldV, lenV, V.cells, Qaq, Qce, Qaa, Qa5, Qa2, Qa0, Qa3, ↓reduceIte, Nat.reduceEqDiff, Nat.reduceAdd, Nat.reduceLeDiff, Qb, Qc, Qs, Qr, Qd, Qe, Qg, Qo, Ql, Za, Qk, vw_i, Qax, Qaw, zipA, beq_self_eq_true, Qi, Qp, Qm, Q1, Qa, decide_true, true_and, and_self, forall_const, implies_true, reduceCtorEq, Q7, Bool.xor_self, Qh, Qae]
 refine Qc4 c.bents.length (fun i => ⟨lkp [(2, .pa (Qae c)), (3, .pa (Qae c)), (5, .i i)], []⟩) ?_ ?_ ?_
 ·simp only [Zg, kp, Qa0, Qa3, ↓reduceIte, Nat.reduceEqDiff, Qb, Qc, Qae]
 ·intro i hi
  obtain ⟨b, hb⟩ : ∃ b, c.bents[i]? = some b := ⟨_, Qn hi⟩
  have hlt : (i : Int) < c.bents.length := by omega
  have h4 : inI ((i : Int) + 1) := by unfold inI; omega
  simp only [hb, hlt, h4, eq61, Q8, Q9, Qaj, Qa7, Qb5, Qa8, Qai, Qab, Qa6, Qb2, Qad, Qal, Qa4, Qa1, Fam.step, Qaf, runX, eff, Qb1, fpR, fpQ, fpV, Qbi, hits, evO, opv, qv, binV, ldV, iadV, lenV, Qce, kp, Qa2, Qa0, Qa3, ↓reduceIte, Nat.reduceEqDiff, Nat.reduceAdd, Nat.reduceLeDiff, Qb, Qc, Qr, Qd, Qe, Qg, Qo, Ql, Qu, Qk, Qz, Qv, Qj, Qw, Qt, Ze, Qx, Zf, Q2, Qi, Qp, Qy, Q4, Qm, Q1, Q5, Qa, decide_true, and_self, Q7, Zk, Zc, Bool.xor_self, Qh, Q3, Qf, Q0, eBent, Qae]
 ·have h77 : ¬ ((c.bents.length : Int) < c.bents.length) := by omega
  simp only [h77, Qa7, Qa8, Qai, Qat, Qac, Qa6, Qad, Qal, Qa4, Qa1, Fam.step, Qaf, evO, opv, qv, binV, ldV, lenV, Qa2, Qa0, Qa3, ↓reduceIte, Nat.reduceEqDiff, Nat.reduceAdd, Nat.reduceLeDiff, Qb, Qc, Qd, Qe, Qg, Qo, Qk, endQ, rvs, rv1, resV, vw_b, Qi, Qa, decide_false, and_self, Qh, Qae]
def farP (c : Cane) : Bool := farB c || (decide (Qca c = 0) && (decide ((3 : Int) < c.limit) && (decide ((14 : Int) < c.limit) || decide (4 * c.tire < c.limit))))
theorem W31 (c : Cane) : Qah Try.prog 31 [.ag (Qae c)] (.b (farP c)) := by
 refine Qag Qj0 hmix Try.func31 cb31 cc31 cs31 cn31 ?_
 have g1 := Qw4 c
 have g2 := Qw5 c
 unfold Qae at g1 g2
 by_cases hf : farB c = true
 ·simp only [rc31, rs31, g1, g2, hf, farP, Qa7, Qa8, Qac, Qa6, Qad, Qa4, Qa1, Fam.step, Qaf, Qb9, Qaz, ug, evO, opv, qv, Qak, binV, ldV, Qar, V.cells, Qaq, Qaa, Qa5, flat, Qa2, Qa0, Qa3, ↓reduceIte, Nat.reduceEqDiff, Nat.reduceAdd, Nat.reduceLT, Nat.reduceLeDiff, Qb, Qc, Qs, Qr, Qd, Qe, Qg, Qo, Ql, Qu, Qk, Qj, endQ, rvs, rv1, resV, vw_i, vw_b, Qax, Qaw, zipA, Qi, Qp, Qy, Q4, Qm, X3, Q1, Qa, Zi, decide_eq_true_eq, decide_eq_false_iff_not, true_and, and_true, and_self, false_and, forall_const, implies_true, beq_true, beq_false, Qg9, Qje, Xk, imp_self, Qae]
 ·by_cases he : Qca c = 0
  ·have hC := Qhy.1 he
   have ht := hC.tire
   have hi : inI (4 * c.tire) := by unfold inI; omega
   by_cases h3 : (3 : Int) < c.limit <;> by_cases h14 : (14 : Int) < c.limit <;> simp only [rc31, rs31, g1, g2, hf, he, hi, farP, h3, h14, Qa7, Qa8, Qac, Qa6, Qad, Qa4, Qa1, Fam.step, Qaf, Qb9, Qaz, ug, evO, opv, qv, Qak, binV, ldV, Qar, V.cells, Qaq, Qaa, Qa5, flat, Qa2, Qa0, Qa3, ↓reduceIte, Nat.reduceEqDiff, Nat.reduceAdd, Nat.reduceLT, Nat.reduceLeDiff, Qb, Qc, Qs, Qr, Qd, Qe, Qg, Qo, Ql, Qu, Qk, Qj, endQ, rvs, rv1, resV, vw_i, vw_b, Qax, Qaw, zipA, beq_self_eq_true, Qi, Qp, Qy, Zp, Q4, Zq, Qm, Zy, Xq, X3, Q1, Qa, Zi, decide_true, decide_false, and_true, and_self, and_false, forall_const, implies_true, beq_true, beq_false, imp_self, Qae]
  ·simp only [rc31, rs31, g1, g2, hf, he, farP, Qa7, Qa8, Qac, Qa6, Qad, Qa4, Qa1, Fam.step, Qaf, Qb9, Qaz, ug, evO, opv, qv, Qak, binV, ldV, Qar, V.cells, Qaq, Qaa, Qa5, flat, Qa2, Qa0, Qa3, ↓reduceIte, Nat.reduceEqDiff, Nat.reduceAdd, Nat.reduceLT, Nat.reduceLeDiff, Qb, Qc, Qs, Qr, Qd, Qe, Qg, Qo, Ql, Qu, Qk, Qj, endQ, rvs, rv1, resV, vw_i, vw_b, Qax, Qaw, zipA, beq_self_eq_true, Qi, Qp, Qy, Q4, Zq, Qm, Qa, decide_false, decide_eq_true_eq, decide_eq_false_iff_not, true_and, and_true, and_self, false_and, forall_const, implies_true, beq_true, beq_false, Qje, imp_self, Qae]
def Qnt (c : Cane) : Bool := !farP c && decide (Qca c = 0)
noncomputable def H34 : Gam := H33.ext 31 (fnG eC1 dC1 (fun _ => True) farP .b)
theorem Qxg : GOk Try.prog H34 := Qj0.ext (f := 31) (fun a w => Try.call31 a w) (Qb0 fun c _ => W31 c)
theorem h31 (c : Cane) : H34 31 [.ag (Qae c)] = (True, .b (farP c)) := (show H34 31 _ = fnG eC1 dC1 (fun _ => True) farP .b (eC1 c) from rfl).trans (Qb6 _ (Ql8 _))
theorem Qw6 (c : Cane)  : H34 16 [.ag (Qae c)] = (True, .i (Qca c)) := h16 c
theorem W22 (c : Cane) : Qah Try.prog 22 [.ag (Qae c)] (.b (Qnt c)) := by
 refine Qag Qxg hmix Try.func22 cb22 cc22 cs22 cn22 ?_
 have g1 := Qw6 c
 have g2 := h31 c
 unfold Qae at g1 g2
 simp only [rc22, rs22, g1, g2, Qa7, Qa8, Qac, Qa6, Qad, Qa4, Qa1, Fam.step, Qaf, Qb9, Qaz, ug, evO, opv, qv, Qak, binV, ldV, Qar, V.cells, Qaq, Qaa, Qa5, flat, Qa2, Qa0, Qa3, ↓reduceIte, Nat.reduceEqDiff, Nat.reduceAdd, Nat.reduceLT, Nat.reduceLeDiff, Qb, Qc, Qs, Qr, Qd, Qe, Ql, Qu, Qj, endQ, rvs, rv1, resV, vw_i, vw_b, Qax, Qaw, zipA, Qi, V.b.injEq, Qp, Qy, Qm, Qa, true_and, and_true, and_self, implies_true, beq_true, Xz, Zm, Qg9, Bool.decide_eq_false, imp_self, Qae]
 by_cases hf : farP c = true <;> simp [hf, Qnt]
theorem W23 (w : Span) : Qah Try.prog 23 [.ag (Qau w)] (.b (Qbl w 540)) := by
 refine Qag Qj0 hmix Try.func23 cb23 cc23 cs23 cn23 ?_
 simp only [rc23, rs23, Qa7, Qa8, Qac, Qa6, Qad, Qa4, Qa1, Fam.step, Qaf, Qb9, Qaz, ug, evO, opv, qv, Qak, binV, ldV, V.cells, Qaq, Qaa, Qa5, Qa2, Qa0, Qa3, ↓reduceIte, Nat.reduceEqDiff, Nat.reduceAdd, Nat.reduceLeDiff, Qb, Qc, Qs, Qr, Qd, Qe, Qg, Qo, Qk, endQ, rvs, rv1, resV, vw_i, vw_b, Qaw, zipA, Qi, V.b.injEq, Qp, Qy, Qm, Qa, decide_eq_true_eq, decide_eq_false_iff_not, true_and, and_true, and_self, implies_true, beq_true, Qg9, Xk, imp_self, Qau]
 by_cases h : 0 ≤ w.low <;> by_cases h2 : w.low ≤ w.high <;> simp [h, h2, Qbl, Qan]
theorem W36 (w : Span) (n : Int) : Qah Try.prog 36 [.ag (Qau w), .i n] (.b (Qan n w.low w.high)) := by
 refine Qag Qj0 hmix Try.func36 cb36 cc36 cs36 cn36 ?_
 simp only [rc36, rs36, Qa7, Qa8, Qac, Qa6, Qad, Qa4, Qa1, Fam.step, Qaf, Qb9, Qaz, ug, evO, opv, qv, Qak, binV, ldV, V.cells, Qaq, Qaa, Qa5, Qa2, Qa0, Qa3, ↓reduceIte, Nat.reduceEqDiff, Nat.reduceAdd, Nat.reduceLeDiff, Qb, Qc, Qs, Qr, Qd, Qe, Qg, Qo, Qk, endQ, rvs, rv1, resV, vw_i, vw_b, Qaw, zipA, Qi, V.b.injEq, Qp, Qy, Qm, Qa, decide_eq_true_eq, decide_eq_false_iff_not, true_and, and_true, and_self, implies_true, reduceCtorEq, beq_true, Qg9, imp_self, Qau]
 by_cases h : w.low ≤ n <;> simp [h, Qan]
def Qo2 (a b : Span) : Bool := decide (a.low ≤ b.low) && decide (b.high ≤ a.high)
theorem W45 (a b : Span) : Qah Try.prog 45 [.ag (Qau a), .ag (Qau b)] (.b (Qo2 a b)) := by
 refine Qag Qj0 hmix Try.func45 cb45 cc45 cs45 cn45 ?_
 simp only [rc45, rs45, Qa7, Qa8, Qac, Qa6, Qad, Qa4, Qa1, Fam.step, Qaf, Qb9, Qaz, ug, evO, opv, qv, Qak, binV, ldV, V.cells, Qaq, Qaa, Qa5, Qa2, Qa0, Qa3, ↓reduceIte, Nat.reduceEqDiff, Nat.reduceAdd, Nat.reduceLeDiff, Qb, Qc, Qs, Qr, Qd, Qe, Qg, Qo, Qk, endQ, rvs, rv1, resV, vw_i, vw_b, Qaw, zipA, Qi, V.b.injEq, Qp, Qy, Qm, Qa, decide_eq_true_eq, decide_eq_false_iff_not, true_and, and_true, and_self, implies_true, reduceCtorEq, beq_true, Qg9, imp_self, Qau]
 by_cases h : a.low ≤ b.low <;> simp [h, Qo2]
theorem W44 (l : List Int) (n : Int) (h : l.length ≤ 1000000) : Qah Try.prog 44 [.sl 1 (l.map eI), .i n] (.b (decide (n ∈ l))) := by
 refine Qag Qj0 hmix Try.func44 cb44 cc44 cs44 cn44 ?_
 simp only [rc44, rs44, Qa7, Qa8, Qab, Qa6, Qad, Qa4, Qa1, Fam.step, Qaf, evO, opv, qv, Qa2, Qa0, Qa3, ↓reduceIte, Nat.reduceEqDiff, Qb, Qc, zipA, Qi, true_and, reduceCtorEq]
 refine Qc5 l.length (fun i => ⟨lkp [(0, .sl 1 (l.map eI)), (1, .i n), (5, .i i)], []⟩) (fun i => ∀ j : Nat, j < i → ¬ l[j]? = some n) ?_ ?_ ?_ ?_
 ·simp only [Zg, kp, Qa0, Qa3, ↓reduceIte, Nat.reduceEqDiff, Qb, Qc, reduceCtorEq]
 ·intro j hj; omega
 ·intro i hi hc
  obtain ⟨x, hx⟩ : ∃ n, l[i]? = some n := ⟨_, Qn hi⟩
  have hlt : (i : Int) < l.length := by omega
  have h4 : inI ((i : Int) + 1) := by unfold inI; omega
  simp only [hx, hlt, h4, Q8, Q9, Qaj, Qa7, Qa8, Qai, Qc3, Qab, Qac, Qa6, Qad, Qal, Qa4, Qa1, Fam.step, Qaf, evO, opv, qv, binV, ldV, iadV, lenV, kp, Qa2, Qa0, Qa3, ↓reduceIte, Nat.reduceEqDiff, Nat.reduceLeDiff, Qb, Qc, Qd, Qe, Qk, Qt, endQ, rvs, rv1, resV, vw_b, Q2, Qi, V.b.injEq, Qa, decide_true, decide_eq_true_eq, true_and, and_true, and_self, reduceCtorEq, Q7, Qh, Q3, Qf, Q0, eI]
  refine ⟨fun he => ?_, fun he => ?_⟩
  ·have : n ∈ l := by rw [← he]; exact Zd hx
   simp only [this, decide_true]
  ·intro j hj
   by_cases hji : j < i
   ·exact hc j hji
   ·have : j = i := by omega
    subst this
    rw [hx]
    simpa using he
 ·intro hc
  have h77 : ¬ ((l.length : Int) < l.length) := by omega
  have : ¬ n ∈ l := fun hn => by
   obtain ⟨j, hj⟩ := Z5 hn
   exact hc j (Qam hj) hj
  simp only [h77, this, Qa7, Qa8, Qai, Qat, Qac, Qa6, Qad, Qal, Qa4, Qa1, Fam.step, Qaf, evO, opv, qv, binV, lenV, Qa2, Qa0, Qa3, ↓reduceIte, Nat.reduceEqDiff, Qb, Qc, endQ, rvs, rv1, resV, vw_b, Qa, decide_false, and_self, reduceCtorEq, Qh]
end Go.C06
set_option maxRecDepth 8000
namespace Go.C06
open Go.Fam Go.Proofs
end Go.C06
set_option linter.unusedSimpArgs false
set_option linter.unusedVariables false
namespace Go.C06
open Go.Fam Go.Proofs
def fewB (c : Cane) : Prop := c.bents.length ≤ 1000000
def eCC (a : Cane × Cane) : List V := [.ag (Qae a.1), .ag (Qae a.2)]
def dCC : List V → Cane × Cane | [.ag s, .ag n] => (Qcn s, Qcn n) | _ => (Qcn [], Qcn [])
def eLL (a : List Int × List Int) : List V := [.sl 1 (a.1.map eI), .sl 1 (a.2.map eI)]
def dLL : List V → List Int × List Int | [.sl _ l, .sl _ m] => (l.map dI, m.map dI) | _ => ([], [])
theorem Qyj (a : List Int × List Int) : dLL (eLL a) = a := by obtain ⟨k, l⟩ := a; simp [dLL, eLL, Function.comp_def, Qg3]
def eWW (a : Span × Span) : List V := [.ag (Qau a.1), .ag (Qau a.2)]
def dWW : List V → Span × Span | [.ag s, .ag n] => (Qew s, Qew n) | _ => (Qew [], Qew [])
noncomputable def K1 : Gam := (((H34.ext 24 (fnG eC1 dC1 fewB (fun c => c) fun c => .ag (Qae c))).ext 29 (fnG eLL dLL (fun a => a.1.length ≤ 1000000) (fun a => decide (a.1 = a.2)) .b)).ext 30 (fnG eCC dCC (fun a => a.1 = a.2 ∧ fewB a.1) (fun _ => true) .b)).ext 27 (fnG eC1 dC1 (fun _ => True) (fun c => (stL c ⟨0, 0⟩ [], stE c ⟨0, 0⟩ [])) fun r => .tp [.sl 1 (r.1.map eI), .i r.2])
theorem okK1 : GOk Try.prog K1 := by
 have k1 := Qxg.ext (f := 24) (fun a w => Try.call24 a w) (Qb0 (e := eC1) (d := dC1) (ok := fewB) (g := fun c => c) (eb := fun c => .ag (Qae c)) fun c h => W24 c h)
 have k2 := k1.ext (f := 29) (fun a w => Try.call29 a w) (Qb0 (e := eLL) (d := dLL) (ok := fun a => a.1.length ≤ 1000000) (g := fun a => decide (a.1 = a.2)) (eb := .b) fun a h => W29 a.1 a.2 h)
 have k3 := k2.ext (f := 30) (fun a w => Try.call30 a w) (Qb0 (e := eCC) (d := dCC) (ok := fun a => a.1 = a.2 ∧ fewB a.1) (g := fun _ => true) (eb := .b) fun a h => by
  obtain ⟨c, d⟩ := a
  obtain ⟨h1, h2⟩ := h
  simp only at h1 h2
  subst h1
  exact W30 c h2)
 exact k3.ext (f := 27) (fun a w => Try.call27 a w) (Qb0 (e := eC1) (d := dC1) (ok := fun _ => True) (g := fun c => (stL c ⟨0, 0⟩ [], stE c ⟨0, 0⟩ [])) (eb := fun r => .tp [.sl 1 (r.1.map eI), .i r.2]) fun a _ => W27 a)
noncomputable def K2 : Gam := ((((((K1.ext 40 (fnG eCLS dCLS (fun _ => True) (fun a => Qgn a.1 a.2.1 a.2.2) fun r => .tp [.i r.1, .i r.2])).ext 46 (fnG eCL dCL (fun _ => True) (fun a => Qd1 a.1 a.2) fun r => .tp [.ag (Qau r.1), .i r.2])).ext 22 (fnG eC1 dC1 (fun _ => True) Qnt .b)).ext 23 (fnG eW1 dW1 (fun _ => True) (fun w => Qbl w 540) .b)).ext 36 (fnG eSI dSI (fun _ => True) (fun a => Qan a.2 a.1.low a.1.high) .b)).ext 45 (fnG eWW dWW (fun _ => True) (fun a => Qo2 a.1 a.2) .b)).ext 44 (fnG eLI dLI (fun a => a.1.length ≤ 1000000) (fun a => decide (a.2 ∈ a.1)) .b)
theorem okK2 : GOk Try.prog K2 := by
 have k1 := okK1.ext (f := 40) (fun a w => Try.call40 a w) (Qb0 (e := eCLS) (d := dCLS) (ok := fun _ => True) (g := fun a => Qgn a.1 a.2.1 a.2.2) (eb := fun r => .tp [.i r.1, .i r.2]) fun a _ => W40 a.1 a.2.1 a.2.2)
 have k2 := k1.ext (f := 46) (fun a w => Try.call46 a w) (Qb0 (e := eCL) (d := dCL) (ok := fun _ => True) (g := fun a => Qd1 a.1 a.2) (eb := fun r => .tp [.ag (Qau r.1), .i r.2]) fun a _ => W46 a.1 a.2)
 have k3 := k2.ext (f := 22) (fun a w => Try.call22 a w) (Qb0 (e := eC1) (d := dC1) (ok := fun _ => True) (g := Qnt) (eb := .b) fun a _ => W22 a)
 have k4 := k3.ext (f := 23) (fun a w => Try.call23 a w) (Qb0 (e := eW1) (d := dW1) (ok := fun _ => True) (g := fun w => Qbl w 540) (eb := .b) fun a _ => W23 a)
 have k5 := k4.ext (f := 36) (fun a w => Try.call36 a w) (Qb0 (e := eSI) (d := dSI) (ok := fun _ => True) (g := fun a => Qan a.2 a.1.low a.1.high) (eb := .b) fun a _ => W36 a.1 a.2)
 have k6 := k5.ext (f := 45) (fun a w => Try.call45 a w) (Qb0 (e := eWW) (d := dWW) (ok := fun _ => True) (g := fun a => Qo2 a.1 a.2) (eb := .b) fun a _ => W45 a.1 a.2)
 exact k6.ext (f := 44) (fun a w => Try.call44 a w) (Qb0 (e := eLI) (d := dLI) (ok := fun a => a.1.length ≤ 1000000) (g := fun a => decide (a.2 ∈ a.1)) (eb := .b) fun a h => W44 a.1 a.2 h)
end Go.C06
set_option linter.unusedSimpArgs false
set_option linter.unusedVariables false
namespace Go.C06
open Go.Fam Go.Proofs Go.RowKit
set_option maxRecDepth 100000 in
set_option maxHeartbeats 2000000 in
theorem Qv7 (F : Fence) (n : Nat) (h7 : F.fn 95) (hro : F.round = none) (hdep : F.depth = none) (l Bs off0 b off len cap : Nat) (zs : List Int) (hlen : zs.length = len) (hreach : len ≤ 1000000) (J Jx : Nat → World → Prop)
  (hcell : ∀ k W, J k W → W.cell? ⟨Bs, off0, none⟩ = some (.slice (some ⟨b, off, none⟩) len cap) ∧ ∀ j, j < len → W.cell? ⟨b, off + j, none⟩ = some (.int .i64 (zs[j]?.getD 0)))
  (hY : ∀ k x W, zs[k]? = some x → J k W → YieldAt F (n - 1) Try.prog l #[.int .i64 x] W fun e W' =>
   (e = .returned (.bool true) ∧ J (k + 1) W') ∨ (e = .returned (.bool false) ∧ Jx k W'))
  (W : World) (h0 : J 0 W) :
  CallsIn F n Try.prog 95 #[.func (.yield l) #[] #[], .pointer (some ⟨Bs, off0, none⟩)] W fun e W' => (∃ v, e = .returned v) ∧ (J len W' ∨ ∃ k, Jx k W') := by
 refine callsIn_of_wp Try.func95 rfl h7 ?_ hro
 simp only [Try.ntmps95, X4, Qd, Qe, Nat.reduceAdd, Nat.reduceSub, Array.replicate_succ, Array.replicate_zero, X5, Xv, Qv, Qz]
 have hBs := (hcell 0 W h0).1
 gi_wp2
 gi_loopw [7] (fun i wr => ∃ k : Nat, k ≤ len ∧ i = .int .i64 k ∧ J k wr)
  (fun i _ => len - (Go.RowKit.intOf i).toNat)
 case atStart => exact ⟨0, Nat.zero_le _, rfl, h0⟩
 case round =>
  obtain ⟨k, hk, rfl, hJs⟩ := hrel
  have hcx : k < len → wr.cell? ⟨b, off + k, none⟩ = some (.int .i64 (zs[k]?.getD 0)) := fun h => (hcell k wr hJs).2 k h
  by_cases hlt : k < len
  ·obtain ⟨x, hx⟩ : ∃ x, zs[k]? = some x := ⟨_, Qn (by omega)⟩
   obtain ⟨fn, tmps, assign, body, hy, hR⟩ := hY k x wr hx hJs
   have hcx' := hcx hlt
   rw [hx, Qt] at hcx'
   clear hcx
   obtain ⟨hcb, _⟩ := hcell k wr hJs
   gi_wp2
   refine hR.mono ?_
   rintro e W3 (⟨rfl, hJ3⟩ | ⟨rfl, hJx3⟩)
   ·gi_wp2
    go_roundw
    case rel => exact ⟨k + 1, by omega, by simp, hJ3⟩
    case measure => simp [Go.RowKit.intOf]; omega
   ·gi_wp2
    refine bodyPost_ret (results_none rfl _ _ _) rfl ?_
    exact ⟨⟨_, rfl⟩, .inr ⟨_, hJx3⟩⟩
  ·obtain rfl : k = len := by omega
   gi_wp2
   go_end0
   exact ⟨⟨_, rfl⟩, .inl hJs⟩
set_option maxRecDepth 100000 in
set_option maxHeartbeats 1000000 in
theorem Qv6 (F : Fence) (n : Nat) (h7 : F.fn 95) (hro : F.round = none) (l Bs off0 cap : Nat) (a : Option Addr) (J : Nat → World → Prop) (W : World) (hBs : W.cell? ⟨Bs, off0, none⟩ = some (.slice a 0 cap)) (h0 : J 0 W) :
  CallsIn F n Try.prog 95 #[.func (.yield l) #[] #[], .pointer (some ⟨Bs, off0, none⟩)] W fun e W' => (∃ v, e = .returned v) ∧ J 0 W' := by
 refine callsIn_of_wp Try.func95 rfl h7 ?_ hro
 simp only [Try.ntmps95, X4, Qd, Qe, Nat.reduceAdd, Nat.reduceSub, Array.replicate_succ, Array.replicate_zero, X5, Xv, Qv, Qz]
 gi_wp2
 gi_loopw [7] (fun i wr => i = .int .i64 0 ∧ J 0 wr) (fun _ _ => 0)
 case atStart => exact ⟨rfl, h0⟩
 case round =>
  obtain ⟨rfl, hJs⟩ := hrel
  gi_wp2
  go_end0
  exact ⟨⟨_, rfl⟩, hJs⟩
theorem I95 (zs : List Int) (hl : zs.length ≤ 1000000) : Qge Try.prog 95 [.pa [.sl 1 (zs.map eI)]] (zs.map eI) := by
 intro F n S w ccaps l J Jx hF hro hS hsz hrep hJ hJx hJS hyl hJ0
 obtain ⟨c, hc⟩ : ∃ c, ccaps = #[c] := by
  match ccaps, hsz with
  | ⟨[c]⟩, _ => exact ⟨c, rfl⟩
 subst hc
 simp only [RepL, Rep, and_true] at hrep
 obtain ⟨Bs, off0, cur, e, fr, rfl, hSB, hheap, hrow⟩ := hrep
 cases hd : cur.toList.drop off0 with
 | nil => rw [hd] at hrow; exact hrow.elim
 | cons sv rest =>
  rw [hd] at hrow
  obtain ⟨⟨a, cap, rfl, hcap, hz⟩, _⟩ := hrow
  have hg0 : cur[off0]? = some (.slice a (zs.map eI).length cap) := by
   have := congrArg (·[0]?) hd
   simpa using this
  have hc0 : ∀ W : World, W.heap[Bs]? = w.heap[Bs]? → W.cell? ⟨Bs, off0, none⟩ = some (.slice a (zs.map eI).length cap) := fun W e => by
   simp only [World.cell?, e, hheap, hg0]
   rfl
  simp only [Qh] at hc0 ⊢
  by_cases hne : zs = []
  ·subst hne
   refine (Qv6 F n (hF.1 95) hro l Bs off0 cap a J w (hc0 w rfl) hJ0).mono ?_
   rintro e W' ⟨h1, h2⟩
   exact ⟨h1, .inl h2⟩
  ·rcases hz with hz | ⟨blk, off, cur2, e2, fr2, rfl, hS2, hh2, hr2⟩
   ·exact absurd (List.map_eq_nil_iff.1 hz) hne
   ·have hcs : ∀ W : World, W.heap[blk]? = w.heap[blk]? → ∀ j, j < zs.length → W.cell? ⟨blk, off + j, none⟩ = some (.int .i64 (zs[j]?.getD 0)) := fun W e j hj => by
     have key : ∀ (zs : List Int) (cs : List Value), Qb3 S w 1 (zs.map eI) cs → ∀ j, j < zs.length → cs[j]? = some (.int .i64 (zs[j]?.getD 0)) := by
      intro zs
      induction zs with
      | nil => intro cs _ j hj; simp at hj
      | cons z zs ih =>
       intro cs hr j hj
       cases cs with
       | nil => simp [eI, Qb3, RepL] at hr
       | cons c cs =>
        simp only [Qb, eI, Qb3, RepL, Rep, and_true, Qg, Qo] at hr
        cases j with
        | zero => simp [hr.2.1]
        | succ j =>
         have := ih cs hr.2.2 j (by simpa using hj)
         simpa using this
     have h5 := key zs _ hr2 j hj
     rw [List.getElem?_drop, Array.getElem?_toList] at h5
     simp only [World.cell?, e, hh2, h5]
     rfl
    refine Qv7 F n (hF.1 95) hro hF.2.1 l Bs off0 blk off zs.length cap zs rfl hl J Jx (fun k W hk => ?_) (fun k x W hx hk => ?_) w hJ0
    ·have hkeep := (hJS k W (.inl hk)).2
     exact ⟨hc0 W (hkeep Bs hSB), hcs W (hkeep blk hS2)⟩
    ·exact hyl k [.i x] W #[.int .i64 x] (by rw [Q0, hx]; rfl) hk ⟨rfl, trivial⟩ rfl
end Go.C06
set_option maxRecDepth 8000
namespace Go.C06
open Go.Fam Go.Proofs
def rc76 : RC := (.seq (.reg false [(cX 1 0), (cQ 2 [] (.mv (.k .u)))]) (.keep [1] (.seq (.reg false [(cQ 3 [1] (.mkf 95 [(.t 1)])), (cMv 2 3)]) .ret)))
def pu76 : List Nat := [1]
def rs76 : List RV := [.t 2]
theorem cc76 : CCx Try.prog Try.f76 pu76 rc76 := by unfold CCx; kernel_rfl
theorem cb76 : CBx Try.f76 := by unfold CBx; kernel_rfl
theorem cs76 : CSx Try.prog Try.f76 rs76 := by unfold CSx; kernel_rfl
theorem cn76 : 1 ≤ Try.f76.ntmps := by decide
def rc77 : RC := (.seq (.reg false [(cQ 4 [] (.mv (kB false)))]) (.keep [0,1] (.seq (.seq (.reg false [(cMv 6 0), (cLn 7 6), (cMv 8 1), (cLn 9 8), (cB 10 .neq 7 9)]) (.keep [0,1,10] (.cond (.t 10) (.seq (.reg false [(cQ 4 [] (.mv (kB false)))]) .ret) .skip))) (.keep [0,1] (.seq (.seq (.reg false [(cMv 11 0), (cLn 12 11), (cI 13 0)]) (.keep [0,1,12,13] (.block 0 (.loop [0,1,12,13] none (.seq (.reg false [(cB 14 .lss 13 12)]) (.keep [0,1,12,13,14] (.seq (.cond (.t 14) .skip (.exit 0)) (.keep [0,1,12,13] (.seq (.block 1 (.seq (.reg false [(cMv 15 13), (cMv 5 15)]) (.keep [0,1,5,12,13] (.seq (.any false 0 [⟨(cMv 16 0), [], []⟩, ⟨(cMv 17 5), [], []⟩, ⟨(cA 18 1 16 17), [], [0,1]⟩, ⟨(cLd 19 18 false 1), [], [2,0,1]⟩, ⟨(cMv 20 1), [], []⟩, ⟨(cMv 21 5), [], []⟩, ⟨(cA 22 1 20 21), [], [4,5]⟩, ⟨(cLd 23 22 false 1), [], [6,4,5]⟩, ⟨(cB 24 .neq 19 23), [], [3,2,0,1,7,6,4,5]⟩]) (.keep [0,1,12,13,24] (.cond (.t 24) (.seq (.reg false [(cQ 4 [] (.mv (kB false)))]) .ret) .skip)))))) (.keep [0,1,12,13] (.reg false [(cC 25 .add 13 1), (cMv 13 25)]))))))))))) (.keep [] (.seq (.reg false [(cQ 4 [] (.mv (kB true)))]) .ret)))))))
def pu77 : List Nat := []
def rs77 : List RV := [.t 4]
theorem cc77 : CCx Try.prog Try.f77 pu77 rc77 := by unfold CCx; kernel_rfl
theorem cb77 : CBx Try.f77 := by unfold CBx; kernel_rfl
theorem cs77 : CSx Try.prog Try.f77 rs77 := by unfold CSx; kernel_rfl
theorem cn77 : 2 ≤ Try.f77.ntmps := by decide
def rc75 : RC := (.seq (.reg false [(cQ 2 [] (.mv (.k (.z 1))))]) (.keep [0] (.seq (.reg false [(cMv 4 0), ⟨(some 5), none, [4], none, .o (kF 85) [(.t 4)]⟩, (cMv 3 5)]) (.keep [3] (.seq (.hcl false [(cMv 6 3)] ⟨(some 7), none, [6], none, .o (kF 94) [(.t 6)]⟩ []) (.keep [3] (.seq (.reg false [(cMv 8 3), (cMv 2 8)]) .ret)))))))
def pu75 : List Nat := [1000005]
def rs75 : List RV := [.t 2]
theorem cc75 : CCx Try.prog Try.f75 pu75 rc75 := by unfold CCx; kernel_rfl
theorem cb75 : CBx Try.f75 := by unfold CBx; kernel_rfl
theorem cs75 : CSx Try.prog Try.f75 rs75 := by unfold CSx; kernel_rfl
theorem cn75 : 1 ≤ Try.f75.ntmps := by decide
def rc50 : RC := (.seq (.reg false [(cX 2 0), (cI 4 0), (cI 5 0)]) (.keep [1,2] (.seq (.seq (.reg false [(cLd 8 2 true 2), (cQ 9 [8] (.call (kF 74) [(.t 8)])), (cMv 6 9)]) (.keep [1,2,6] (.seq (.reg false [(cMv 10 6), (cC 11 .neq 10 0)]) (.keep [1,2,6,11] (.cond (.t 11) (.seq (.reg false [(cMv 12 6), (cI 4 0), (cMv 5 12)]) .ret) .skip))))) (.keep [1,2] (.seq (.seq (.reg false [(cMv 13 1), (cQ 14 [13] (.call (kF 76) [(.t 13)])), (cQ 15 [14] (.call (kF 75) [(.t 14)])), (cMv 7 15)]) (.keep [1,2,7] (.seq (.reg false [(cMv 16 7), (cFa 17 2 1), (cLd 18 17 false 1), (cLn 19 18), (cQ 20 [19] (.call (kF 78) [(.t 19)])), (cQ 21 [16,20] (.call (kF 77) [(.t 16), (.t 20)])), (cN 22 21)]) (.keep [1,2,22] (.cond (.t 22) (.seq (.reg false [(cI 4 0), (cI 5 1)]) .ret) .skip))))) (.keep [1,2] (.seq (.reg false [(cLd 23 2 true 2), (cMv 24 1), (cQ 25 [23,24] (.call (kF 79) [(.t 23), (.t 24)])), (cMv 4 25), (cI 5 0)]) .ret)))))))
def pu50 : List Nat := [2]
def rs50 : List RV := [.t 4, .t 5]
theorem cc50 : CCx Try.prog Try.f50 pu50 rc50 := by unfold CCx; kernel_rfl
theorem cb50 : CBx Try.f50 := by unfold CBx; kernel_rfl
theorem cs50 : CSx Try.prog Try.f50 rs50 := by unfold CSx; kernel_rfl
theorem cn50 : 2 ≤ Try.f50.ntmps := by decide
end Go.C06
namespace Go.Proofs
open Go.Shelf
def Try.lays189_ren : Go.Shelf.Ren := ⟨fun | 189 => 94 | 125 => 105 | 257 => 104 | 128 => 116 | 129 => 117 | 294 => 107 | 295 => 108 | 296 => 109 | 297 => 110 | 298 => 111 | 299 => 112 | 216 => 113 | 300 => 114 | 301 => 115 | 328 => 118 | 329 => 119 | 330 => 120 | 331 => 121 | 332 => 122 | 215 => 123 | 343 => 124 | n => n, fun | 28 => 27 | 3 => 3 | 46 => 132 | 0 => 0 | 51 => 143 | 53 => 145 | 4 => 4 | 183 => 136 | 182 => 135 | 131 => 125 | 5 => 5 | 9 => 9 | 218 => 146 | 222 => 150 | 228 => 152 | 229 => 153 | n => n, fun | n => n⟩
theorem Try.lays189 : Go.Proofs.Lays.n189 Try.prog Try.lays189_ren := {
 mixed := by kernel_rfl
 f125 := Try.func105.trans (congrArg some (by kernel_rfl))
 f128 := Try.func116.trans (congrArg some (by kernel_rfl))
 f129 := Try.func117.trans (congrArg some (by kernel_rfl))
 f189 := Try.func94.trans (congrArg some (by kernel_rfl))
 f215 := Try.func123.trans (congrArg some (by kernel_rfl))
 f216 := Try.func113.trans (congrArg some (by kernel_rfl))
 f257 := Try.func104.trans (congrArg some (by kernel_rfl))
 f294 := Try.func107.trans (congrArg some (by kernel_rfl))
 f295 := Try.func108.trans (congrArg some (by kernel_rfl))
 f296 := Try.func109.trans (congrArg some (by kernel_rfl))
 f297 := Try.func110.trans (congrArg some (by kernel_rfl))
 f298 := Try.func111.trans (congrArg some (by kernel_rfl))
 f299 := Try.func112.trans (congrArg some (by kernel_rfl))
 f300 := Try.func114.trans (congrArg some (by kernel_rfl))
 f301 := Try.func115.trans (congrArg some (by kernel_rfl))
 f328 := Try.func118.trans (congrArg some (by kernel_rfl))
 f329 := Try.func119.trans (congrArg some (by kernel_rfl))
 f330 := Try.func120.trans (congrArg some (by kernel_rfl))
 f331 := Try.func121.trans (congrArg some (by kernel_rfl))
 f332 := Try.func122.trans (congrArg some (by kernel_rfl))
 f343 := Try.func124.trans (congrArg some (by kernel_rfl))
 t0 := Try.underlying0
 a0 := Try.isAgg0
 z0 := Try.sizeOf0
 v0 := Try.zeroValue0
 t3 := Try.underlying3
 a3 := Try.isAgg3
 z3 := Try.sizeOf3
 v3 := Try.zeroValue3
 t4 := Try.underlying4
 a4 := Try.isAgg4
 z4 := Try.sizeOf4
 v4 := Try.zeroValue4
 t5 := Try.underlying5
 a5 := Try.isAgg5
 z5 := Try.sizeOf5
 v5 := Try.zeroValue5
 t9 := Try.underlying9
 a9 := Try.isAgg9
 z9 := Try.sizeOf9
 v9 := Try.zeroValue9
 t28 := Try.underlying27
 a28 := Try.isAgg27
 z28 := Try.sizeOf27
 v28 := Try.zeroValue27
 t46 := Try.underlying132
 a46 := Try.isAgg132
 z46 := Try.sizeOf132
 v46 := Try.zeroValue132
 t51 := Try.underlying143
 a51 := Try.isAgg143
 z51 := Try.sizeOf143
 v51 := Try.zeroValue143
 t53 := Try.underlying145
 a53 := Try.isAgg145
 z53 := Try.sizeOf145
 v53 := Try.zeroValue145
 t131 := Try.underlying125
 a131 := Try.isAgg125
 z131 := Try.sizeOf125
 v131 := Try.zeroValue125
 t182 := Try.underlying135
 a182 := Try.isAgg135
 z182 := Try.sizeOf135
 v182 := Try.zeroValue135
 t183 := Try.underlying136
 a183 := Try.isAgg136
 z183 := Try.sizeOf136
 v183 := Try.zeroValue136
 t218 := Try.underlying146
 a218 := Try.isAgg146
 z218 := Try.sizeOf146
 v218 := Try.zeroValue146
 t222 := Try.underlying150
 a222 := Try.isAgg150
 z222 := Try.sizeOf150
 v222 := Try.zeroValue150
 t228 := Try.underlying152
 a228 := Try.isAgg152
 z228 := Try.sizeOf152
 v228 := Try.zeroValue152
 t229 := Try.underlying153
 a229 := Try.isAgg153
 z229 := Try.sizeOf153
 v229 := Try.zeroValue153 }
open Go.Sort Go.RowKit in
theorem Try.slices_Sort_int (blk off cap : Nat) (zs : List Int) (w : World) (hH : Holds (Value.int .i64) w blk off zs.toArray) (hblk : blk < w.heap.size) (hsz : zs.length < 4611686018427387904) :
  Calls Try.prog 94 #[.slice (some ⟨blk, off, none⟩) zs.length cap] w fun e w' =>
   e = .returned (.tuple #[]) ∧ ∃ n os, w' = grow (putRow (Value.int .i64) (Sort.ahead w n) blk off (zs.mergeSort fun x y => decide (x ≤ y)).toArray) os := Any.slices_Sort_int Try.lays189 blk off cap zs w hH hblk hsz
end Go.Proofs
set_option linter.unusedSimpArgs false
set_option linter.unusedVariables false
namespace Go.C06
open Go.Fam Go.Proofs
variable {Γ : Gam}
theorem Qrf (p : Option Addr) (cap : Nat) (w : World) : Calls Try.prog 94 #[.slice p 0 cap] w fun e w' => e = .returned (.tuple #[]) ∧ w' = w := Any.slices_Sort_int_none Try.lays189 p cap w
def eVs (l : List Int) : List V := [.pa [.sl 1 (l.map eI)]]
def dVs : List V → List Int | [.pa [.sl _ l]] => l.map dI | _ => []
theorem Qyn (l : List Int) : dVs (eVs l) = l := by simp [dVs, eVs, Function.comp_def, Qg3]
def okLn (l : List Int) : Prop := l.length ≤ 1000000
noncomputable def KA1 : Gam := (K2.ext 2000095 (fnG eVs dVs okLn (fun l => l.map eI) (.sl 0)))
theorem Quk : GOk Try.prog KA1 := by
 refine okK2.extI (f := 95) (fun a w => Try.call95 a w) fun vs ys h1 h2 => ?_
 simp only [fnG, V.sl.injEq, true_and] at h1 h2
 rw [← h1.1, ← h2]
 exact I95 _ h1.2
theorem h95 (l : List Int) : KA1 2000095 [.pa [.sl 1 (l.map eI)]] = (okLn l, .sl 0 (l.map eI)) :=
 (show KA1 2000095 _ = fnG eVs dVs okLn (fun l => l.map eI) (.sl 0) (eVs l) from rfl).trans (Qb6 _ (Qyn l))
def eQ1 (l : List Int) : List V := [.sl 1 (l.map eI)]
def dQ1 : List V → List Int | [.sl _ l] => l.map dI | _ => []
theorem Qyk (l : List Int) : dQ1 (eQ1 l) = l := by simp [dQ1, eQ1, Function.comp_def, Qg3]
theorem W76 (l : List Int) : Qah Try.prog 76 [.sl 1 (l.map eI)] (.fn 95 [.pa [.sl 1 (l.map eI)]]) := by
 refine Qag Quk hmix Try.func76 cb76 cc76 cs76 cn76 ?_
 simp only [rc76, rs76, Qa7, Qa8, Qac, Qa6, Qad, Qa4, Qa1, Fam.step, Qaf, evO, opv, qv, V.cells, Qaq, Qaa, Qa2, Qa0, Qa3, ↓reduceIte, Nat.reduceEqDiff, Qb, Qc, endQ, rvs, rv1, resV, Qax, Qkv, Qh4, zipA, and_self]
def eVA (l : List Int) : List V := [.z 1, .fn 95 [.pa [.sl 1 (l.map eI)]]]
def dVA : List V → List Int | [_, .fn _ [.pa [.sl _ l]]] => l.map dI | _ => []
theorem Qym (l : List Int) : dVA (eVA l) = l := by simp [dVA, eVA, Function.comp_def, Qg3]
def RVA (l : List Int) (r : V) (hp : List Blk) : Prop := r = .rf 1 l.length 0 l.length 1 ∧ hp = seqH l l.length
theorem W99v (l : List Int) (h : okLn l) : Qc6 Try.prog 99 (eVA l) [] (RVA l) := by
 refine Qio Quk hmix Try.func99 cb99 cc99 cs99 (args := eVA l) (hp := []) (by exact cn99) (by decide) (by decide) ?_
 have hlen : l.length ≤ 1000000 := h
 unfold eVA
 simp only [rc99, rs99, Qa7, Qa8, Qab, Qa6, Qmv, Qad, Qa4, Qa1, Fam.step, Qaf, Qbu, Qav, nv, evO, opv, qv, V.cells, Qaq, Qb8, Qa2, Qa0, Qa3, ↓reduceIte, Nat.reduceEqDiff, Qb, Qc, Qs, Qr, Qd, Qe, Qz, Qv, Qq, Zb, rv1, resV, zipA, Qi, Xc, Qp, true_and, and_self, reduceCtorEq]
 refine Qr9 (gf := 95) (caps := [.pa [.sl 1 (l.map eI)]]) (ok := okLn l) (ys := l.map eI) (fun k => seqH l k) (fun _ => True) ?_ ?_ (by decide) h rfl ?_ ?_ trivial ?_ ?_
 ·simp only [evO, Qa0, ↓reduceIte, Nat.reduceEqDiff]
 ·exact h95 l
 ·intro x hx
  obtain ⟨n, _, rfl⟩ := List.mem_map.1 hx
  rfl
 ·simp only [seqH, cutH, Zn, cutH, cutV, cutL, cutB, ↓reduceIte, Nat.reduceLT, Qb, Qc, Ql, Za, Qu]
 ·intro k x hx _
  rw [Q0, Option.map_eq_some_iff] at hx
  obtain ⟨n, hn, rfl⟩ := hx
  have hk := Qam hn
  have h1 : Qbj (k + 1) := by unfold Qbj; omega
  have hl : ((l.take k).map eI).flatten.length = k * 1 := by rw [Qkf, Xe, Xr (by omega)]
  have ht : ((l.take k).map eI).flatten ++ [V.i n] = ((l.take (k + 1)).map eI).flatten := by rw [Qb7 hn]; simp [eI]
  simp only [seqH, h1, hl, ht, Qay _ _ _ (Qix _), Zo, Zn, Qa7, Qab, Qdt, ↓Qc1, rnQ, rndQ, updL, cutH, putB, Qal, Qa4, Qa1, Fam.step, Qaf, Qbu, Qav, putB, nv, sv, Qcl, evO, opv, qv, ldV, Qap, putAt, Qba, Qbg, V.cells, Qaq, Qb8, Qaa, Qa5, cutV, cutL, cutB, Qa2, Qbb, Qa0, Qa3, ↓reduceIte, Nat.reduceEqDiff, Nat.reduceMul, Nat.reduceLT, Nat.reduceLeDiff, Qb, Qc, Qs, Qr, Qd, Qe, Qg, Qo, Zl, Ql, Za, Qu, Qk, Qv, Qj, Qq, Q6, Zb, Zv, Qx, Zh, vw_i, Qi, Qp, Qm, Qa, true_and, and_self, reduceCtorEq, not_false_eq_true, ne_eq, eI]
 ·intro _
  simp only [seqH, RVA, Qh, Qa7, Qa8, Qac, Qa6, ↓Qc1, endK, Qad, Qal, Qa4, Qa1, Fam.step, Qaf, evO, opv, qv, ldV, cutV, cutL, Qa2, Qa0, Qa3, ↓reduceIte, Nat.reduceLT, Nat.reduceLeDiff, Qb, Qc, Qd, Qe, Qo, Qk, Qq, rvs, rv1, Qi, Qa, and_self, Qh]
noncomputable def KA2 : Gam := (KA1.ext 76 (fnG eQ1 dQ1 (fun _ => True) (fun l => l) fun l => .fn 95 [.pa [.sl 1 (l.map eI)]])).extH 99 (hpG eVA (fun _ => []) (fun vs _ => dVA vs) okLn RVA)
theorem Qxh : GOk Try.prog KA2 := by
 refine (Quk.ext (f := 76) (fun a w => Try.call76 a w) (Qb0 (e := eQ1) (d := dQ1) (ok := fun _ => True) (g := fun l => l) (eb := fun l => .fn 95 [.pa [.sl 1 (l.map eI)]]) fun l _ => W76 l)).extH (f := 99) (fun a w => Try.call99 a w) (Qlm fun c h => ⟨fun r hp' _ y hy => (by cases hy), W99v c h⟩)
theorem h76 (l : List Int) : KA2 76 [.sl 1 (l.map eI)] = (True, .fn 95 [.pa [.sl 1 (l.map eI)]]) :=
 (show KA2 76 _ = fnG eQ1 dQ1 (fun _ => True) (fun l => l) (fun l => .fn 95 [.pa [.sl 1 (l.map eI)]]) (eQ1 l) from rfl).trans (Qb6 _ (Qyk l))
theorem h99v (l : List Int) : KA2.h 99 (eVA l) [] = (okLn l, RVA l) :=
 (show KA2.h 99 _ _ = hpG eVA (fun _ => []) (fun vs _ => dVA vs) okLn RVA (eVA l) [] from rfl).trans (Qll (eA := eVA) (eH := fun _ => []) l (Qym l))
def eF5 (l : List Int) : List V := [.fn 95 [.pa [.sl 1 (l.map eI)]]]
def dF5 : List V → List Int | [.fn _ [.pa [.sl _ l]]] => l.map dI | _ => []
theorem Qws (l : List Int) : dF5 (eF5 l) = l := by simp [dF5, eF5, Function.comp_def, Qg3]
def seqZ (l : List Int) : List Blk := [.cells 0 [.rf 1 l.length 0 l.length 1], .cells l.length (l.map V.i)]
theorem W85v (l : List Int) (h : okLn l) : Qdd Try.prog 85 (eF5 l) (.rf 1 l.length 0 l.length 1) (seqZ l) := by
 refine Qi6 Qxh hmix Try.func85 cb85 cc85 cs85 cn85 ?_
 have g1 := h99v l
 unfold eVA at g1
 simp only [rc85, rs85, eF5, g1, Qa7, Qa8, Qac, Qa6, Qj7, endO, Qad, Qa4, Qa1, Fam.step, Qaf, Qav, evO, opv, qv, Qa2, Qa0, Qa3, ↓reduceIte, Qb, Qc, Qj, rvs, rv1, resV, zipA, true_and, and_self, reduceCtorEq]
 refine ⟨h, ?_⟩
 rintro r hp ⟨rfl, rfl⟩
 simp only [seqH, Z6, Qnb, seqZ, and_self]
noncomputable def KA3 : Gam := KA2.ext 1000085 (fnG eF5 dF5 okLn (fun l => l) fun l => .tp [.rf 1 l.length 0 l.length 1, .tp ((seqZ l).map bV)])
theorem Qyr : GOk Try.prog KA3 := by
 refine Qxh.extO (f := 85) (fun a w => Try.call85 a w) fun vs v bs h1 h2 => ?_
 simp only [fnG, V.tp.injEq, List.cons.injEq, and_true] at h1 h2
 obtain ⟨rfl, rfl⟩ := h2
 have := W85v _ h1.2
 rw [h1.1] at this
 simpa only [seqZ, Qb, Qc, Qao] using this
theorem h85v (l : List Int) : KA3 1000085 [.fn 95 [.pa [.sl 1 (l.map eI)]]] = (okLn l, .tp [.rf 1 l.length 0 l.length 1, .tp ((seqZ l).map bV)]) :=
 (show KA3 1000085 _ = fnG eF5 dF5 okLn (fun l => l) (fun l => .tp [.rf 1 l.length 0 l.length 1, .tp ((seqZ l).map bV)]) (eF5 l) from rfl).trans (Qb6 _ (Qws l))
def eA94 (l : List Int) : List V := [.rf 1 l.length 0 l.length 1]
def Qww : List V → List Blk → List Int | _, [_, .cells _ cs] => cs.map gI | _, _ => []
def Qen (l : List Int) : List Int := l.mergeSort fun x y => decide (x ≤ y)
def R94 (l : List Int) (r : V) (hp : List Blk) : Prop := r = .tp [] ∧ hp = [.cells 0 [.rf 1 l.length 0 l.length 1], .cells l.length ((Qen l).map V.i)]
noncomputable def KA4 : Gam := KA3.extH 94 (hpG eA94 seqZ Qww okLn R94)
theorem Qul : GOk Try.prog KA4 := by
 refine Qyr.extH (f := 94) (fun a w => Try.call94 a w) (Qlm fun l h => ⟨fun r hp' _ y hy => (by cases hy), ?_⟩)
 exact Qow (fun blk off cap zs w h1 h2 h3 => Try.slices_Sort_int blk off cap zs w h1 h2 h3) Qrf (hp := seqZ l) (id := 1) (g := l.length) (zs := l) rfl h
theorem h94 (l : List Int) : KA4.h 94 [.rf 1 l.length 0 l.length 1] (seqZ l) = (okLn l, R94 l) :=
 (show KA4.h 94 _ _ = hpG eA94 seqZ Qww okLn R94 (eA94 l) (seqZ l) from rfl).trans (Qll l (Qt8 l))
theorem Qts (l : List Int)  : KA4 1000085 [.fn 95 [.pa [.sl 1 (l.map eI)]]] = (okLn l, .tp [.rf 1 l.length 0 l.length 1, .tp ((seqZ l).map bV)]) := h85v l
theorem Qm9 (l : List Int) : (Qen l).length = l.length := List.length_mergeSort _
theorem W75 (l : List Int) (h : okLn l) : Qah Try.prog 75 [.fn 95 [.pa [.sl 1 (l.map eI)]]] (.sl 1 ((Qen l).map eI)) := by
 refine Qag Qul hmix Try.func75 cb75 cc75 cs75 cn75 ?_
 have g1 := Qts l
 have g2 := h94 l
 unfold seqZ at g2
 have hb := Qek l
 simp only [rc75, rs75, g1, h, seqZ, Qdb _ _ hb, g2, Qa7, Qa8, Qac, Qa6, Qj7, Qj9, ocV, nidQ, plO, plQ, plB, Qd5, Qg1, Qdr, shV, shL, shB, Qao, Qad, Qa4, Qa1, Fam.step, Qaf, Qav, evO, opv, qv, Qaa, Qa5, Qa2, Qa0, Qa3, ↓reduceIte, Nat.reduceEqDiff, Nat.reduceAdd, Nat.reduceLT, Qb, Qc, Qs, Qr, Qe, Qv, Qj, endQ, rvs, rv1, resV, Qkv, Qh4, Qfv, zipA, Qi, Qp, Qy, Zp, Q4, Qm, true_and, and_self, reduceCtorEq]
 rintro r hp ⟨rfl, rfl⟩
 have e1 : (Qen l).length = l.length := Qm9 l
 have e2 : ((Qen l).map V.i).length = l.length := by rw [Qh, e1]
 have hck := Qn4 (Qen l)
 rw [e1] at hck
 simp only [e2, Z4, Zt, hck, vw_I, ↓reduceIte, Qq, Q6, and_self]
theorem W77 (l m : List Int) (h : l.length ≤ 1000000) : Qah Try.prog 77 [.sl 1 (l.map eI), .sl 1 (m.map eI)] (.b (decide (l = m))) := by
 refine Qag Qul hmix Try.func77 cb77 cc77 cs77 cn77 ?_
 simp only [rc77, rs77, Qaj, Qa7, Qa8, Qai, Qc3, Qab, Qac, Qa6, Qad, Qa4, Qa1, Fam.step, Qaf, evO, opv, qv, binV, lenV, Qa2, Qa0, Qa3, ↓reduceIte, Nat.reduceEqDiff, Qb, Qc, endQ, rvs, rv1, resV, vw_b, zipA, Qi, V.b.injEq, decide_eq_false_iff_not, true_and, and_self, reduceCtorEq, Zm, Qh, Classical.not_not]
 refine ⟨fun h1 => ?_, fun h1 => ?_⟩
 ·have : ¬ l = m := fun e => by rw [e] at h1; omega
  simp only [this, decide_false]
 ·have hlm : l.length = m.length := by omega
  refine Qc5 l.length (fun i => ⟨lkp [(0, .sl 1 (l.map eI)), (1, .sl 1 (m.map eI)), (12, .i m.length), (13, .i i)], []⟩) (fun i => ∀ j : Nat, j < i → l[j]? = m[j]?) ?_ ?_ ?_ ?_
  ·simp only [Zg, hlm, kp, Qa0, Qa3, ↓reduceIte, Nat.reduceEqDiff, Qb, Qc, reduceCtorEq]
  ·intro j hj; omega
  ·intro i hi hc
   obtain ⟨n, hn⟩ : ∃ n, l[i]? = some n := ⟨_, Qn hi⟩
   obtain ⟨n', hn'⟩ : ∃ n, m[i]? = some n := ⟨_, Qn (by omega)⟩
   have hlt : (i : Int) < l.length := by omega
   have hlt' : (i : Int) < m.length := by omega
   have h4 : inI ((i : Int) + 1) := by unfold inI; omega
   simp only [hn, hn', hlt, hlt', h4, Q8, Q9, Qaj, Qa7, Qb5, Qa8, Qai, Qc3, Qab, Qac, Qa6, Qb2, Qad, Qal, Qa4, Qa1, Fam.step, Qaf, runX, eff, Qb1, fpR, fpQ, fpV, Qbi, hits, evO, opv, qv, binV, ldV, iadV, kp, Qa2, Qa0, Qa3, ↓reduceIte, Nat.reduceEqDiff, Nat.reduceLeDiff, Qb, Qc, Qr, Qd, Qe, Qk, Qz, Qv, Qj, Qw, Qt, Ze, Qx, Zf, endQ, rvs, rv1, resV, vw_b, Q2, Qi, V.b.injEq, Qp, Qy, Q4, Qm, Q1, Q5, Qa, decide_true, decide_eq_false_iff_not, true_and, and_true, and_self, reduceCtorEq, Q7, Zk, Zc, Zm, Qh, Q3, Qf, Q0, Classical.not_not, eI]
   refine ⟨fun hne => ?_, fun he => ?_⟩
   ·have : ¬ l = m := fun e => by rw [e, hn'] at hn; cases hn; exact hne rfl
    simp only [this, decide_false]
   ·intro j hj
    by_cases hji : j < i
    ·exact hc j hji
    ·have : j = i := by omega
     subst this
     rw [hn, hn', he]
  ·intro hc
   have h77 : ¬ ((l.length : Int) < m.length) := by omega
   have : l = m := X2 fun j => by
    by_cases hj : j < l.length
    ·exact hc j hj
    ·rw [Zz (by omega), Zz (by omega)]
   simp only [this, Qa7, Qa8, Qai, Qat, Qac, Qa6, Qad, Qal, Qa4, Qa1, Fam.step, Qaf, evO, opv, qv, binV, Qa2, Qa0, Qa3, ↓reduceIte, Nat.reduceEqDiff, Qb, Qc, endQ, rvs, rv1, resV, vw_b, Z8, Qa, decide_true, decide_false, and_self, reduceCtorEq]
noncomputable def KA5 : Gam := (KA4.ext 75 (fnG eF5 dF5 okLn Qen fun l => .sl 1 (l.map eI))).ext 77 (fnG eLL dLL (fun a => a.1.length ≤ 1000000) (fun a => decide (a.1 = a.2)) .b)
theorem Qxi : GOk Try.prog KA5 := (Qul.ext (f := 75) (fun a w => Try.call75 a w) (Qb0 (e := eF5) (d := dF5) (ok := okLn) (g := Qen) (eb := fun l => .sl 1 (l.map eI)) fun l h => W75 l h)).ext (f := 77) (fun a w => Try.call77 a w) (Qb0 (e := eLL) (d := dLL) (ok := fun a => a.1.length ≤ 1000000) (g := fun a => decide (a.1 = a.2)) (eb := .b) fun a h => W77 a.1 a.2 h)
theorem h75 (l : List Int) : KA5 75 [.fn 95 [.pa [.sl 1 (l.map eI)]]] = (okLn l, .sl 1 ((Qen l).map eI)) :=
 (show KA5 75 _ = fnG eF5 dF5 okLn Qen (fun l => .sl 1 (l.map eI)) (eF5 l) from rfl).trans (Qb6 _ (Qws l))
theorem h77 (l m : List Int) : KA5 77 [.sl 1 (l.map eI), .sl 1 (m.map eI)] = (l.length ≤ 1000000, .b (decide (l = m))) :=
 (show KA5 77 _ = fnG eLL dLL (fun a => a.1.length ≤ 1000000) (fun a => decide (a.1 = a.2)) .b (eLL (l, m)) from rfl).trans (Qb6 _ (Qyj _))
theorem Qw8 (l : List Int)  : KA5 76 [.sl 1 (l.map eI)] = (True, .fn 95 [.pa [.sl 1 (l.map eI)]]) := h76 l
theorem Qw7 (s : Box)  : KA5 74 [.ag (eBox s)] = (True, .i (boxE s)) := h74 s
theorem Qw9 (n : Int)  : KA5 78 [.i n] = (0 ≤ n ∧ n ≤ 1000000, .sl 1 ((Qbr n.toNat).map eI)) := h78 n
theorem Qwa (s : Box) (l : List Int)  : KA5 79 [.ag (eBox s), .sl 1 (l.map eI)] = (OkD (s, l), .i (Qbc s l)) := h79 s l
def Qex (s : Box) (l : List Int) : Int × Int := if boxE s ≠ 0 then (0, boxE s) else if Qen l = Qbr s.boils.length then (Qbc s l, 0) else (0, 1)
theorem Qss {s : Box} {l : List Int} (hs : OkX s) (h : Qen l = Qbr s.boils.length) : OkD (s, l) := by
 have hp : (Qen l).Perm l := Xw l _
 have hn := Qhg s.boils.length
 refine ⟨hs, ?_, fun b hb => ?_⟩
 ·have := hp.length_eq
  rw [h, hn.1] at this
  have := hs.len
  show l.length ≤ 1000
  omega
 ·have := hp.mem_iff.2 hb
  rw [h] at this
  exact hn.2 b this
theorem W50 (s : Box) (l : List Int) (h : okLn l) : Qah Try.prog 50 [.ag (eBox s), .sl 1 (l.map eI)] (.tp [.i (Qex s l).1, .i (Qex s l).2]) := by
 refine Qag Qxi hmix Try.func50 cb50 cc50 cs50 cn50 ?_
 have g1 := Qw7 s
 have g2 := Qw8 l
 have g3 := h75 l
 have g4 := Qw9 s.boils.length
 have g5 := h77 (Qen l) (Qbr s.boils.length)
 have g6 := Qwa s l
 simp only [eBox] at g1 g6
 by_cases hb : boxE s = 0
 ·have hX := Qgj.1 hb
  have hl := hX.len
  have hin : (s.boils.length : Int) ≤ 1000000 := by omega
  have e1 : (Qen l).length ≤ 1000000 := by rw [Qm9]; exact h
  by_cases he : Qen l = Qbr s.boils.length
  ·have hD := Qss hX he
   rw [he] at g5 e1
   simp only [rc50, rs50, g1, hb, g2, g3, h, g4, hin, g5, e1, he, g6, hD, Qex, Qaj, Qa7, Qa8, Qai, Qac, Qa6, Qad, Qa4, Qa1, Fam.step, Qaf, evO, opv, qv, binV, ldV, lenV, Qar, V.cells, Qaq, Qaa, Qa5, flat, Qa2, Qa0, Qa3, ↓reduceIte, Nat.reduceEqDiff, Nat.reduceAdd, Nat.reduceLT, Nat.reduceLeDiff, Qb, Qc, Qd, Qe, Qg, Qo, Ql, Qu, Qk, Qj, Qw, endQ, rvs, rv1, resV, vw_i, Qax, Qkv, Qaw, Qci, Qh4, zipA, Q2, Qi, Qm, Q1, Qa, decide_true, and_self, implies_true, reduceCtorEq, not_true_eq_false, ne_eq, imp_self, Qh, Q3, eBox]
  ·simp only [rc50, rs50, g1, hb, g2, g3, h, g4, hin, g5, e1, he, Qex, Qaj, Qa7, Qa8, Qai, Qac, Qa6, Qad, Qa4, Qa1, Fam.step, Qaf, evO, opv, qv, binV, ldV, lenV, Qar, V.cells, Qaq, Qaa, Qa5, flat, Qa2, Qa0, Qa3, ↓reduceIte, Nat.reduceEqDiff, Nat.reduceAdd, Nat.reduceLT, Nat.reduceLeDiff, Qb, Qc, Qd, Qe, Qg, Qo, Ql, Qu, Qk, Qj, Qw, endQ, rvs, rv1, resV, vw_i, Qax, Qkv, Qaw, Qci, Qh4, zipA, Q2, Qi, Qm, Q1, Q5, Qa, decide_true, decide_false, and_self, implies_true, reduceCtorEq, not_true_eq_false, ne_eq, imp_self, Qh, Q3, eBox]
 ·simp only [rc50, rs50, g1, hb, Qex, Qa7, Qa8, Qai, Qac, Qa6, Qad, Qa4, Qa1, Fam.step, Qaf, evO, opv, qv, binV, ldV, Qar, V.cells, Qaq, Qaa, Qa5, flat, Qa2, Qa0, Qa3, ↓reduceIte, Nat.reduceEqDiff, Nat.reduceAdd, Nat.reduceLT, Nat.reduceLeDiff, Qb, Qc, Qd, Qe, Ql, Qu, Qj, Qw, endQ, rvs, rv1, resV, vw_i, Qax, Qaw, Qci, zipA, Qi, Qm, Q5, Qa, decide_false, and_self, implies_true, reduceCtorEq, not_false_eq_true, ne_eq, eBox]
noncomputable def KA6 : Gam := KA5.ext 50 (fnG eXL dXL (fun a => okLn a.2) (fun a => Qex a.1 a.2) fun r => .tp [.i r.1, .i r.2])
theorem Qum : GOk Try.prog KA6 := Qxi.ext (f := 50) (fun a w => Try.call50 a w) (Qb0 (e := eXL) (d := dXL) (ok := fun a => okLn a.2) (g := fun a => Qex a.1 a.2) (eb := fun r => .tp [.i r.1, .i r.2]) fun a h => W50 a.1 a.2 h)
theorem h50 (s : Box) (l : List Int) : KA6 50 [.ag (eBox s), .sl 1 (l.map eI)] = (okLn l, .tp [.i (Qex s l).1, .i (Qex s l).2]) :=
 (show KA6 50 _ = fnG eXL dXL (fun a => okLn a.2) (fun a => Qex a.1 a.2) (fun r => .tp [.i r.1, .i r.2]) (eXL (s, l)) from rfl).trans (Qb6 _ (Qo9 _))
end Go.C06
set_option maxRecDepth 8000
namespace Go.C06
open Go.Fam Go.Proofs
def rc73 : RC := (.seq (.reg false [(cQ 4 [] (.mv (kB false)))]) (.keep [0,1] (.seq (.seq (.reg false [(cI 5 0)]) (.keep [0,1,5] (.block 0 (.loop [0,1,5] none (.seq (.seq (.reg false [(cMv 6 5), (cMv 7 0), (cLn 8 7), (cB 9 .lss 6 8)]) (.keep [0,1,5,9] (.cond (.t 9) .skip (.exit 0)))) (.keep [0,1,5] (.seq (.block 1 (.seq (.reg false [(cMv 12 0), (cMv 13 5), (cA 14 1 12 13), (cLd 15 14 false 1), (cMv 16 1), (cB 17 .eql 15 16)]) (.keep [0,1,5,17] (.cond (.t 17) (.seq (.reg false [(cQ 4 [] (.mv (kB true)))]) .ret) .skip)))) (.keep [0,1,5] (.reg false [(cMv 10 5), (cC 11 .add 10 1), (cMv 5 11)]))))))))) (.keep [] (.seq (.reg false [(cQ 4 [] (.mv (kB false)))]) .ret)))))
def pu73 : List Nat := []
def rs73 : List RV := [.t 4]
theorem cc73 : CCx Try.prog Try.f73 pu73 rc73 := by unfold CCx; kernel_rfl
theorem cb73 : CBx Try.f73 := by unfold CBx; kernel_rfl
theorem cs73 : CSx Try.prog Try.f73 rs73 := by unfold CSx; kernel_rfl
theorem cn73 : 2 ≤ Try.f73.ntmps := by decide
def rc47 : RC := (.seq (.reg false [(cX 1 0), (cQ 2 [] (.mv (kB false)))]) (.keep [1] (.seq (.reg true [(cFa 3 1 1), (cLd 4 3 false 1), (cLn 5 4), (cC 6 .gtr 5 60), (cMv 7 6), (gQ 8 7 false [1] (.ld true 2 (.t 1))), (gQ 9 7 false [8] (.call (kF 48) [(.t 8)])), (gQ 10 7 false [9] (.bin .eql (.t 9) (kI 0))), (gMv 11 7 false 10), (gQ 12 11 true [1] (.fad 1 (.t 1))), (gQ 13 11 true [12] (.ld false 1 (.t 12))), (gQ 14 11 true [13] (.len (.t 13))), (gQ 15 11 true [14] (.bin .gtr (.t 14) (kI 5))), (gQ 16 7 false [11,15] (.pick (.t 11) (.t 15) (kB false))), (cQ 17 [7,16] (.pick (.t 7) (kB true) (.t 16))), (cMv 2 17)]) .ret)))
def pu47 : List Nat := [1]
def rs47 : List RV := [.t 2]
theorem cc47 : CCx Try.prog Try.f47 pu47 rc47 := by unfold CCx; kernel_rfl
theorem cb47 : CBx Try.f47 := by unfold CBx; kernel_rfl
theorem cs47 : CSx Try.prog Try.f47 rs47 := by unfold CSx; kernel_rfl
theorem cn47 : 1 ≤ Try.f47.ntmps := by decide
def rc48 : RC := (.seq (.reg false [(cX 1 0), (cI 2 0)]) (.keep [1] (.seq (.seq (.reg true [(cFa 4 1 0), (cLd 5 4 false 1), (cQ 6 [5] (.call (kF 56) [(.t 5), (kI 1), (kI 7)])), (cN 7 6), (cMv 8 7), (gQ 9 8 false [1] (.fad 1 (.t 1))), (gQ 10 8 false [9] (.ld false 1 (.t 9))), (gQ 11 8 false [10] (.len (.t 10))), (gQ 12 8 false [11] (.bin .gtr (.t 11) (kI 7))), (cQ 13 [8,12] (.pick (.t 8) (kB true) (.t 12)))]) (.keep [1,13] (.cond (.t 13) (.seq (.reg false [(cI 2 62)]) .ret) .skip))) (.keep [1] (.seq (.seq (.reg false [(cI 3 0)]) (.keep [1,3] (.block 0 (.loop [1,3] none (.seq (.seq (.reg false [(cMv 14 3), (cFa 15 1 1), (cLd 16 15 false 1), (cLn 17 16), (cB 18 .lss 14 17)]) (.keep [1,3,18] (.cond (.t 18) .skip (.exit 0)))) (.keep [1,3] (.seq (.block 1 (.seq (.reg true [(cFa 21 1 1), (cLd 22 21 false 1), (cMv 23 3), (cA 24 2 22 23), (cFa 25 24 0), (cLd 26 25 false 1), (cQ 27 [26] (.call (kF 56) [(.t 26), (kI 0), (kI 999)])), (cN 28 27), (cMv 29 28), (gQ 30 29 false [1] (.fad 1 (.t 1))), (gQ 31 29 false [30] (.ld false 1 (.t 30))), (gMv 32 29 false 3), (gQ 33 29 false [31,32] (.iad 2 (.t 31) (.t 32))), (gQ 34 29 false [33] (.fad 1 (.t 33))), (gQ 35 29 false [34] (.ld false 1 (.t 34))), (gQ 36 29 false [35] (.call (kF 56) [(.t 35), (kI 0), (kI 999)])), (gQ 37 29 false [36] (.not (.t 36))), (cQ 38 [29,37] (.pick (.t 29) (kB true) (.t 37)))]) (.keep [1,3,38] (.cond (.t 38) (.seq (.reg false [(cI 2 62)]) .ret) .skip)))) (.keep [1,3] (.reg false [(cMv 19 3), (cC 20 .add 19 1), (cMv 3 20)]))))))))) (.keep [] (.seq (.reg false [(cI 2 0)]) .ret)))))))
def pu48 : List Nat := [1]
def rs48 : List RV := [.t 2]
theorem cc48 : CCx Try.prog Try.f48 pu48 rc48 := by unfold CCx; kernel_rfl
theorem cb48 : CBx Try.f48 := by unfold CBx; kernel_rfl
theorem cs48 : CSx Try.prog Try.f48 rs48 := by unfold CSx; kernel_rfl
theorem cn48 : 1 ≤ Try.f48.ntmps := by decide
def rc49 : RC := (.seq (.reg false [(cX 2 0), (cQ 4 [] (.mv (kB false)))]) (.keep [1,2] (.seq (.seq (.reg false [(cI 5 0)]) (.keep [1,2,5] (.block 0 (.loop [1,2,5] none (.seq (.seq (.reg false [(cMv 6 5), (cMv 7 1), (cLn 8 7), (cB 9 .lss 6 8)]) (.keep [1,2,5,9] (.cond (.t 9) .skip (.exit 0)))) (.keep [1,2,5] (.seq (.block 1 (.seq (.any true 0 [⟨(cMv 12 1), [], []⟩, ⟨(cMv 13 5), [], []⟩, ⟨(cA 14 1 12 13), [], [0,1]⟩, ⟨(cLd 15 14 false 1), [], [2,0,1]⟩, ⟨(cC 16 .lss 15 0), [], [3,2,0,1]⟩, ⟨(cMv 17 16), [], [4,3,2,0,1]⟩, ⟨(gMv 18 17 false 1), [], [5,4,3,2,0,1]⟩, ⟨(gMv 19 17 false 5), [], [5,4,3,2,0,1]⟩, ⟨(gQ 20 17 false [18,19] (.iad 1 (.t 18) (.t 19))), [], [6,5,4,3,2,0,1,7]⟩, ⟨(gQ 21 17 false [20] (.ld false 1 (.t 20))), [], [8,6,5,4,3,2,0,1,7]⟩, ⟨(gQ 22 17 false [2] (.fad 1 (.t 2))), [], [5,4,3,2,0,1]⟩, ⟨(gQ 23 17 false [22] (.ld false 1 (.t 22))), [], [10,5,4,3,2,0,1]⟩, ⟨(gQ 24 17 false [23] (.len (.t 23))), [], [11,10,5,4,3,2,0,1]⟩, ⟨(gQ 25 17 false [21,24] (.bin .geq (.t 21) (.t 24))), [], [9,8,6,5,4,3,2,0,1,7,12,11,10]⟩, ⟨(cQ 26 [17,25] (.pick (.t 17) (kB true) (.t 25))), [], [5,4,3,2,0,1,13,9,8,6,7,12,11,10]⟩, ⟨(cMv 27 26), [], [14,5,4,3,2,0,1,13,9,8,6,7,12,11,10]⟩, ⟨(gMv 28 27 false 1), [], [15,14,5,4,3,2,0,1,13,9,8,6,7,12,11,10]⟩, ⟨(gMv 29 27 false 5), [], [15,14,5,4,3,2,0,1,13,9,8,6,7,12,11,10]⟩, ⟨(gQ 30 27 false [28,29] (.slc 1 (.t 28) none (some (.t 29)))), [], [16,15,14,5,4,3,2,0,1,13,9,8,6,7,12,11,10,17]⟩, ⟨(gMv 31 27 false 1), [], [15,14,5,4,3,2,0,1,13,9,8,6,7,12,11,10]⟩, ⟨(gMv 32 27 false 5), [], [15,14,5,4,3,2,0,1,13,9,8,6,7,12,11,10]⟩, ⟨(gQ 33 27 false [31,32] (.iad 1 (.t 31) (.t 32))), [], [19,15,14,5,4,3,2,0,1,13,9,8,6,7,12,11,10,20]⟩, ⟨(gQ 34 27 false [33] (.ld false 1 (.t 33))), [], [21,19,15,14,5,4,3,2,0,1,13,9,8,6,7,12,11,10,20]⟩, ⟨(gQ 35 27 false [30,34] (.call (kF 73) [(.t 30), (.t 34)])), [], [18,16,15,14,5,4,3,2,0,1,13,9,8,6,7,12,11,10,17,22,21,19,20]⟩, ⟨(cQ 36 [27,35] (.pick (.t 27) (kB true) (.t 35))), [], [15,14,5,4,3,2,0,1,13,9,8,6,7,12,11,10,23,18,16,17,22,21,19,20]⟩]) (.keep [1,2,5,36] (.cond (.t 36) (.seq (.reg false [(cQ 4 [] (.mv (kB false)))]) .ret) .skip)))) (.keep [1,2,5] (.reg false [(cMv 10 5), (cC 11 .add 10 1), (cMv 5 11)]))))))))) (.keep [1,2] (.seq (.reg false [(cMv 37 1), (cLn 38 37), (cFa 39 2 1), (cLd 40 39 false 1), (cLn 41 40), (cB 42 .eql 38 41), (cMv 4 42)]) .ret)))))
def pu49 : List Nat := [2]
def rs49 : List RV := [.t 4]
theorem cc49 : CCx Try.prog Try.f49 pu49 rc49 := by unfold CCx; kernel_rfl
theorem cb49 : CBx Try.f49 := by unfold CBx; kernel_rfl
theorem cs49 : CSx Try.prog Try.f49 rs49 := by unfold CSx; kernel_rfl
theorem cn49 : 2 ≤ Try.f49.ntmps := by decide
def rc53 : RC := (.seq (.reg false [(cX 2 0), (cI 4 0), (cI 5 0)]) (.keep [1,2] (.seq (.seq (.reg false [(cLd 12 2 true 2), (cQ 13 [12] (.call (kF 48) [(.t 12)])), (cMv 6 13)]) (.keep [1,2,6] (.seq (.reg false [(cMv 14 6), (cC 15 .neq 14 0)]) (.keep [1,2,6,15] (.cond (.t 15) (.seq (.reg false [(cMv 16 6), (cI 4 0), (cMv 5 16)]) .ret) .skip))))) (.keep [1,2] (.seq (.seq (.reg false [(cLd 17 2 true 2), (cMv 18 1), (cQ 19 [17,18] (.call (kF 49) [(.t 17), (.t 18)])), (cN 20 19)]) (.keep [1,2,20] (.cond (.t 20) (.seq (.reg false [(cI 4 0), (cI 5 1)]) .ret) .skip))) (.keep [1,2] (.seq (.reg false [(cI 7 0)]) (.keep [1,2,7] (.seq (.reg false [(cQ 8 [] (.mv (.k (.z 1))))]) (.keep [1,2,7,8] (.seq (.seq (.reg false [(cI 9 0)]) (.keep [1,2,7,8,9] (.block 0 (.own 8 1 (.loop [1,2,7,8,9] none (.seq (.seq (.reg false [(cMv 21 9), (cMv 22 1), (cLn 23 22), (cB 24 .lss 21 23)]) (.keep [1,2,7,8,9,24] (.cond (.t 24) .skip (.exit 0)))) (.keep [1,2,7,8,9] (.seq (.block 1 (.seq (.reg false [(cI 10 0)]) (.keep [1,2,7,8,9,10] (.seq (.seq (.reg false [(cMv 27 9), (cFa 28 2 0), (cLd 29 28 false 1), (cB 30 .geq 27 29)]) (.keep [1,2,7,8,9,10,30] (.cond (.t 30) (.reg false [(cMv 31 8), (cMv 32 9), (cFa 33 2 0), (cLd 34 33 false 1), (cB 35 .sub 32 34), (cA 36 1 31 35), (cLd 37 36 false 1), (cMv 10 37)]) .skip))) (.keep [1,2,7,8,9,10] (.seq (.any false 0 [⟨(cMv 38 7), [], []⟩, ⟨(cMv 39 10), [], []⟩, ⟨(cFa 40 2 1), [], []⟩, ⟨(cLd 41 40 false 1), [], [2]⟩, ⟨(cMv 42 1), [], []⟩, ⟨(cMv 43 9), [], []⟩, ⟨(cA 44 1 42 43), [], [4,5]⟩, ⟨(cLd 45 44 false 1), [], [6,4,5]⟩, ⟨(cA 46 2 41 45), [], [3,2,7,6,4,5]⟩, ⟨(cFa 47 46 0), [], [8,3,2,7,6,4,5]⟩, ⟨(cLd 48 47 false 1), [], [9,8,3,2,7,6,4,5]⟩, ⟨(cB 49 .add 39 48), [], [1,10,9,8,3,2,7,6,4,5]⟩, ⟨(cQ 50 [38,49] (.mx (.t 38) (.t 49))), [], [0,11,1,10,9,8,3,2,7,6,4,5]⟩, ⟨(cMv 11 50), [], [12,0,11,1,10,9,8,3,2,7,6,4,5]⟩]) (.keep [1,2,8,9,11] (.seq (.reg false [(cMv 51 8), (cMv 52 11), (cQ 53 [52] (.bsl 1 1 [(.i 0)] [(0,1, (.t 52))])), ⟨(some 54), none, [51,53], none, .w (.app 1 (.t 51) (.t 53))⟩, (cMv 8 54)]) (.keep [1,2,8,9,11] (.any false 0 [⟨(cMv 55 11), [], []⟩, ⟨(cFa 56 2 1), [], []⟩, ⟨(cLd 57 56 false 1), [], [1]⟩, ⟨(cMv 58 1), [], []⟩, ⟨(cMv 59 9), [], []⟩, ⟨(cA 60 1 58 59), [], [3,4]⟩, ⟨(cLd 61 60 false 1), [], [5,3,4]⟩, ⟨(cA 62 2 57 61), [], [2,1,6,5,3,4]⟩, ⟨(cFa 63 62 1), [], [7,2,1,6,5,3,4]⟩, ⟨(cLd 64 63 false 1), [], [8,7,2,1,6,5,3,4]⟩, ⟨(cB 65 .add 55 64), [], [0,9,8,7,2,1,6,5,3,4]⟩, ⟨(cMv 7 65), [], [10,0,9,8,7,2,1,6,5,3,4]⟩])))))))))) (.keep [1,2,7,8,9] (.reg false [(cMv 25 9), (cC 26 .add 25 1), (cMv 9 26)])))))))))) (.keep [7] (.seq (.reg false [(cMv 66 7), (cMv 4 66), (cI 5 0)]) .ret)))))))))))))
def pu53 : List Nat := [2,53]
def rs53 : List RV := [.t 4, .t 5]
theorem cc53 : CCx Try.prog Try.f53 pu53 rc53 := by unfold CCx; kernel_rfl
theorem cb53 : CBx Try.f53 := by unfold CBx; kernel_rfl
theorem cs53 : CSx Try.prog Try.f53 rs53 := by unfold CSx; kernel_rfl
theorem cn53 : 2 ≤ Try.f53.ntmps := by decide
def rc54 : RC := (.seq (.reg false [(cX 1 0), (cI 2 0), (cI 3 0)]) (.keep [1] (.seq (.seq (.reg false [(cLd 5 1 true 2), (cQ 6 [5] (.call (kF 48) [(.t 5)])), (cMv 4 6)]) (.keep [1,4] (.seq (.reg false [(cMv 7 4), (cC 8 .neq 7 0)]) (.keep [1,4,8] (.cond (.t 8) (.seq (.reg false [(cMv 9 4), (cI 2 0), (cMv 3 9)]) .ret) .skip))))) (.keep [1] (.seq (.reg false [(cLd 10 1 true 2), (cQ 11 [10] (.call (kF 80) [(.t 10), (.k (.z 1))])), (cMv 2 11), (cI 3 0)]) .ret)))))
def pu54 : List Nat := [1]
def rs54 : List RV := [.t 2, .t 3]
theorem cc54 : CCx Try.prog Try.f54 pu54 rc54 := by unfold CCx; kernel_rfl
theorem cb54 : CBx Try.f54 := by unfold CBx; kernel_rfl
theorem cs54 : CSx Try.prog Try.f54 rs54 := by unfold CSx; kernel_rfl
theorem cn54 : 1 ≤ Try.f54.ntmps := by decide
def rc80 : RC := (.seq (.reg false [(cX 2 0), (cI 4 0)]) (.keep [1,2] (.seq (.seq (.reg false [(cMv 10 1), (cLn 11 10), (cFa 12 2 1), (cLd 13 12 false 1), (cLn 14 13), (cB 15 .eql 11 14)]) (.keep [1,2,15] (.cond (.t 15) (.seq (.reg false [(cLd 17 2 true 2), (cMv 18 1), (cQ 19 [17,18] (.call (kF 53) [(.t 17), (.t 18)])), (cMv 16 19), (cEx 20 16 0), (cEx 21 16 1), (cMv 5 20), (cMv 6 21)]) (.keep [5] (.seq (.reg false [(cMv 22 5), (cMv 4 22)]) .ret))) .skip))) (.keep [1,2] (.seq (.reg false [(cQ 7 [] (.mv (.k (.i (-1)))))]) (.keep [1,2,7] (.seq (.seq (.reg false [(cI 8 0)]) (.keep [1,2,7,8] (.block 0 (.loop [1,2,7,8] (some 0) (.seq (.seq (.reg false [(cMv 23 8), (cFa 24 2 1), (cLd 25 24 false 1), (cLn 26 25), (cB 27 .lss 23 26)]) (.keep [1,2,7,8,27] (.cond (.t 27) .skip (.exit 0)))) (.keep [1,2,7,8] (.seq (.block 1 (.seq (.seq (.reg false [(cMv 30 1), (cMv 31 8), (cQ 32 [30,31] (.call (kF 73) [(.t 30), (.t 31)]))]) (.keep [1,2,7,8,32] (.cond (.t 32) (.exit 1) .skip))) (.keep [1,2,7,8] (.seq (.any false 3 [⟨(cLd 33 2 true 2), [], []⟩, ⟨⟨(some 34), none, [], (some 0), .w (.bso 1 0 [(.i 0)] [])⟩, [0], []⟩, ⟨(cMv 35 1), [1], []⟩, ⟨⟨(some 36), none, [34,35], (some 1), .w (.app 1 (.t 34) (.t 35))⟩, [0], [1,2]⟩, ⟨(cMv 37 8), [1,3], []⟩, ⟨(cQ 38 [37] (.bsl 1 1 [(.i 0)] [(0,1, (.t 37))])), [1,3], [4]⟩, ⟨⟨(some 39), none, [36,38], (some 2), .w (.app 1 (.t 36) (.t 38))⟩, [0], [3,1,2,5,4]⟩, ⟨⟨(some 40), none, [33,39], none, .o (kF 80) [(.t 33), (.t 39)]⟩, [], [0,6,3,1,2,5,4]⟩, ⟨(cMv 9 40), [], [7,0,6,3,1,2,5,4]⟩]) (.keep [1,2,7,8,9] (.seq (.reg true [(cMv 41 7), (cC 42 .lss 41 0), (cMv 43 42), (gMv 44 43 false 9), (gMv 45 43 false 7), (gQ 46 43 false [44,45] (.bin .lss (.t 44) (.t 45))), (cQ 47 [43,46] (.pick (.t 43) (kB true) (.t 46)))]) (.keep [1,2,7,8,9,47] (.cond (.t 47) (.reg false [(cMv 48 9), (cMv 7 48)]) .skip)))))))) (.drp 0 (.keep [1,2,7,8] (.reg false [(cMv 28 8), (cC 29 .add 28 1), (cMv 8 29)])))))))))) (.keep [7] (.seq (.reg false [(cMv 49 7), (cMv 4 49)]) .ret)))))))))
def pu80 : List Nat := [1000040,2,38]
def rs80 : List RV := [.t 4]
theorem cc80 : CCx Try.prog Try.f80 pu80 rc80 := by unfold CCx; kernel_rfl
theorem cb80 : CBx Try.f80 := by unfold CBx; kernel_rfl
theorem cs80 : CSx Try.prog Try.f80 rs80 := by unfold CSx; kernel_rfl
theorem cn80 : 2 ≤ Try.f80.ntmps := by decide
end Go.C06
set_option maxRecDepth 8000
namespace Go.C06
open Go.Fam Go.Proofs
def rc52 : RC := (.seq (.reg false [(cX 1 0), ⟨(some 2), none, [], none, .w (.alc [(.i 0), (.z 2)])⟩]) (.keep [1,2] (.seq (.any false 2 [⟨(cFa 3 1 0), [], []⟩, ⟨(cLd 4 3 false 1), [], [0]⟩, ⟨⟨(some 5), none, [], (some 0), .w (.bso 2 0 [(.i 0), (.i 0)] [])⟩, [0,1], []⟩, ⟨(cFa 6 1 1), [2], []⟩, ⟨(cLd 7 6 false 1), [2], [3]⟩, ⟨⟨(some 8), none, [5,7], (some 1), .w (.app 2 (.t 5) (.t 7))⟩, [0,1], [2,4,3]⟩, ⟨(cQ 9 [4,8] (.bld [(.i 0), (.z 2)] [(0,1, (.t 4)), (1,1, (.t 8))])), [], [1,0,5,2,4,3]⟩, ⟨⟨none, none, [2,9], none, .w (.st 2 (.t 2) (.t 9))⟩, [], [6,1,0,5,2,4,3]⟩]) .ret)))
def pu52 : List Nat := [1]
def rs52 : List RV := [.c 2 true 2]
theorem cc52 : CCx Try.prog Try.f52 pu52 rc52 := by unfold CCx; kernel_rfl
theorem cb52 : CBx Try.f52 := by unfold CBx; kernel_rfl
theorem cs52 : CSx Try.prog Try.f52 rs52 := by unfold CSx; kernel_rfl
theorem cn52 : 1 ≤ Try.f52.ntmps := by decide
def rc14 : RC := (.seq (.reg false [(cX 2 0), (cQ 4 [] (.mv (kB false)))]) (.keep [1,2] (.seq (.seq (.reg true [(cLd 19 2 true 2), (cQ 20 [19] (.call (kF 47) [(.t 19)])), (cMv 21 20), (gMv 22 21 false 1), (gQ 23 21 false [22] (.len (.t 22))), (gQ 24 21 false [23] (.bin .gtr (.t 23) (kI 60))), (cQ 25 [21,24] (.pick (.t 21) (kB true) (.t 24)))]) (.keep [1,2,25] (.cond (.t 25) (.seq (.reg false [(cQ 26 [] (.call (kF 18) [])), (cMv 4 26)]) .ret) .skip))) (.keep [1,2] (.seq (.reg false [(cLd 27 2 true 2), (cQ 28 [27] (.call (kF 52) [(.t 27)])), ⟨(some 5), none, [], none, .w (.alc [(.i 0), (.z 2)])⟩, ⟨none, none, [5,28], none, .w (.st 2 (.t 5) (.t 28))⟩]) (.keep [1,2,5] (.seq (.any false 2 [⟨(cLd 30 5 true 2), [], []⟩, ⟨⟨(some 31), none, [], (some 0), .w (.bso 1 0 [(.i 0)] [])⟩, [0], []⟩, ⟨(cMv 32 1), [1], []⟩, ⟨⟨(some 33), none, [31,32], (some 1), .w (.app 1 (.t 31) (.t 32))⟩, [0], [1,2]⟩, ⟨(cQ 34 [30,33] (.call (kF 50) [(.t 30), (.t 33)])), [], [0,3,1,2]⟩, ⟨(cMv 29 34), [], [4,0,3,1,2]⟩, ⟨(cEx 35 29 0), [], [5,4,0,3,1,2]⟩, ⟨(cEx 36 29 1), [], [5,4,0,3,1,2]⟩, ⟨(cMv 6 35), [], [6,5,4,0,3,1,2]⟩, ⟨(cMv 7 36), [], [7,5,4,0,3,1,2,8,6]⟩]) (.keep [1,2,5,6,7] (.seq (.reg false [(cLd 38 2 true 2), (cMv 39 1), (cQ 40 [38,39] (.call (kF 53) [(.t 38), (.t 39)])), (cMv 37 40), (cEx 41 37 0), (cEx 42 37 1), (cMv 8 41), (cMv 9 42)]) (.keep [2,5,6,7,8,9] (.seq (.reg false [(cLd 44 5 true 2), (cQ 45 [44] (.call (kF 51) [(.t 44)])), (cMv 43 45), (cEx 46 43 0), (cEx 47 43 1), (cMv 10 46), (cMv 11 47)]) (.keep [2,5,6,7,8,9,10,11] (.seq (.reg false [(cLd 49 2 true 2), (cQ 50 [49] (.call (kF 54) [(.t 49)])), (cMv 48 50), (cEx 51 48 0), (cEx 52 48 1), (cMv 12 51), (cMv 13 52)]) (.keep [2,5,6,7,8,9,10,11,12,13] (.seq (.reg false [(cLd 54 5 true 2), (cQ 55 [54] (.call (kF 55) [(.t 54)])), (cMv 53 55), (cEx 56 53 0), (cEx 57 53 1), (cMv 14 56), (cMv 15 57)]) (.keep [2,5,6,7,8,9,10,11,12,13,14,15] (.seq (.seq (.reg true [(cMv 58 6), (cMv 59 8), (cB 60 .neq 58 59), (cMv 61 60), (gMv 62 61 false 7), (gMv 63 61 false 9), (gQ 64 61 false [62,63] (.bin .neq (.t 62) (.t 63))), (cQ 65 [61,64] (.pick (.t 61) (kB true) (.t 64))), (cMv 66 65), (gMv 67 66 false 10), (gMv 68 66 false 12), (gQ 69 66 false [67,68] (.bin .neq (.t 67) (.t 68))), (cQ 70 [66,69] (.pick (.t 66) (kB true) (.t 69))), (cMv 71 70), (gMv 72 71 false 11), (gMv 73 71 false 13), (gQ 74 71 false [72,73] (.bin .neq (.t 72) (.t 73))), (cQ 75 [71,74] (.pick (.t 71) (kB true) (.t 74))), (cMv 76 75), (gMv 77 76 false 15), (gMv 78 76 false 13), (gQ 79 76 false [77,78] (.bin .neq (.t 77) (.t 78))), (cQ 80 [76,79] (.pick (.t 76) (kB true) (.t 79))), (cMv 81 80), (gQ 82 81 false [5] (.fad 1 (.t 5))), (gQ 83 81 false [82] (.ld false 1 (.t 82))), (gQ 84 81 false [83] (.len (.t 83))), (gQ 85 81 false [2] (.fad 1 (.t 2))), (gQ 86 81 false [85] (.ld false 1 (.t 85))), (gQ 87 81 false [86] (.len (.t 86))), (gQ 88 81 false [84,87] (.bin .neq (.t 84) (.t 87))), (cQ 89 [81,88] (.pick (.t 81) (kB true) (.t 88))), (cMv 90 89), (gQ 91 90 false [5] (.fad 0 (.t 5))), (gQ 92 90 false [91] (.ld false 1 (.t 91))), (gQ 93 90 false [2] (.fad 0 (.t 2))), (gQ 94 90 false [93] (.ld false 1 (.t 93))), (gQ 95 90 false [92,94] (.bin .neq (.t 92) (.t 94))), (cQ 96 [90,95] (.pick (.t 90) (kB true) (.t 95)))]) (.keep [2,5,12,13,14,96] (.cond (.t 96) (.seq (.reg false [(cQ 4 [] (.mv (kB false)))]) .ret) .skip))) (.keep [2,5,12,13,14] (.seq (.seq (.reg false [(cI 16 0)]) (.keep [2,5,12,13,14,16] (.block 0 (.loop [2,5,12,13,14,16] none (.seq (.seq (.reg false [(cMv 97 16), (cFa 98 2 1), (cLd 99 98 false 1), (cLn 100 99), (cB 101 .lss 97 100)]) (.keep [2,5,12,13,14,16,101] (.cond (.t 101) .skip (.exit 0)))) (.keep [2,5,12,13,14,16] (.seq (.block 1 (.seq (.any false 0 [⟨(cFa 104 5 1), [], []⟩, ⟨(cLd 105 104 false 1), [], [0]⟩, ⟨(cMv 106 16), [], []⟩, ⟨(cA 107 2 105 106), [], [1,0,2]⟩, ⟨(cLd 108 107 true 2), [], [3,1,0,2]⟩, ⟨(cFa 109 2 1), [], []⟩, ⟨(cLd 110 109 false 1), [], [5]⟩, ⟨(cMv 111 16), [], []⟩, ⟨(cA 112 2 110 111), [], [6,5,7]⟩, ⟨(cLd 113 112 true 2), [], [8,6,5,7]⟩, ⟨(cQ 114 [108,113] (.eqs true 78 (.t 108) (.t 113))), [], [4,3,1,0,2,9,8,6,5,7]⟩]) (.keep [2,5,12,13,14,16,114] (.cond (.t 114) (.seq (.reg false [(cQ 4 [] (.mv (kB false)))]) .ret) .skip)))) (.keep [2,5,12,13,14,16] (.reg false [(cMv 102 16), (cC 103 .add 102 1), (cMv 16 103)]))))))))) (.keep [2,12,13,14] (.seq (.seq (.reg false [(cMv 115 13), (cC 116 .neq 115 0)]) (.keep [2,12,14,116] (.cond (.t 116) (.seq (.reg true [(cMv 117 14), (cLn 118 117), (cC 119 .eql 118 0), (cMv 120 119), (gQ 121 120 true [] (.call (kF 18) [])), (cQ 122 [120,121] (.pick (.t 120) (.t 121) (kB false))), (cMv 4 122)]) .ret) .skip))) (.keep [2,12,14] (.seq (.reg false [(cLd 124 2 true 2), (cMv 125 14), (cQ 126 [124,125] (.call (kF 53) [(.t 124), (.t 125)])), (cMv 123 126), (cEx 127 123 0), (cEx 128 123 1), (cMv 17 127), (cMv 18 128)]) (.keep [12,17,18] (.seq (.reg true [(cMv 129 18), (cC 130 .eql 129 0), (cMv 131 130), (gMv 132 131 true 17), (gMv 133 131 true 12), (gQ 134 131 true [132,133] (.bin .eql (.t 132) (.t 133))), (cQ 135 [131,134] (.pick (.t 131) (.t 134) (kB false))), (cMv 136 135), (gQ 137 136 true [] (.call (kF 18) [])), (cQ 138 [136,137] (.pick (.t 136) (.t 137) (kB false))), (cMv 4 138)]) .ret)))))))))))))))))))))))))
def pu14 : List Nat := [2]
def rs14 : List RV := [.t 4]
theorem cc14 : CCx Try.prog Try.f14 pu14 rc14 := by unfold CCx; kernel_rfl
theorem cb14 : CBx Try.f14 := by unfold CBx; kernel_rfl
theorem cs14 : CSx Try.prog Try.f14 rs14 := by unfold CSx; kernel_rfl
theorem cn14 : 2 ≤ Try.f14.ntmps := by decide
end Go.C06
set_option linter.unusedSimpArgs false
set_option linter.unusedVariables false
namespace Go.C06
open Go.Fam Go.Proofs
variable {Γ : Gam}
theorem Qji (n lo hi : Int)  : KA6 56 [.i n, .i lo, .i hi] = (True, .b (Qan n lo hi)) := h56 n lo hi
theorem Qiz {b : Boil} {p q : Bool} (h1 : Qan b.soak 0 999 = p) (h2 : Qan b.bend 0 999 = q) : Qcf b = (p && q) := by unfold Qcf; rw [h1, h2]
theorem W48 (s : Box) : Qah Try.prog 48 [.ag (eBox s)] (.i (boxE s)) := by
 refine Qag Qum hmix Try.func48 cb48 cc48 cs48 cn48 ?_
 have hE : boxE s = if Qan s.room 1 7 && decide ((s.boils.length : Int) ≤ 7) && !(s.boils.any fun b => !Qcf b) then 0 else 62 := rfl
 by_cases h1 : Qan s.room 1 7 = true
 rotate_left
 ·simp only [rc48, rs48, Qji, h1, hE, Qa7, Qa8, Qai, Qac, Qa6, Qad, Qa4, Qa1, Fam.step, Qaf, Qb9, Qaz, ug, evO, opv, qv, Qak, binV, ldV, lenV, Qar, V.cells, Qaq, Qaa, Qa5, flat, Qa2, Qa0, Qa3, ↓reduceIte, Nat.reduceEqDiff, Nat.reduceAdd, Nat.reduceLT, Nat.reduceLeDiff, Qb, Qc, Qs, Qr, Qd, Qe, Qg, Qo, Qk, Qj, endQ, rvs, rv1, resV, vw_i, Qax, Qaw, zipA, Qi, Qp, Qy, Q4, Qm, Q1, Q5, Qa, Zi, and_true, and_self, forall_const, implies_true, beq_false, imp_self, Qh, eBox]
 by_cases h2 : (7 : Int) < s.boils.length
 ·have h3 : ¬ (s.boils.length : Int) ≤ 7 := by omega
  simp only [rc48, rs48, Qji, h1, h2, h3, hE, Qa7, Qa8, Qai, Qac, Qa6, Qad, Qa4, Qa1, Fam.step, Qaf, Qb9, Qaz, ug, evO, opv, qv, Qak, binV, ldV, lenV, Qar, V.cells, Qaq, Qaa, Qa5, flat, Qa2, Qa0, Qa3, ↓reduceIte, Nat.reduceEqDiff, Nat.reduceAdd, Nat.reduceLT, Nat.reduceLeDiff, Qb, Qc, Qs, Qr, Qd, Qe, Qg, Qo, Qk, Qj, endQ, rvs, rv1, resV, vw_i, Qax, Qaw, zipA, beq_self_eq_true, Qi, Qp, Q4, Zq, Qm, Q1, Qa, decide_true, decide_false, and_self, forall_const, implies_true, Qh, eBox]
 have h3 : (s.boils.length : Int) ≤ 7 := by omega
 simp only [rc48, rs48, Qji, h1, h2, Qaj, Qa7, Qa8, Qai, Qab, Qa6, Qad, Qa4, Qa1, Fam.step, Qaf, Qb9, Qaz, ug, evO, opv, qv, Qak, binV, ldV, lenV, Qar, V.cells, Qaq, Qaa, Qa5, flat, Qa2, Qa0, Qa3, ↓reduceIte, Nat.reduceEqDiff, Nat.reduceAdd, Nat.reduceLT, Nat.reduceLeDiff, Qb, Qc, Qs, Qr, Qd, Qe, Qg, Qo, Qk, Qj, vw_i, Qax, Qaw, zipA, beq_self_eq_true, Qi, Qp, Qm, Q1, Qa, decide_false, true_and, and_self, forall_const, implies_true, Qh, eBox]
 refine Qc5 s.boils.length (fun i => ⟨lkp [(1, .pa (eBox s)), (3, .i i)], []⟩) (fun i => ∀ j x, j < i → s.boils[j]? = some x → Qcf x = true) ?_ ?_ ?_ ?_
 ·simp only [Zg, kp, Qa0, Qa3, ↓reduceIte, Nat.reduceEqDiff, Qb, Qc, eBox]
 ·intro j x h; omega
 ·intro i hi hc
  obtain ⟨x, hx⟩ : ∃ x, s.boils[i]? = some x := ⟨_, Qn hi⟩
  have hlt : (i : Int) < s.boils.length := by omega
  have h4 : inI ((i : Int) + 1) := by unfold inI; omega
  have hno : Qcf x = false → boxE s = 62 := fun e => by
   have : (s.boils.any fun b => !Qcf b) = true := Zu.2 ⟨x, Zd hx, by rw [e]; rfl⟩
   rw [hE, this]; simp
  have hyes : Qcf x = true → ∀ j y, j < i + 1 → s.boils[j]? = some y → Qcf y = true := fun e j y hj hy => by
   by_cases hji : j < i
   ·exact hc j y hji hy
   ·have : j = i := by omega
    subst this
    rw [hx] at hy; cases hy; exact e
  cases hs : Qan x.soak 0 999 with
  | false =>
   have := hno (by rw [Qiz hs rfl]; rfl)
   simp only [hx, hlt, Qji, hs, this, Qaj, Qa7, Qa8, Qai, Qab, Qac, Qa6, Qad, Qal, Qa4, Qa1, Fam.step, Qaf, Qb9, Qaz, ug, evO, opv, qv, Qak, binV, ldV, iadV, lenV, Qar, Qaa, Qa5, flat, kp, Qa2, Qa0, Qa3, ↓reduceIte, Nat.reduceEqDiff, Nat.reduceAdd, Nat.reduceLT, Nat.reduceLeDiff, Qb, Qc, Qs, Qr, Qd, Qe, Qg, Qo, Qk, Qj, Qt, endQ, rvs, rv1, resV, vw_i, Q2, Qi, Qp, Qy, Qm, Q1, Q5, Qa, Zi, decide_true, and_true, and_self, forall_const, implies_true, Q7, beq_false, imp_self, Qh, Q3, Qf, Q0, eBoil, eBox]
  | true =>
   cases hb : Qan x.bend 0 999 with
   | false =>
    have := hno (by rw [Qiz hs hb]; rfl)
    simp only [hx, hlt, Qji, hs, hb, this, Qaj, Qa7, Qa8, Qai, Qab, Qac, Qa6, Qad, Qal, Qa4, Qa1, Fam.step, Qaf, Qb9, Qaz, ug, evO, opv, qv, Qak, binV, ldV, iadV, lenV, Qar, Qaa, Qa5, flat, kp, Qa2, Qa0, Qa3, ↓reduceIte, Nat.reduceEqDiff, Nat.reduceAdd, Nat.reduceLT, Nat.reduceLeDiff, Qb, Qc, Qs, Qr, Qd, Qe, Qg, Qo, Qk, Qj, Qt, endQ, rvs, rv1, resV, vw_i, Q2, beq_self_eq_true, Qi, Qp, Qm, Q1, Q5, Qa, decide_true, and_self, forall_const, implies_true, Q7, Qh, Q3, Qf, Q0, eBoil, eBox]
   | true =>
    simp only [hx, hlt, Qji, hs, hb, h4, Q8, Q9, Qaj, Qa7, Qa8, Qai, Qab, Qa6, Qad, Qal, Qa4, Qa1, Fam.step, Qaf, Qb9, Qaz, ug, evO, opv, qv, Qak, binV, ldV, iadV, lenV, Qar, Qaa, Qa5, flat, kp, Qa2, Qa0, Qa3, ↓reduceIte, Nat.reduceEqDiff, Nat.reduceAdd, Nat.reduceLT, Nat.reduceLeDiff, Qb, Qc, Qs, Qr, Qd, Qe, Qg, Qo, Qk, Qj, Qt, vw_i, Q2, beq_self_eq_true, Qi, Qp, Qm, Q1, Qa, decide_true, true_and, and_true, and_self, forall_const, implies_true, Q7, Qh, Q3, Qf, Q0, eBoil, eBox]
    exact hyes (by rw [Qiz hs hb]; rfl)
 ·intro hc
  have hlt : ¬ ((s.boils.length : Int) < s.boils.length) := by omega
  have : (s.boils.any fun b => !Qcf b) = false := by
   rw [List.any_eq_false]
   intro x hx
   obtain ⟨j, hj⟩ := Z5 hx
   rw [hc j x (Qam hj) hj]; simp
  have he : boxE s = 0 := by rw [hE, h1, this]; simp; omega
  simp only [hlt, he, Qa7, Qa8, Qai, Qat, Qac, Qa6, Qad, Qal, Qa4, Qa1, Fam.step, Qaf, evO, opv, qv, binV, ldV, lenV, Qa2, Qa0, Qa3, ↓reduceIte, Nat.reduceEqDiff, Nat.reduceLeDiff, Qb, Qc, Qd, Qe, Qg, Qo, Qk, endQ, rvs, rv1, resV, vw_i, Qi, Qa, decide_false, and_self, Qh, eBox]
theorem W73 (l : List Int) (n : Int) (h : l.length ≤ 1000000) : Qah Try.prog 73 [.sl 1 (l.map eI), .i n] (.b (decide (n ∈ l))) := by
 refine Qag Qum hmix Try.func73 cb73 cc73 cs73 cn73 ?_
 simp only [rc73, rs73, Qa7, Qa8, Qab, Qa6, Qad, Qa4, Qa1, Fam.step, Qaf, evO, opv, qv, Qa2, Qa0, Qa3, ↓reduceIte, Nat.reduceEqDiff, Qb, Qc, zipA, Qi, true_and, reduceCtorEq]
 refine Qc5 l.length (fun i => ⟨lkp [(0, .sl 1 (l.map eI)), (1, .i n), (5, .i i)], []⟩) (fun i => ∀ j : Nat, j < i → ¬ l[j]? = some n) ?_ ?_ ?_ ?_
 ·simp only [Zg, kp, Qa0, Qa3, ↓reduceIte, Nat.reduceEqDiff, Qb, Qc, reduceCtorEq]
 ·intro j hj; omega
 ·intro i hi hc
  obtain ⟨x, hx⟩ : ∃ n, l[i]? = some n := ⟨_, Qn hi⟩
  have hlt : (i : Int) < l.length := by omega
  have h4 : inI ((i : Int) + 1) := by unfold inI; omega
  simp only [hx, hlt, h4, Q8, Q9, Qaj, Qa7, Qa8, Qai, Qc3, Qab, Qac, Qa6, Qad, Qal, Qa4, Qa1, Fam.step, Qaf, evO, opv, qv, binV, ldV, iadV, lenV, kp, Qa2, Qa0, Qa3, ↓reduceIte, Nat.reduceEqDiff, Nat.reduceLeDiff, Qb, Qc, Qd, Qe, Qk, Qt, endQ, rvs, rv1, resV, vw_b, Q2, Qi, V.b.injEq, Qa, decide_true, decide_eq_true_eq, true_and, and_true, and_self, reduceCtorEq, Q7, Qh, Q3, Qf, Q0, eI]
  refine ⟨fun he => ?_, fun he => ?_⟩
  ·have : n ∈ l := by rw [← he]; exact Zd hx
   simp only [this, decide_true]
  ·intro j hj
   by_cases hji : j < i
   ·exact hc j hji
   ·have : j = i := by omega
    subst this
    rw [hx]
    simpa using he
 ·intro hc
  have h77 : ¬ ((l.length : Int) < l.length) := by omega
  have : ¬ n ∈ l := fun hn => by
   obtain ⟨j, hj⟩ := Z5 hn
   exact hc j (Qam hj) hj
  simp only [h77, this, Qa7, Qa8, Qai, Qat, Qac, Qa6, Qad, Qal, Qa4, Qa1, Fam.step, Qaf, evO, opv, qv, binV, lenV, Qa2, Qa0, Qa3, ↓reduceIte, Nat.reduceEqDiff, Qb, Qc, endQ, rvs, rv1, resV, vw_b, Qa, decide_false, and_self, reduceCtorEq, Qh]
noncomputable def KB1 : Gam := (KA6.ext 48 (fnG eX1 dX1 (fun _ => True) boxE .i)).ext 73 (fnG eLI dLI (fun a => a.1.length ≤ 1000000) (fun a => decide (a.2 ∈ a.1)) .b)
theorem Qun : GOk Try.prog KB1 := (Qum.ext (f := 48) (fun a w => Try.call48 a w) (Qb0 (e := eX1) (d := dX1) (ok := fun _ => True) (g := boxE) (eb := .i) fun s _ => W48 s)).ext (f := 73) (fun a w => Try.call73 a w) (Qb0 (e := eLI) (d := dLI) (ok := fun a => a.1.length ≤ 1000000) (g := fun a => decide (a.2 ∈ a.1)) (eb := .b) fun a h => W73 a.1 a.2 h)
theorem h48 (s : Box) : KB1 48 [.ag (eBox s)] = (True, .i (boxE s)) := (show KB1 48 _ = fnG eX1 dX1 (fun _ => True) boxE .i (eX1 s) from rfl).trans (Qb6 _ (Qk4 _))
theorem h73 (l : List Int) (n : Int) : KB1 73 [.sl 1 (l.map eI), .i n] = (l.length ≤ 1000000, .b (decide (n ∈ l))) :=
 (show KB1 73 _ = fnG eLI dLI (fun a => a.1.length ≤ 1000000) (fun a => decide (a.2 ∈ a.1)) .b (eLI (l, n)) from rfl).trans (Qb6 _ (Qty _))
def farX (s : Box) : Bool := decide ((60 : Int) < s.boils.length) || (decide (boxE s = 0) && decide ((5 : Int) < s.boils.length))
theorem W47 (s : Box) : Qah Try.prog 47 [.ag (eBox s)] (.b (farX s)) := by
 refine Qag Qun hmix Try.func47 cb47 cc47 cs47 cn47 ?_
 have g1 := h48 s
 simp only [eBox] at g1
 by_cases h1 : (60 : Int) < s.boils.length
 ·by_cases h2 : boxE s = 0 <;> simp only [rc47, rs47, g1, h1, h2, farX, Qa7, Qa8, Qac, Qa6, Qad, Qa4, Qa1, Fam.step, Qaf, Qb9, Qaz, ug, evO, opv, qv, Qak, binV, ldV, lenV, Qar, V.cells, Qaq, Qaa, Qa5, flat, Qa2, Qa0, Qa3, ↓reduceIte, Nat.reduceEqDiff, Nat.reduceAdd, Nat.reduceLT, Nat.reduceLeDiff, Qb, Qc, Qs, Qr, Qd, Qe, Qg, Qo, Ql, Qu, Qk, Qj, endQ, rvs, rv1, resV, vw_i, vw_b, Qax, Qaw, zipA, beq_self_eq_true, Qi, Qp, Qy, Zp, Q4, Qm, X3, Q1, Qa, Zi, decide_true, decide_false, and_true, and_self, forall_const, implies_true, beq_true, beq_false, imp_self, Qh, eBox]
 ·by_cases h2 : boxE s = 0
  ·simp only [rc47, rs47, g1, h1, h2, farX, Qa7, Qa8, Qac, Qa6, Qad, Qa4, Qa1, Fam.step, Qaf, Qb9, Qaz, ug, evO, opv, qv, Qak, binV, ldV, lenV, Qar, V.cells, Qaq, Qaa, Qa5, flat, Qa2, Qa0, Qa3, ↓reduceIte, Nat.reduceEqDiff, Nat.reduceAdd, Nat.reduceLT, Nat.reduceLeDiff, Qb, Qc, Qs, Qr, Qd, Qe, Qg, Qo, Ql, Qu, Qk, Qj, endQ, rvs, rv1, resV, vw_i, vw_b, Qax, Qaw, zipA, beq_self_eq_true, Qi, Qp, Zp, Qm, Zy, Qa, Zi, decide_true, decide_false, and_self, forall_const, implies_true, Qh, eBox]
  ·simp only [rc47, rs47, g1, h1, h2, farX, Qa7, Qa8, Qac, Qa6, Qad, Qa4, Qa1, Fam.step, Qaf, Qb9, Qaz, ug, evO, opv, qv, Qak, binV, ldV, lenV, Qar, V.cells, Qaq, Qaa, Qa5, flat, Qa2, Qa0, Qa3, ↓reduceIte, Nat.reduceEqDiff, Nat.reduceAdd, Nat.reduceLT, Nat.reduceLeDiff, Qb, Qc, Qs, Qr, Qd, Qe, Qg, Qo, Ql, Qu, Qk, Qj, endQ, rvs, rv1, resV, vw_i, vw_b, Qax, Qaw, zipA, beq_self_eq_true, Qi, Qp, Qy, Q4, Zq, Qm, Qa, decide_false, and_true, and_self, forall_const, implies_true, beq_true, imp_self, Qh, eBox]
structure IsOrd (n : Nat) (l : List Int) : Prop where
 len : l.length = n
 in_ : ∀ x ∈ l, 0 ≤ x ∧ x < n
 nodup : l.Nodup
instance (n : Nat) (l : List Int) : Decidable (IsOrd n l) := decidable_of_iff (l.length = n ∧ (∀ x ∈ l, 0 ≤ x ∧ x < n) ∧ l.Nodup) ⟨fun h => ⟨h.1, h.2.1, h.2.2⟩, fun h => ⟨h.1, h.2, h.3⟩⟩
theorem Qhe {l : List Int} {x : Int} (h : l.Nodup) (hx : x ∉ l) : (l ++ [x]).Nodup := by
 rw [Xn]
 exact ⟨h, by simp, fun a ha b hb e => by rw [Xa] at hb; subst hb; subst e; exact hx ha⟩
theorem W49 (s : Box) (l : List Int) (h : l.length ≤ 1000000) : Qah Try.prog 49 [.ag (eBox s), .sl 1 (l.map eI)] (.b (decide (IsOrd s.boils.length l))) := by
 refine Qag Qun hmix Try.func49 cb49 cc49 cs49 cn49 ?_
 simp only [rc49, rs49, Qa7, Qa8, Qab, Qa6, Qad, Qa4, Qa1, Fam.step, Qaf, evO, opv, qv, V.cells, Qaq, Qaa, Qa5, Qa2, Qa0, Qa3, ↓reduceIte, Nat.reduceEqDiff, Qb, Qc, vw_i, Qax, Qaw, zipA, Qi, Qm, true_and, and_self, reduceCtorEq, eBox]
 refine Qc5 l.length (fun i => ⟨lkp [(1, .sl 1 (l.map eI)), (2, .pa (eBox s)), (5, .i i)], []⟩) (fun i => (∀ x ∈ l.take i, 0 ≤ x ∧ x < s.boils.length) ∧ (l.take i).Nodup) ?_ ?_ ?_ ?_
 ·simp only [Zg, kp, Qa0, Qa3, ↓reduceIte, Nat.reduceEqDiff, Qb, Qc, eBox]
 ·exact ⟨by simp, by simp⟩
 ·intro i hi hc
  obtain ⟨x, hx⟩ : ∃ n, l[i]? = some n := ⟨_, Qn hi⟩
  have hlt : (i : Int) < l.length := by omega
  have h4 : inI ((i : Int) + 1) := by unfold inI; omega
  have hxl := Zd hx
  have g1 := h73 (l.take i) x
  have htl : (l.take i).length ≤ 1000000 := by rw [Xe]; omega
  have hii : (i : Int) ≤ l.length := by omega
  rw [List.map_take] at g1
  by_cases k0 : x < 0
  ·have hno : ¬ IsOrd s.boils.length l := fun h => by have := h.in_ x hxl; omega
   simp only [hx, hlt, k0, hno, Qaj, Qa7, Qb5, Qa8, Qai, Qab, Qac, Qa6, Qb2, Qad, Qal, Qa4, Qa1, Fam.step, Qaf, Qb9, Qaz, ug, runX, eff, Qb1, fpR, fpQ, fpV, Qbi, hits, evO, opv, qv, Qak, Qdp, binV, ldV, iadV, lenV, slcV, Qiq, Qar, Qaa, Qa5, kp, Qa2, Qa0, Qa3, ↓reduceIte, Nat.reduceEqDiff, Nat.reduceLT, Nat.reduceLeDiff, Z3, Int.reduceLE, Qb, Qc, Qs, Qr, Qd, Qe, Qg, Qo, Qk, Qz, Qv, Qj, Qw, Qt, Ze, Qx, Zf, endQ, rvs, rv1, resV, vw_i, vw_b, Qax, Q2, Qi, Qp, Qy, Q4, Qm, Q1, Q5, Qa, Zi, decide_true, decide_false, true_and, and_true, and_self, false_and, forall_const, false_implies, implies_true, Q7, Xh, Zk, Zc, beq_false, imp_self, Qh, Q3, Qf, Q0, eBox, eI]
  by_cases k1 : (s.boils.length : Int) ≤ x
  ·have hno : ¬ IsOrd s.boils.length l := fun h => by have := h.in_ x hxl; omega
   simp only [hx, hlt, k0, k1, hno, Qaj, Qa7, Qb5, Qa8, Qai, Qab, Qac, Qa6, Qb2, Qad, Qal, Qa4, Qa1, Fam.step, Qaf, Qb9, Qaz, ug, runX, eff, Qb1, fpR, fpQ, fpV, Qbi, hits, evO, opv, qv, Qak, Qdp, binV, ldV, iadV, lenV, slcV, Qiq, Qar, Qaa, Qa5, kp, Qa2, Qa0, Qa3, ↓reduceIte, Nat.reduceEqDiff, Nat.reduceLT, Nat.reduceLeDiff, Z3, Int.reduceLE, Qb, Qc, Qs, Qr, Qd, Qe, Qg, Qo, Qk, Qz, Qv, Qj, Qw, Qt, Ze, Qx, Zf, endQ, rvs, rv1, resV, vw_i, vw_b, Qax, Q2, beq_self_eq_true, Qi, Qp, Qy, Q4, Qm, Q1, Q5, Qa, Zi, decide_true, decide_false, true_and, and_true, and_self, false_and, forall_const, false_implies, implies_true, Q7, Xh, Zk, Zc, beq_false, imp_self, Qh, Q3, Qf, Q0, eBox, eI]
  by_cases k2 : x ∈ l.take i
  ·have hno : ¬ IsOrd s.boils.length l := fun h => by
    have h5 : l.take (i + 1) = l.take i ++ [x] := Qb7 hx
    have h6 : (l.take (i + 1)).Nodup := h.nodup.sublist (X6 _ _)
    rw [h5, Xn] at h6
    exact h6.2.2 x k2 x (by simp) rfl
   simp only [hx, hlt, k0, k1, g1, htl, hii, k2, hno, Qaj, Qa7, Qb5, Qa8, Qai, Qab, Qac, Qa6, Qb2, Qad, Qal, Qa4, Qa1, Fam.step, Qaf, Qb9, Qaz, ug, runX, eff, Qb1, fpR, fpQ, fpV, Qbi, hits, evO, opv, qv, Qak, binV, ldV, iadV, lenV, slcV, Qiq, Qar, Qaa, Qa5, flat, kp, Qa2, Qa0, Qa3, ↓reduceIte, Nat.reduceEqDiff, Nat.reduceLT, Nat.reduceLeDiff, Z3, Int.reduceLE, Qb, Qc, Qs, Qr, Qd, Qe, Qg, Qo, Qk, Qz, Qv, Qj, Qw, Qt, Ze, Qx, Zf, endQ, rvs, rv1, resV, vw_i, vw_b, Qax, Q2, beq_self_eq_true, Qi, Qp, Qy, Q4, Qm, Q1, Q5, Qa, decide_true, decide_false, and_self, forall_const, implies_true, Q7, Xh, Zk, Zc, Qh, Q3, Qf, Q0, eBox, eI]
  ·simp only [hx, hlt, k0, k1, g1, htl, hii, k2, h4, Q8, Q9, Qaj, Qa7, Qb5, Qa8, Qai, Qab, Qa6, Qb2, Qad, Qal, Qa4, Qa1, Fam.step, Qaf, Qb9, Qaz, ug, runX, eff, Qb1, fpR, fpQ, fpV, Qbi, hits, evO, opv, qv, Qak, binV, ldV, iadV, lenV, slcV, Qiq, Qar, Qaa, Qa5, flat, kp, Qa2, Qa0, Qa3, ↓reduceIte, Nat.reduceEqDiff, Nat.reduceLT, Nat.reduceLeDiff, Z3, Int.reduceLE, Qb, Qc, Qs, Qr, Qd, Qe, Qg, Qo, Qk, Qz, Qv, Qj, Qw, Qt, Ze, Qx, Zf, vw_i, Qax, Q2, beq_self_eq_true, Qi, Qp, Qy, Q4, Qm, Q1, Q5, Qa, decide_true, decide_false, true_and, and_true, and_self, forall_const, implies_true, Q7, Xh, Zk, Zc, Qh, Q3, Qf, Q0, eBox, eI]
   rw [Qb7 hx]
   refine ⟨fun y hy => ?_, Qhe hc.2 k2⟩
   rcases Xs.1 hy with hy | hy
   ·exact hc.1 y hy
   ·rw [Xa] at hy; omega
 ·intro hc
  have h77 : ¬ ((l.length : Int) < l.length) := by omega
  rw [Z6] at hc
  by_cases e : (l.length : Int) = s.boils.length
  ·have : IsOrd s.boils.length l := ⟨by omega, hc.1, hc.2⟩
   simp only [e, this, Qa7, Qa8, Qai, Qat, Qac, Qa6, Qad, Qal, Qa4, Qa1, Fam.step, Qaf, evO, opv, qv, binV, ldV, lenV, Qa2, Qa0, Qa3, ↓reduceIte, Nat.reduceEqDiff, Nat.reduceLeDiff, Qb, Qc, Qd, Qe, Qg, Qo, Qk, endQ, rvs, rv1, resV, vw_b, Z8, Qi, Qa, decide_true, decide_false, and_self, Qh, eBox]
  ·have : ¬ IsOrd s.boils.length l := fun h => by have := h.len; omega
   simp only [h77, e, this, Qa7, Qa8, Qai, Qat, Qac, Qa6, Qad, Qal, Qa4, Qa1, Fam.step, Qaf, evO, opv, qv, binV, ldV, lenV, Qa2, Qa0, Qa3, ↓reduceIte, Nat.reduceEqDiff, Nat.reduceLeDiff, Qb, Qc, Qd, Qe, Qg, Qo, Qk, endQ, rvs, rv1, resV, vw_b, Qi, Qa, decide_false, and_self, Qh, eBox]
noncomputable def KB2 : Gam := (KB1.ext 47 (fnG eX1 dX1 (fun _ => True) farX .b)).ext 49 (fnG eXL dXL (fun a => a.2.length ≤ 1000000) (fun a => decide (IsOrd a.1.boils.length a.2)) .b)
theorem Qxj : GOk Try.prog KB2 := (Qun.ext (f := 47) (fun a w => Try.call47 a w) (Qb0 (e := eX1) (d := dX1) (ok := fun _ => True) (g := farX) (eb := .b) fun s _ => W47 s)).ext (f := 49) (fun a w => Try.call49 a w) (Qb0 (e := eXL) (d := dXL) (ok := fun a => a.2.length ≤ 1000000) (g := fun a => decide (IsOrd a.1.boils.length a.2)) (eb := .b) fun a h => W49 a.1 a.2 h)
theorem h47 (s : Box) : KB2 47 [.ag (eBox s)] = (True, .b (farX s)) := (show KB2 47 _ = fnG eX1 dX1 (fun _ => True) farX .b (eX1 s) from rfl).trans (Qb6 _ (Qk4 _))
theorem h49 (s : Box) (l : List Int) : KB2 49 [.ag (eBox s), .sl 1 (l.map eI)] = (l.length ≤ 1000000, .b (decide (IsOrd s.boils.length l))) :=
 (show KB2 49 _ = fnG eXL dXL (fun a => a.2.length ≤ 1000000) (fun a => decide (IsOrd a.1.boils.length a.2)) .b (eXL (s, l)) from rfl).trans (Qb6 _ (Qo9 _))
theorem Qwb (s : Box)  : KB2 48 [.ag (eBox s)] = (True, .i (boxE s)) := h48 s
def Qdf (s : Box) (l : List Int) : Int × Int := if boxE s ≠ 0 then (0, boxE s) else if IsOrd s.boils.length l then (Qbc s l, 0) else (0, 1)
theorem W53 (s : Box) (l : List Int) (h : l.length ≤ 1000000) : Qah Try.prog 53 [.ag (eBox s), .sl 1 (l.map eI)] (.tp [.i (Qdf s l).1, .i (Qdf s l).2]) := by
 refine Qag Qxj hmix Try.func53 cb53 cc53 cs53 cn53 ?_
 have g1 := Qwb s
 have g2 := h49 s l
 simp only [eBox] at g1 g2
 by_cases hb : boxE s = 0
 rotate_left
 ·simp only [rc53, rs53, g1, hb, Qdf, Qa7, Qa8, Qai, Qac, Qa6, Qad, Qa4, Qa1, Fam.step, Qaf, evO, opv, qv, binV, ldV, Qar, V.cells, Qaq, Qaa, Qa5, flat, Qa2, Qa0, Qa3, ↓reduceIte, Nat.reduceEqDiff, Nat.reduceAdd, Nat.reduceLT, Nat.reduceLeDiff, Qb, Qc, Qd, Qe, Ql, Qu, Qj, Qw, endQ, rvs, rv1, resV, vw_i, Qax, Qaw, Qci, zipA, Qi, Qm, Q5, Qa, decide_false, and_self, implies_true, reduceCtorEq, not_false_eq_true, ne_eq, eBox]
 by_cases hO : IsOrd s.boils.length l
 rotate_left
 ·simp only [rc53, rs53, g1, hb, g2, h, hO, Qdf, Qaj, Qa7, Qa8, Qai, Qac, Qa6, Qad, Qa4, Qa1, Fam.step, Qaf, evO, opv, qv, binV, ldV, Qar, V.cells, Qaq, Qaa, Qa5, flat, Qa2, Qa0, Qa3, ↓reduceIte, Nat.reduceEqDiff, Nat.reduceAdd, Nat.reduceLT, Nat.reduceLeDiff, Qb, Qc, Qd, Qe, Ql, Qu, Qj, Qw, endQ, rvs, rv1, resV, vw_i, Qax, Qaw, Qci, zipA, Qi, Qm, Q1, Q5, Qa, decide_true, decide_false, and_self, implies_true, reduceCtorEq, not_true_eq_false, ne_eq, eBox]
 have hs := Qgj.1 hb
 have hX := hs.len
 have hl : l.length ≤ 7 := by have := hO.len; omega
 have hin := hO.in_
 have hQ : Qdf s l = (Qbc s l, 0) := by unfold Qdf; rw [if_neg (by simpa using hb), if_pos hO]
 simp only [rc53, rs53, g1, hb, g2, h, hO, Qaj, Qa7, Qa8, Qai, Qab, Qa6, Qny, Qad, Qa4, Qa1, Fam.step, Qaf, evO, opv, qv, binV, ldV, Qar, V.cells, Qaq, Qaa, Qa5, flat, Qa2, Qa0, Qa3, ↓reduceIte, Nat.reduceEqDiff, Nat.reduceAdd, Nat.reduceLT, Nat.reduceLeDiff, Qb, Qc, Qd, Qe, Ql, Qu, Qv, Qj, vw_i, Qax, Qaw, zipA, Qi, Qm, Q1, Qa, decide_true, true_and, and_self, implies_true, reduceCtorEq, eBox]
 refine Qc4 l.length (fun i => ⟨lkp [(1, .sl 1 (l.map eI)), (2, .pa (eBox s)), (7, .i (Qbc s (l.take i))), (8, .rf 0 i 0 i 1), (9, .i i)], [.cells i ((stD s (l.take i)).1.map V.i)]⟩) ?_ ?_ ?_
 ·simp only [Zg, Qbc, stD, List.foldl_nil, kp, Qa0, Qa3, ↓reduceIte, Nat.reduceEqDiff, Qb, Qc, Za, eBox]
 ·intro i hi
  obtain ⟨b, hb⟩ : ∃ b, l[i]? = some b := ⟨_, Qn hi⟩
  have hbi := hin b (Zd hb)
  have hbg := Qk3 hbi
  have hlt : (i : Int) < l.length := by omega
  have h1 : inI ((i : Int) + 1) := by unfold inI; omega
  obtain ⟨k1, k2, k3, k4⟩ := Qjz hs (l.take i)
  have hbo := hs.boil _ (Zd hbg)
  rw [Xe, Xr (by omega)] at k1 k2 k4
  have hr := hs.room
  have hlen : ((stD s (l.take i)).1.map V.i).length = i := by simpa using k1
  obtain ⟨A, hA⟩ : ∃ A, A = (stD s (l.take i)).1 := ⟨_, rfl⟩
  obtain ⟨B, hB⟩ : ∃ B, B = Qbc s (l.take i) := ⟨_, rfl⟩
  have hB2 : (stD s (l.take i)).2 = B := hB.symm
  rw [← hA] at k1 k2 hlen ⊢
  rw [hB2] at k3 k4
  rw [← hB]
  obtain ⟨o, ho⟩ : ∃ o, o = max B (qD s A + (Qbd s b).soak) := ⟨_, rfl⟩
  have hst : stD s (l.take (i + 1)) = (A ++ [o], o + (Qbd s b).bend) := by
   rw [Qb7 hb, Qfr]
   unfold Qoy
   rw [← hA, hB2, ho, Int.max_comm]
  have hdn : Qbc s (l.take (i + 1)) = o + (Qbd s b).bend := by unfold Qbc; rw [hst]
  have happ : A.map V.i ++ [V.i o] = (A ++ [o]).map V.i := by simp
  have hll : ((A ++ [o]).map V.i).length = i + 1 := by simp; omega
  have hfl : Qbj (i + 1) := by unfold Qbj; omega
  have hq : 0 ≤ qD s A ∧ qD s A ≤ 2000 * i := by
   unfold qD
   rw [k1]
   split
   ·exact k2 _ (Qdm (by omega))
   ·omega
  have h2 : inI (qD s A + (Qbd s b).soak) ∧ inI (o + (Qbd s b).bend) := by unfold inI; omega
  have i3 : (i : Int) < ((i + 1 : Nat) : Int) := by omega
  have hnx := Qek (A ++ [o])
  by_cases hrm : s.room ≤ (i : Int)
  ·obtain ⟨k, hk⟩ : ∃ k : Nat, k = ((i : Int) - s.room).toNat := ⟨_, rfl⟩
   have e1 : (i : Int) - s.room = (k : Int) := by omega
   have hkl : k < A.length := by omega
   have hqe : qD s A = A.getD k 0 := by unfold qD; rw [k1, if_pos hrm, hk]
   have hd1 := hdD A k hkl
   rw [← hqe] at hd1
   have i4 : inI (k : Int) ∧ (k : Int) < i ∧ k + 1 ≤ i := by unfold inI; omega
   simp only [hb, hlt, h1, hbg, hrm, hlen, Z4, e1, hd1, i4, h2, ← ho, Zo, Zn, happ, hfl, hst, hdn, hbi, Q8, Q9, Zt, Qaj, Qa7, Qb5, Qa8, Qai, Qab, Qa6, Qdt, Qb2, putB, Qad, Qal, Qa4, Qa1, Fam.step, Qaf, Qbu, Qav, runX, eff, Qb1, fpR, fpQ, fpV, Qbi, hits, putB, nv, sv, Qcl, evO, opv, qv, binV, ldV, iadV, lenV, Qap, putAt, Qba, Qbg, V.cells, Qaq, Qb8, Qaa, Qa5, kp, Qa2, Qa0, Qa3, ↓reduceIte, Nat.reduceEqDiff, Nat.reduceAdd, Nat.reduceLeDiff, Qb, Qc, Qs, Qr, Qd, Qe, Qg, Qo, Zl, Ql, Za, Qu, Qk, Qz, Qv, Qj, Qq, Qw, Qt, Ze, Zb, Qx, Zh, Zf, vw_i, Q2, Qi, Qp, Qy, Q4, Qm, Q1, Q5, Qa, decide_true, and_self, reduceCtorEq, not_false_eq_true, ne_eq, Q7, Zk, Zc, Qh, Q3, Qf, Q0, eBoil, eBox, eI]
  ·have hqe : qD s A = 0 := by unfold qD; rw [k1, if_neg hrm]
   rw [hqe] at ho h2
   simp only [hb, hlt, h1, hbg, hrm, hlen, Z4, h2, ← ho, Zo, Zn, happ, hfl, hst, hdn, hbi, Q8, Q9, Zt, Qaj, Qa7, Qb5, Qa8, Qai, Qab, Qa6, Qdt, Qb2, putB, Qad, Qal, Qa4, Qa1, Fam.step, Qaf, Qbu, Qav, runX, eff, Qb1, fpR, fpQ, fpV, Qbi, hits, putB, nv, sv, Qcl, evO, opv, qv, binV, ldV, iadV, lenV, Qap, putAt, Qba, Qbg, V.cells, Qaq, Qb8, Qaa, Qa5, kp, Qa2, Qa0, Qa3, ↓reduceIte, Nat.reduceEqDiff, Nat.reduceAdd, Nat.reduceLeDiff, Qb, Qc, Qs, Qr, Qd, Qe, Qg, Qo, Zl, Ql, Za, Qu, Qk, Qz, Qv, Qj, Qq, Qw, Qt, Ze, Zb, Qx, Zh, Zf, vw_i, Q2, Qi, Qp, Qy, Q4, Qm, Q1, Q5, Qa, decide_true, decide_false, and_self, reduceCtorEq, not_false_eq_true, ne_eq, Q7, Zk, Zc, Qh, Q3, Qf, Q0, eBoil, eBox, eI]
 ·simp only [Z8, Z6, hQ, Qa7, Qa8, Qai, Qat, Qac, Qa6, Qad, Qal, Qa4, Qa1, Fam.step, Qaf, evO, opv, qv, binV, ldV, lenV, Qa2, Qa0, Qa3, ↓reduceIte, Nat.reduceEqDiff, Qb, Qc, endQ, rvs, rv1, resV, vw_i, Qci, Z8, Qa, decide_false, and_self, Qh, eBox]
end Go.C06
set_option linter.unusedSimpArgs false
set_option linter.unusedVariables false
namespace Go.C06
open Go.Fam Go.Proofs
variable {Γ : Gam}
theorem Qsh {P : Program} {f : Nat} {vs : List V} {r : V} (h : Qah P f vs r) : Qdd P f vs r [] := fun S w cargs hS hsz hr =>
 (h S w cargs hS hsz hr).mono fun e w' ⟨c, he, hev, hrep⟩ => ⟨c, Sfr S w w', noO, he, hev,
  ⟨fun n hn => hn.elim (fun hn => Nat.lt_of_lt_of_le (hS n hn) hev.size) (fun hn => hn.2), fun _ _ _ h => (nomatch h), fun _ _ _ _ _ h _ => (nomatch h), fun _ _ _ h => (nomatch h)⟩, hrep⟩
theorem Qxl {P : Program} {A : Type} {e : A → List V} {d : List V → A} {ok : A → Prop} {v : A → V} {hp : A → List Blk} {f : Nat} (hvB : ∀ a, ((hp a).map bV).map vB = hp a) (h : ∀ a, ok a → Qdd P f (e a) (v a) (hp a))
  (vs : List V) (r : V) (bs : List V) (h1 : (fnG e d ok (fun a => a) (fun a => .tp [v a, .tp ((hp a).map bV)]) vs).1) (h2 : (fnG e d ok (fun a => a) (fun a => .tp [v a, .tp ((hp a).map bV)]) vs).2 = .tp [r, .tp bs]) : Qdd P f vs r (bs.map vB) := by
 simp only [fnG, V.tp.injEq, List.cons.injEq, and_true] at h1 h2
 obtain ⟨rfl, rfl⟩ := h2
 have := h (d vs) h1.2
 rw [h1.1] at this
 rwa [hvB]
def Qcc (s : Box) : Nat → List Int → Int
 | 0, F => (Qdf s F).1
 | k + 1, F => (Z9 s.boils.length).foldl (fun (best : Int) (b : Nat) => if (b : Int) ∈ F then best else if best < 0 ∨ Qcc s k (F ++ [(b : Int)]) < best then Qcc s k (F ++ [(b : Int)]) else best) (-1)
def Qgi (s : Box) (k : Nat) (F : List Int) (i : Nat) : Int := (Z9 i).foldl (fun (best : Int) (b : Nat) => if (b : Int) ∈ F then best else if best < 0 ∨ Qcc s k (F ++ [(b : Int)]) < best then Qcc s k (F ++ [(b : Int)]) else best) (-1)
theorem Ql3 (s : Box) (k : Nat) (F : List Int) (i : Nat) : Qgi s k F (i + 1) = if (i : Int) ∈ F then Qgi s k F i else if Qgi s k F i < 0 ∨ Qcc s k (F ++ [(i : Int)]) < Qgi s k F i then Qcc s k (F ++ [(i : Int)]) else Qgi s k F i := by
 unfold Qgi
 rw [List.range_succ, List.foldl_append]; rfl
theorem Qn3 (s : Box) (k : Nat) (F : List Int) : Qcc s (k + 1) F = Qgi s k F s.boils.length := rfl
structure OkQ (s : Box) (F : List Int) : Prop where
 box : boxE s = 0
 in_ : ∀ x ∈ F, 0 ≤ x ∧ x < s.boils.length
 nodup : F.Nodup
 len : F.length ≤ s.boils.length
def Qdg (s : Box) (F : List Int) : Nat := s.boils.length - F.length
noncomputable def KB3 : Gam := KB2.ext 53 (fnG eXL dXL (fun a => a.2.length ≤ 1000000) (fun a => Qdf a.1 a.2) fun r => .tp [.i r.1, .i r.2])
theorem Quo : GOk Try.prog KB3 := Qxj.ext (f := 53) (fun a w => Try.call53 a w) (Qb0 (e := eXL) (d := dXL) (ok := fun a => a.2.length ≤ 1000000) (g := fun a => Qdf a.1 a.2) (eb := fun r => .tp [.i r.1, .i r.2]) fun a h => W53 a.1 a.2 h)
theorem h53 (s : Box) (l : List Int) : KB3 53 [.ag (eBox s), .sl 1 (l.map eI)] = (l.length ≤ 1000000, .tp [.i (Qdf s l).1, .i (Qdf s l).2]) :=
 (show KB3 53 _ = fnG eXL dXL (fun a => a.2.length ≤ 1000000) (fun a => Qdf a.1 a.2) (fun r => .tp [.i r.1, .i r.2]) (eXL (s, l)) from rfl).trans (Qb6 _ (Qo9 _))
noncomputable def G80 (k : Nat) : Gam := KB3.ext 1000080 (fnG eXL dXL (fun a => OkQ a.1 a.2 ∧ Qdg a.1 a.2 = k) (fun a => a) (fun a => .tp [.i (Qcc a.1 (Qdg a.1 a.2) a.2), .tp []]))
theorem q80 (k : Nat) (s : Box) (F : List Int) : G80 k 1000080 [.ag (eBox s), .sl 1 (F.map eI)] = (OkQ s F ∧ Qdg s F = k, .tp [.i (Qcc s (Qdg s F) F), .tp []]) :=
 (show G80 k 1000080 _ = fnG eXL dXL (fun a => OkQ a.1 a.2 ∧ Qdg a.1 a.2 = k) (fun a => a) (fun a => .tp [.i (Qcc a.1 (Qdg a.1 a.2) a.2), .tp []]) (eXL (s, F)) from rfl).trans (Qb6 _ (Qo9 _))
theorem Qrr (k : Nat) (l : List Int) (n : Int)  : (G80 k) 73 [.sl 1 (l.map eI), .i n] = (l.length ≤ 1000000, .b (decide (n ∈ l))) := h73 l n
theorem W80 : ∀ (k : Nat) (s : Box) (F : List Int), OkQ s F → Qdg s F = k → Qah Try.prog 80 [.ag (eBox s), .sl 1 (F.map eI)] (.i (Qcc s (Qdg s F) F)) := by
 intro k
 induction k with
 | zero =>
  intro s F h hk
  have hX := Qgj.1 h.box
  have hl7 := hX.len
  have hl : (F.length : Int) = s.boils.length := by have := h.len; unfold Qdg at hk; omega
  refine Qag Quo hmix Try.func80 cb80 cc80 cs80 cn80 ?_
  have g1 := h53 s F
  simp only [eBox] at g1
  rw [hk]
  have hF6 : F.length ≤ 1000000 := by omega
  have e : Qcc s 0 F = (Qdf s F).1 := rfl
  simp only [rc80, rs80, hl, g1, hF6, e, Qa7, Qa8, Qai, Qac, Qa6, Qad, Qa4, Qa1, Fam.step, Qaf, evO, opv, qv, binV, ldV, lenV, Qar, V.cells, Qaq, Qaa, Qa5, flat, Qd3, Qa2, Qa0, Qa3, ↓reduceIte, Nat.reduceEqDiff, Nat.reduceAdd, Nat.reduceLT, Nat.reduceLeDiff, Int.reduceNeg, Qb, Qc, Qd, Qe, Qg, Qo, Ql, Qu, Qk, Qj, Qq, Q6, Qt, endQ, rvs, rv1, resV, vw_i, Qax, Qaw, zipA, Qi, Qp, Qm, Qa, decide_true, and_self, implies_true, reduceCtorEq, Qh, eBox]
 | succ k ih =>
  intro s F h hk
  have hok : GOk Try.prog (G80 k) := Quo.extO (f := 80) (fun a w => Try.call80 a w) (Qxl (hp := fun _ => []) (fun _ => rfl) fun a h => Qsh (ih a.1 a.2 h.1 h.2))
  refine Qag hok hmix Try.func80 cb80 cc80 cs80 cn80 ?_
  have hX := Qgj.1 h.box
  have hl7 := hX.len
  have hlt0 : (F.length : Int) < s.boils.length := by have := h.len; unfold Qdg at hk; omega
  have hl : ¬ (F.length : Int) = s.boils.length := by omega
  rw [hk]
  simp only [rc80, rs80, hl, Qaj, Qa7, Qa8, Qai, Qab, Qa6, Qad, Qa4, Qa1, Fam.step, Qaf, evO, opv, qv, binV, ldV, lenV, V.cells, Qaq, Qaa, Qa5, Qa2, Qa0, Qa3, ↓reduceIte, Nat.reduceEqDiff, Nat.reduceLeDiff, Int.reduceNeg, Qb, Qc, Qd, Qe, Qg, Qo, Qk, vw_i, Qax, Qaw, zipA, Qi, Qm, Qa, decide_false, true_and, and_self, reduceCtorEq, Qh, eBox]
  refine Qc4 s.boils.length (fun i => ⟨lkp [(1, .sl 1 (F.map eI)), (2, .pa (eBox s)), (7, .i (Qgi s k F i)), (8, .i i)], []⟩) ?_ ?_ ?_
  ·have e0 : Qgi s k F 0 = -1 := rfl
   simp only [Zg, e0, cutH, kp, cutV, Qa0, Qa3, ↓reduceIte, Nat.reduceEqDiff, Int.reduceNeg, Qb, Qc, Qu, eBox]
  ·intro i hi
   have hlt : (i : Int) < s.boils.length := by omega
   have h3 : inI ((i : Int) + 1) := by unfold inI; omega
   have g1 := Qrr k F i
   have hF6 : F.length ≤ 1000000 := by omega
   have hst := Ql3 s k F i
   by_cases hF : (i : Int) ∈ F
   ·rw [if_pos hF] at hst
    simp only [hlt, h3, g1, hF, hF6, hst, Q8, Q9, Qaj, Qa7, Qa8, Qai, Qab, Qat, Qa6, Qe5, ↓Qc1, cutH, Qad, Qal, Qa4, Qa1, Fam.step, Qaf, evO, opv, qv, binV, ldV, lenV, Qar, Qaa, Qa5, flat, kp, cutV, Qa2, Qa0, Qa3, ↓reduceIte, Nat.reduceEqDiff, Nat.reduceLT, Nat.reduceLeDiff, Qb, Qc, Qd, Qe, Qg, Qo, Za, Qu, Qk, Qj, vw_i, Qax, Qi, Qm, Qa, decide_true, and_self, implies_true, Qh, eBox]
   ·rw [if_neg hF] at hst
    have g2 := q80 k s (F ++ [(i : Int)])
    have hr : Qdg s (F ++ [(i : Int)]) = k := by unfold Qdg at hk ⊢; rw [Zj, Zr]; omega
    have h80 : OkQ s (F ++ [(i : Int)]) := by
     refine ⟨h.box, fun x hx => ?_, Qhe h.nodup hF, by rw [Zj, Zr]; omega⟩
     rcases Xs.1 hx with hx | hx
     ·exact h.in_ x hx
     ·rw [Xa] at hx; omega
    rw [hr] at g2
    obtain ⟨Q, hQ⟩ : ∃ Q, Q = Qcc s k (F ++ [(i : Int)]) := ⟨_, rfl⟩
    rw [← hQ] at g2 hst
    simp only [eBox, Xi, Qb, Qc, eI] at g2
    have f0 : Qbj F.length := by unfold Qbj; omega
    have f2 : Qbj (F.length + 1) := by unfold Qbj; omega
    have hck : Qcm 1 ((F.map eI).flatten ++ [.i (i : Int)]) 0 (F.length + 1) = (F ++ [(i : Int)]).map eI := by
     have := Qid (F ++ [(i : Int)])
     simpa [eI] using this
    obtain ⟨B, hB⟩ : ∃ B, B = Qgi s k F i := ⟨_, rfl⟩
    rw [← hB] at hst ⊢
    by_cases b0 : B < 0
    ·rw [if_pos (.inl b0)] at hst
     simp only [hlt, h3, g1, hF, hF6, g2, h80, hst, f0, f2, Qkf, hck, Q8, Q9, Z4, Zj, Xi, Zn, Zo, Zt, vw_I, b0, Qaj, Qa7, Qb5, Qa8, Qai, Qab, Qa6, Qe5, Qdt, ↓Qc1, effO, Qb2, optL, rids, Qda, Qd5, cutH, Qad, Qal, Qa4, Qa1, Fam.step, Qaf, Qb9, Qav, Qaz, ug, runX, eff, Qb1, fpR, fpQ, fpV, Qbi, hits, nv, sv, Qcl, evO, opv, qv, Qak, binV, ldV, lenV, Qar, Qap, putAt, Qba, Qbg, V.cells, Qaq, Qb8, Qaa, Qa5, flat, kp, cutV, Qa2, Qa0, Qa3, ↓reduceIte, Nat.reduceEqDiff, Nat.reduceAdd, Nat.reduceLT, Qb, Qc, Qs, Qr, Qd, Qe, Qg, Qo, Zl, Ql, Za, Qu, Qk, Qz, Qv, Qj, Qq, Q6, Qw, Qt, Ze, Zb, Qx, Zh, Zf, Z0, vw_i, Qax, Qaw, Qfv, Qi, Xc, Qp, Qy, Zp, Q4, Zq, Qm, Zy, Xq, Q1, Q5, Qa, Zi, decide_true, decide_false, and_true, and_self, forall_const, implies_true, reduceCtorEq, not_false_eq_true, ne_eq, Xf, Zk, Zx, Zc, beq_false, X7, imp_self, Qh, Qf, eBox, eI]
    ·by_cases b1 : Q < B
     ·rw [if_pos (.inr b1)] at hst
      simp only [hlt, h3, g1, hF, hF6, g2, h80, hst, f0, f2, Qkf, hck, Q8, Q9, Z4, Zj, Xi, Zn, Zo, Zt, vw_I, b0, b1, Qaj, Qa7, Qb5, Qa8, Qai, Qab, Qa6, Qe5, Qdt, ↓Qc1, effO, Qb2, optL, rids, Qda, Qd5, cutH, Qad, Qal, Qa4, Qa1, Fam.step, Qaf, Qb9, Qav, Qaz, ug, runX, eff, Qb1, fpR, fpQ, fpV, Qbi, hits, nv, sv, Qcl, evO, opv, qv, Qak, binV, ldV, lenV, Qar, Qap, putAt, Qba, Qbg, V.cells, Qaq, Qb8, Qaa, Qa5, flat, kp, cutV, Qa2, Qa0, Qa3, ↓reduceIte, Nat.reduceEqDiff, Nat.reduceAdd, Nat.reduceLT, Qb, Qc, Qs, Qr, Qd, Qe, Qg, Qo, Zl, Ql, Za, Qu, Qk, Qz, Qv, Qj, Qq, Q6, Qw, Qt, Ze, Zb, Qx, Zh, Zf, Z0, vw_i, Qax, Qaw, Qfv, beq_self_eq_true, Qi, Xc, Qp, Qy, Zp, Q4, Zq, Qm, Zy, Xq, Q1, Q5, Qa, decide_true, decide_false, and_self, forall_const, implies_true, reduceCtorEq, not_false_eq_true, ne_eq, Xf, Zk, Zx, Zc, X7, Qh, Qf, eBox, eI]
     ·rw [if_neg (by rintro (h | h) <;> omega)] at hst
      simp only [hlt, h3, g1, hF, hF6, g2, h80, hst, f0, f2, Qkf, hck, Q8, Q9, Z4, Zj, Xi, Zn, Zo, Zt, vw_I, b0, b1, Qaj, Qa7, Qb5, Qa8, Qai, Qab, Qa6, Qe5, Qdt, ↓Qc1, effO, Qb2, optL, rids, Qda, Qd5, cutH, Qad, Qal, Qa4, Qa1, Fam.step, Qaf, Qb9, Qav, Qaz, ug, runX, eff, Qb1, fpR, fpQ, fpV, Qbi, hits, nv, sv, Qcl, evO, opv, qv, Qak, binV, ldV, lenV, Qar, Qap, putAt, Qba, Qbg, V.cells, Qaq, Qb8, Qaa, Qa5, flat, kp, cutV, Qa2, Qa0, Qa3, ↓reduceIte, Nat.reduceEqDiff, Nat.reduceAdd, Nat.reduceLT, Qb, Qc, Qs, Qr, Qd, Qe, Qg, Qo, Zl, Ql, Za, Qu, Qk, Qz, Qv, Qj, Qq, Q6, Qw, Qt, Ze, Zb, Qx, Zh, Zf, Z0, vw_i, Qax, Qaw, Qfv, beq_self_eq_true, Qi, Xc, Qp, Qy, Zp, Q4, Zq, Qm, Zy, Xq, Q1, Q5, Qa, decide_true, decide_false, and_self, forall_const, implies_true, reduceCtorEq, not_false_eq_true, ne_eq, Xf, Zk, Zx, Zc, X7, Qh, Qf, eBox, eI]
  ·have hgt : ¬ ((s.boils.length : Int) < s.boils.length) := by omega
   simp only [hgt, Qn3, Qa7, Qa8, Qai, Qat, Qac, Qa6, Qad, Qal, Qa4, Qa1, Fam.step, Qaf, evO, opv, qv, binV, ldV, lenV, Qa2, Qa0, Qa3, ↓reduceIte, Nat.reduceEqDiff, Nat.reduceLeDiff, Qb, Qc, Qd, Qe, Qg, Qo, Qk, endQ, rvs, rv1, resV, vw_i, Qi, Qa, decide_false, and_self, Qh, eBox]
end Go.C06
set_option linter.unusedSimpArgs false
set_option linter.unusedVariables false
namespace Go.C06
open Go.Fam Go.Proofs
theorem Qi4 {n : Nat} {x : Int} : x ∈ Qbr n ↔ 0 ≤ x ∧ x < n := by
 unfold Qbr
 rw [List.mem_map]
 constructor
 ·rintro ⟨i, hi, rfl⟩
  rw [Xl] at hi
  omega
 ·intro h
  exact ⟨x.toNat, Xl.2 (by omega), by omega⟩
theorem Qlv (n : Nat) : (Qbr n).Pairwise (· < ·) := by
 unfold Qbr
 rw [List.pairwise_map]
 exact List.pairwise_lt_range.imp fun h => by omega
theorem Qfm (n : Nat) : (Qbr n).Nodup := Xm.2 ((Qlv n).imp fun h e => by omega)
theorem IsOrd.sur {n : Nat} {l : List Int} (h : IsOrd n l) {x : Int} (hx : 0 ≤ x ∧ x < n) : x ∈ l := by
 refine Classical.byContradiction fun hno => ?_
 have h1 : (x :: l).Nodup := List.nodup_cons.2 ⟨hno, h.nodup⟩
 have h2 := h1.length_le_of_subset (l₂ := Qbr n) fun y hy => by
  rw [Qi4]
  rcases Xy.1 hy with rfl | hy
  ·exact hx
  ·exact h.in_ y hy
 have := (Qhg n).1
 have := h.len
 simp only [Qd] at h2
 omega
theorem IsOrd.perm {n : Nat} {l : List Int} (h : IsOrd n l) : l.Perm (Qbr n) := by
 rw [List.perm_ext_iff_of_nodup h.nodup (Qfm n)]
 intro x
 rw [Qi4]
 exact ⟨h.in_ x, h.sur⟩
theorem Qqq {n : Nat} {l : List Int} (h : l.Perm (Qbr n)) : IsOrd n l :=
 ⟨h.length_eq.trans (Qhg n).1, fun x hx => Qi4.1 (h.mem_iff.1 hx), h.symm.nodup (Qfm n)⟩
theorem Qnl {n : Nat} {l : List Int} : Qen l = Qbr n ↔ IsOrd n l := by
 have hp : (Qen l).Perm l := Xw l _
 constructor
 ·intro h
  rw [h] at hp
  exact Qqq hp.symm
 ·intro h
  have h1 : (Qen l).Pairwise fun a b => decide (a ≤ b) = true := List.pairwise_mergeSort (fun a b c h1 h2 => by simp only [decide_eq_true_eq] at h1 h2 ⊢; omega) (fun a b => by simp only [Bool.or_eq_true, decide_eq_true_eq]; omega) l
  refine List.Perm.eq_of_pairwise (le := fun a b => a ≤ b) (fun a b _ _ h1 h2 => by omega) (h1.imp fun h => by simpa using h) ((Qlv n).imp fun h => by omega) (hp.trans h.perm)
theorem Qig (s : Box) (l : List Int) : Qex s l = Qdf s l := by
 unfold Qex Qdf
 split
 ·rfl
 ·by_cases h : IsOrd s.boils.length l
  ·rw [if_pos (Qnl.2 h), if_pos h]
  ·rw [if_neg (fun e => h (Qnl.1 e)), if_neg h]
theorem Qi1 {L : List Int} {i : Nat} (h : i < L.length) : L.getD i 0 = L[i] := by rw [Qf, Qn h]; rfl
theorem Qho {L : List Int} {i j : Nat} (hi : i < L.length) (hj : j < L.length) : (Qeo L i j).Perm L := by
 unfold Qeo
 rw [Qi1 hi, Qi1 hj]
 exact List.set_set_perm hi hj
theorem Qju : ∀ (k : Nat) (L : List Int) (f : Nat), f + k = L.length → ∀ p ∈ Qf6 k L f, p.Perm L
 | 0, L, f, _, p, hp => by
  have : p = L := by simpa [Qf6] using hp
  rw [this]
 | k + 1, L, f, hf, p, hp => by
  simp only [Qf6, X8, Xl] at hp
  obtain ⟨i, hi, hp⟩ := hp
  exact (Qju k (Qeo L f (f + i)) (f + 1) (by rw [Qcq]; omega) p hp).trans (Qho (by omega) (by omega))
theorem Qrh {L : List Int} {f j : Nat} (hf : f < L.length) (hj : j < L.length) (hfj : f ≤ j) : (Qeo L f j).take f = L.take f := by
 unfold Qeo
 rw [Xx (by omega), Xx (by omega)]
theorem Qlx : ∀ (k : Nat) (L : List Int) (f : Nat), f + k = L.length → L.Nodup → ∀ p : List Int, p.Perm L → p.take f = L.take f → p ∈ Qf6 k L f
 | 0, L, f, hf, hn, p, hp, ht => by
  have h1 := hp.length_eq
  rw [Zw (by omega), Zw (by omega)] at ht
  simp [Qf6, ht]
 | k + 1, L, f, hf, hn, p, hp, ht => by
  have h1 := hp.length_eq
  have hfp : f < p.length := by omega
  have hfL : f < L.length := by omega
  have hx : p[f] ∈ L := hp.mem_iff.1 (Xo hfp)
  obtain ⟨j, hj, e⟩ := Xt.1 hx
  have hfj : f ≤ j := by
   refine Classical.byContradiction fun hlt => ?_
   have h2 : p[j]'(by omega) = L[j] := by
    have h3 : (p.take f)[j]? = (L.take f)[j]? := by rw [ht]
    rw [X0, X0, if_pos (by omega), if_pos (by omega), Qn (by omega), Qn hj] at h3
    exact Option.some.inj h3
   have hpn := Xm.1 (hp.symm.nodup hn)
   rw [Zs] at hpn
   exact hpn j f (by omega) hfp (by omega) (h2.trans e)
  simp only [Qf6, X8, Xl]
  refine ⟨j - f, by omega, ?_⟩
  rw [show f + (j - f) = j by omega]
  refine Qlx k _ (f + 1) (by rw [Qcq]; omega) ((Qho hfL hj).symm.nodup hn) p (hp.trans (Qho hfL hj).symm) ?_
  have hs : (Qeo L f j)[f]? = some p[f] := by
   have := Qfa L (k := f) hfL hj
   rw [Qf, Qn (by rw [Qcq]; exact hfL), Qt] at this
   rw [Qn (by rw [Qcq]; exact hfL), this, ← e]
   by_cases h : f = j
   ·subst h; rw [if_pos rfl, Qi1 hfL]
   ·rw [if_neg h, if_pos rfl, Qi1 hj]
  rw [Qb7 (Qn hfp), Qb7 hs, ht, Qrh hfL hj hfj]
theorem Qn0 {n : Nat} {p : List Int} : p ∈ allO n ↔ IsOrd n p := by
 have hl := (Qhg n).1
 constructor
 ·intro h
  exact Qqq (Qju n (Qbr n) 0 (by omega) p h)
 ·intro h
  exact Qlx n (Qbr n) 0 (by omega) (Qfm n) p h.perm (by simp)
theorem Qib (s : Box) : ∀ (ps : List (List Int)) (b : List Int), ((ps.foldl (fun best p => if Qbc s p < Qbc s best then p else best) b) = b ∨ (ps.foldl (fun best p => if Qbc s p < Qbc s best then p else best) b) ∈ ps) ∧
  Qbc s (ps.foldl (fun best p => if Qbc s p < Qbc s best then p else best) b) ≤ Qbc s b ∧ ∀ p ∈ ps, Qbc s (ps.foldl (fun best p => if Qbc s p < Qbc s best then p else best) b) ≤ Qbc s p
 | [], b => by simp
 | q :: ps, b => by
  obtain ⟨h1, h2, h3⟩ := Qib s ps (if Qbc s q < Qbc s b then q else b)
  rw [List.foldl_cons]
  by_cases hq : Qbc s q < Qbc s b
  ·simp only [if_pos hq] at h1 h2 h3 ⊢
   refine ⟨?_, by omega, fun p hp => ?_⟩
   ·rcases h1 with h | h
    ·exact .inr (by rw [h]; simp)
    ·exact .inr (Xu _ h)
   ·rcases Xy.1 hp with rfl | hp
    ·exact h2
    ·exact h3 p hp
  ·simp only [if_neg hq] at h1 h2 h3 ⊢
   refine ⟨?_, h2, fun p hp => ?_⟩
   ·rcases h1 with h | h
    ·exact .inl h
    ·exact .inr (Xu _ h)
   ·rcases Xy.1 hp with rfl | hp
    ·omega
    ·exact h3 p hp
theorem Qgh (s : Box) : IsOrd s.boils.length (Qd2 s) := by
 rcases (Qib s (allO s.boils.length) (Qbr s.boils.length)).1 with h | h
 ·unfold Qd2; rw [h]; exact Qqq (List.Perm.refl _)
 ·exact Qn0.1 h
theorem Qk2 {s : Box} {p : List Int} (hp : IsOrd s.boils.length p) : Qbc s (Qd2 s) ≤ Qbc s p := (Qib s (allO s.boils.length) (Qbr s.boils.length)).2.2 p (Qn0.2 hp)
theorem Qel {s : Box} (hX : OkX s) : ∀ (k : Nat) (F : List Int), OkQ s F → Qdg s F = k →
  (∃ p, IsOrd s.boils.length p ∧ p.take F.length = F ∧ Qcc s k F = Qbc s p) ∧ ∀ p, IsOrd s.boils.length p → p.take F.length = F → Qcc s k F ≤ Qbc s p
 | 0, F, h, hk => by
  have hl : F.length = s.boils.length := by have := h.len; unfold Qdg at hk; omega
  have hO : IsOrd s.boils.length F := ⟨hl, h.in_, h.nodup⟩
  have e : Qcc s 0 F = Qbc s F := by
   show (Qdf s F).1 = _
   unfold Qdf
   rw [if_neg (by simpa using h.box), if_pos hO]
  refine ⟨⟨F, hO, Z6, e⟩, fun p hp ht => ?_⟩
  rw [Zw (by rw [hp.len, hl]; exact Zt _)] at ht
  rw [e, ht]; exact Xb _
 | k + 1, F, h, hk => by
  have hlt : F.length < s.boils.length := by unfold Qdg at hk; omega
  have hext : ∀ b : Nat, b < s.boils.length → (b : Int) ∉ F → OkQ s (F ++ [(b : Int)]) ∧ Qdg s (F ++ [(b : Int)]) = k := fun b hb hF => by
   refine ⟨⟨h.box, fun x hx => ?_, Qhe h.nodup hF, by rw [Zj, Zr]; omega⟩, by unfold Qdg at hk ⊢; rw [Zj, Zr]; omega⟩
   rcases Xs.1 hx with hx | hx
   ·exact h.in_ x hx
   ·rw [Xa] at hx; omega
  have hnn : ∀ b : Nat, b < s.boils.length → (b : Int) ∉ F → 0 ≤ Qcc s k (F ++ [(b : Int)]) := fun b hb hF => by
   obtain ⟨⟨p, _, _, e⟩, _⟩ := Qel hX k _ (hext b hb hF).1 (hext b hb hF).2
   rw [e]; exact (Qjz hX p).2.2.1
  have inv : ∀ i, i ≤ s.boils.length → (Qgi s k F i = -1 ∧ ∀ b : Nat, b < i → (b : Int) ∈ F) ∨
    ((∃ b : Nat, b < i ∧ (b : Int) ∉ F ∧ Qgi s k F i = Qcc s k (F ++ [(b : Int)])) ∧ ∀ b : Nat, b < i → (b : Int) ∉ F → Qgi s k F i ≤ Qcc s k (F ++ [(b : Int)])) := by
   intro i
   induction i with
   | zero => intro _; exact .inl ⟨rfl, fun b hb => by omega⟩
   | succ i ih =>
    intro hi
    rw [Ql3]
    by_cases hF : (i : Int) ∈ F
    ·rw [if_pos hF]
     rcases ih (by omega) with ⟨h1, h2⟩ | ⟨⟨b, hb, hbF, e⟩, h2⟩
     ·refine .inl ⟨h1, fun b hb => ?_⟩
      by_cases hbi : b = i
      ·rw [hbi]; exact hF
      ·exact h2 b (by omega)
     ·refine .inr ⟨⟨b, by omega, hbF, e⟩, fun c hc hcF => ?_⟩
      by_cases hci : c = i
      ·rw [hci] at hcF; exact absurd hF hcF
      ·exact h2 c (by omega) hcF
    ·rw [if_neg hF]
     right
     rcases ih (by omega) with ⟨h1, h2⟩ | ⟨⟨b, hb, hbF, e⟩, h2⟩
     ·rw [if_pos (.inl (by omega))]
      refine ⟨⟨i, by omega, hF, rfl⟩, fun c hc hcF => ?_⟩
      by_cases hci : c = i
      ·rw [hci]; exact Xb _
      ·exact absurd (h2 c (by omega)) hcF
     ·have h0 := hnn b (by omega) hbF
      by_cases hq : Qcc s k (F ++ [(i : Int)]) < Qgi s k F i
      ·rw [if_pos (.inr hq)]
       refine ⟨⟨i, by omega, hF, rfl⟩, fun c hc hcF => ?_⟩
       by_cases hci : c = i
       ·rw [hci]; exact Xb _
       ·have := h2 c (by omega) hcF; omega
      ·rw [if_neg (by rintro (h | h) <;> omega)]
       refine ⟨⟨b, by omega, hbF, e⟩, fun c hc hcF => ?_⟩
       by_cases hci : c = i
       ·rw [hci]; omega
       ·exact h2 c (by omega) hcF
  rw [Qn3]
  rcases inv s.boils.length (Zt _) with ⟨_, h2⟩ | ⟨⟨b, hb, hbF, e⟩, h2⟩
  ·exfalso
   have := (Qfm s.boils.length).length_le_of_subset (l₂ := F) fun x hx => by
    have := Qi4.1 hx
    have h3 := h2 x.toNat (by omega)
    rwa [show ((x.toNat : Nat) : Int) = x by omega] at h3
   have := (Qhg s.boils.length).1
   omega
  ·have happ : ∀ (p : List Int) (c : Int), p.take (F ++ [c]).length = F ++ [c] → p.take F.length = F := fun p c hc => by
    have := congrArg (List.take F.length) hc
    rw [List.take_take, List.take_left] at this
    rwa [Zj, Xr (by omega)] at this
   refine ⟨?_, fun p hp ht => ?_⟩
   ·obtain ⟨⟨p, hp, ht, e2⟩, _⟩ := Qel hX k _ (hext b hb hbF).1 (hext b hb hbF).2
    exact ⟨p, hp, happ p _ ht, e.trans e2⟩
   ·have hpl : F.length < p.length := by rw [hp.len]; exact hlt
    obtain ⟨c, hc⟩ : ∃ c, p[F.length]? = some c := ⟨_, Qn hpl⟩
    have htk : p.take (F.length + 1) = F ++ [c] := by rw [Qb7 hc, ht]
    have hcin := hp.in_ c (Zd hc)
    have hcF : c ∉ F := fun hm => by
     have h6 : (p.take (F.length + 1)).Nodup := hp.nodup.sublist (X6 _ _)
     rw [htk, Xn] at h6
     exact h6.2.2 c hm c (by simp) rfl
    have ec : ((c.toNat : Nat) : Int) = c := by omega
    have h3 := h2 c.toNat (by omega) (by rw [ec]; exact hcF)
    rw [ec] at h3
    have hx := hext c.toNat (by omega) (by rw [ec]; exact hcF)
    rw [ec] at hx
    have h4 := (Qel hX k _ hx.1 hx.2).2 p hp (by rw [Zj, Zr]; exact htk)
    omega
theorem Qoq {s : Box} (h : boxE s = 0) : Qcc s s.boils.length [] = Qbc s (Qd2 s) := by
 have hX := Qgj.1 h
 obtain ⟨⟨p, hp, _, e⟩, h2⟩ := Qel hX s.boils.length [] ⟨h, by simp, by simp, by simp⟩ (by unfold Qdg; simp)
 have h3 := h2 (Qd2 s) (Qgh s) (by simp)
 have h4 := Qk2 hp
 omega
end Go.C06
