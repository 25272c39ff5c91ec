import Derived.Test.YtoeiaekighfifaaG5
import Derived.Test.YtoeiaekighfifaaG3
import Derived.Test.YtoeiaekighfifaaChecked
set_option linter.all false
open List renaming map_cons → Qa, map_nil → Qc, getElem?_cons_zero → Qd, length_nil → Qe, getElem?_cons_succ → Qf, length_cons → Qg, append_nil → Qi, take_succ_cons → Qk, getElem?_eq_getElem → Ql, length_map → Qn, nodup_iff_pairwise_ne → Qp, nil_append → Qq, getD_eq_getElem?_getD → Qr, flatten_nil → Qt, take_nil → Qu, getElem?_nil → Qv, drop_succ_cons → Qw, take_zero → Qx, cons_append → Qy, getElem?_map → Qz, length_append → Q0, replicate_zero → Q1, set_cons_zero → Q4, replicate_succ → Q6, all_cons → Q9, headD_cons → Zb, flatten_cons → Zc, all_nil → Zd, getElem?_of_mem → Zf, set_cons_succ → Zg, drop_zero → Zi, drop_nil → Zl, mem_filter → Zm, pairwise_iff_getElem → Zn, getElem?_eq_none → Zo, mem_of_getElem? → Zp, getElem?_set_self → Zq, mem_singleton → Zt, map_append → Zu, mem_map → Zv, getElem?_set_ne → Zw, mem_iff_getElem → Zx, append_assoc → Zy, flatten_append → Zz, take_length → Z1, all_eq_true → Z3, nodup_cons → Z4, mem_cons → Z5, length_singleton → Z6, pairwise_map → Z7, mem_range → Z9, exists_mem_of_ne_nil → Xa, getElem?_append_left → Xb, contains_cons → Xc, length_range → Xe, isEmpty_cons → Xf, contains_nil → Xg, length_filter_le → Xh, range → Xj, isEmpty_nil → Xk, any_eq_true → Xl, Pairwise → Xm, mem_append → Xn, length_pos_iff → Xp, getElem?_append_right → Xr, mem_take_iff_getElem → Xt, any_eq_false → Xu, nodup_append → Xv, ext_getElem? → Xw, any_cons → Xy, length_filterMap_le → Xz, length_take → X0, getElem_mem → X1, nodup_range → X2, find?_cons_of_neg → X4, any_nil → X5, flatMap_singleton → X6, filter_sublist → X7, flatMap_append → X8, ne_nil_of_mem → X9, filter_append → Ja, find?_eq_none → Jb, countP_cons → Je, range_succ → Jg, length_set → Jh
open Nat renaming zero_add → Qh, mul_one → Ze, le_refl → Zk, le_trans → Xd, lt_or_gt_of_ne → Xq, add_zero → X3
open Bool renaming false_eq_true → Qb, or_false → Qo, and_self → Qs, not_true → Q8, and_true → Za, not_false → Zh, true_and → Zr, and_eq_true → Zs, false_and → Z0, not_eq_true → Xi, false_or → Xx, true_eq_false → Jd
open Option renaming getD_some → Qj, map_some → Q5, getD_none → Z2, map_none → Xo, isSome_some → Xs, isSome_none → Jc, some → Jf
open Int renaming toNat_natCast → Qm, natCast_add → Q2, natCast_one → Q3, natCast_nonneg → Q7, natCast_zero → Zj, toNat_zero → Z8
set_option linter.unusedSimpArgs false
set_option linter.unusedVariables false
namespace Go.C10
open Go.Fam Go.Proofs
variable {Γ : Gam}
structure IsTak (g : Int) (t : List Int) : Prop where
 len : t.length = g.toNat
 in_ : ∀ x ∈ t, 0 ≤ x ∧ x ≤ g - 1
 nodup : t.Nodup
theorem Qig {g : Int} : ∀ (r : Nat) (F t : List Int), t ∈ extN g r F ↔ ∃ m, t = F ++ m ∧ m.length = r ∧ (∀ x ∈ m, 0 ≤ x ∧ x ≤ g - 1) ∧ m.Nodup ∧ ∀ x ∈ m, x ∉ F
 | 0, F, t => by
  simp only [extN, Zt]
  constructor
  ·rintro rfl
   exact ⟨[], by simp, rfl, by simp, List.nodup_nil, by simp⟩
  ·rintro ⟨m, rfl, hm, _⟩
   rw [List.eq_nil_of_length_eq_zero hm, Qi]
 | r + 1, F, t => by
  rw [extN, List.mem_flatMap]
  constructor
  ·rintro ⟨u, hu, ht⟩
   rw [Zm, Qch, decide_eq_true_eq] at hu
   obtain ⟨m, rfl, hm, h1, h2, h3⟩ := (Qig r (F ++ [u]) t).1 ht
   refine ⟨u :: m, by simp, by simp [hm], ?_, ?_, ?_⟩
   ·intro x hx
    rcases Z5.1 hx with rfl | hx
    ·exact hu.1
    ·exact h1 x hx
   ·rw [Z4]
    exact ⟨fun hum => h3 u hum (by simp), h2⟩
   ·intro x hx
    rcases Z5.1 hx with rfl | hx
    ·exact hu.2
    ·intro hF; exact h3 x hx (by simp [hF])
  ·rintro ⟨m, rfl, hm, h1, h2, h3⟩
   cases m with
   | nil => simp at hm
   | cons u m =>
    rw [Z4] at h2
    refine ⟨u, ?_, (Qig r (F ++ [u]) _).2 ⟨m, by simp, by simpa using hm, fun x hx => h1 x (by simp [hx]), h2.2, fun x hx hF => ?_⟩⟩
    ·rw [Zm, Qch, decide_eq_true_eq]
     exact ⟨h1 u (by simp), h3 u (by simp)⟩
    ·rcases Xn.1 hF with h | h
     ·exact h3 x (by simp [hx]) h
     ·rw [Zt] at h
      subst h
      exact h2.1 hx
theorem Qt6 {g : Int} {t : List Int} : t ∈ extN g g.toNat [] ↔ IsTak g t := by
 rw [Qig]
 constructor
 ·rintro ⟨m, rfl, h1, h2, h3, _⟩
  exact ⟨by simpa using h1, by simpa using h2, by simpa using h3⟩
 ·rintro ⟨h1, h2, h3⟩
  exact ⟨t, rfl, h1, h2, h3, by simp⟩
theorem Qcd {s : Stand} {t : List Int} : t ∈ Qaa s ↔ IsTak s.guests t ∧ Qci s t = true := by
 unfold Qaa Qcg
 rw [Zm, Qt6]
theorem Qjo {s : Stand} (h : OkS s) (hne : Qaa s ≠ []) {g : Int} (hg : Qao s.guests g = true) : OkT (Qaa s) g := by
 have hl := Qej h
 have hgs := h.guests
 simp only [Qao, Qaz, Zs, decide_eq_true_eq] at hg
 exact ⟨hne, by omega, by omega, fun t ht => by have := (Qcd.1 ht).1.len; omega⟩
theorem Qhi : ∀ l : List Int, Qa5 (l.map V.i) = false
 | [] => rfl
 | a :: l => by rw [Qa, Qa5, Qhi l]; rfl
def canR (s : Stand) (g : Int) : List Int × Int := if (Qbr s [g]).2 = 0 then (Qc1 (Qaa s) g, 0) else ([], (Qbr s [g]).2)
theorem Qka {s : Stand} {gs : List Int} (h : (Qbr s gs).2 = 0) : Qaw s = 0 ∧ (∀ g ∈ gs, Qao s.guests g = true) ∧ Qaa s ≠ [] ∧ (Qbr s gs).1 = Qaa s := by
 unfold Qbr at h ⊢
 by_cases hc : Qaw s = 0
 ·rw [if_neg (by simpa using hc)] at h ⊢
  by_cases ha : (gs.any fun n => !Qao s.guests n) = true
  ·rw [if_pos ha] at h; cases h
  ·rw [if_neg ha] at h ⊢
   by_cases ht : Qaa s = []
   ·rw [if_pos ht] at h; cases h
   ·rw [if_neg ht]
    refine ⟨hc, fun g hg => ?_, ht, rfl⟩
    simp only [Xi, Xu, Bool.not_eq_eq_eq_not, Q8, Bool.not_eq_false] at ha
    simpa using ha g hg
 ·rw [if_pos hc] at h
  exact absurd h hc
theorem Quq (s : Stand) (gs : List Int)  : HE2 66 [.ag (Qa4 s), .sl 1 (gs.map eI)] = (Qaq s ∧ gs.length ≤ 1000000, ((fun r => .tp [.sl 1 (r.1.map eCan), .i r.2])) (Qbr s gs)) := h66 s gs
theorem W37 (s : Stand) (g : Int) (h : Qaq s) : Qal Try.prog 37 [.ag (Qa4 s), .i g] (.tp [.sl 1 ((canR s g).1.map eI), .i (canR s g).2]) := by
 refine Qak Qwf hmix Try.func37 cb37 cc37 cs37 cn37 ?_
 have g1 := Quq s [g]
 simp only [Qa4, eI, Qa, Qc, Qg, Qe] at g1
 by_cases h0 : (Qbr s [g]).2 = 0
 ·obtain ⟨hc, hg, hne, e1⟩ := Qka h0
  have hT := Qjo (Qdj hc h) hne (hg g (by simp))
  have g2 := h67 (Qaa s) g
  simp only [rc37, rs37, g1, h, h0, e1, g2, hT, canR, Zc, Qt, Qag, Qa9, Qa8, Qac, Qah, Qa6, Qck, Qae, Qa7, Qa2, Fam.step, Qaf, evO, opv, qv, binV, ldV, Qap, Qas, putAt, Qb7, Qb4, V.cells, Qav, Qbm, Qab, Qa5, flat, Qcx, Qa1, Qa0, Qa3, ↓reduceIte, Nat.reduceEqDiff, Nat.reduceAdd, Nat.reduceMul, Nat.reduceLT, Nat.reduceLeDiff, Qa, Qc, Q9, Zd, Qg, Qe, Qw, Zl, Qk, Qx, Qu, Qq, Qi, Qd, Qf, Qv, Qj, Q1, Q6, endQ, rvs, rv1, resV, vw_i, Qam, Qau, Qd5, zipA, Qh, Qs, Za, Qo, Q8, Qb, decide_true, and_self, reduceCtorEq, not_false_eq_true, ne_eq, imp_self, Qa4]
 ·simp only [rc37, rs37, g1, h, h0, canR, Zc, Qt, Qa9, Qa8, Qac, Qah, Qa6, Qck, Qae, Qa7, Qa2, Fam.step, Qaf, evO, opv, qv, binV, ldV, Qap, Qas, putAt, Qb7, Qb4, V.cells, Qav, Qbm, Qab, Qa5, flat, Qcx, Qa1, Qa0, Qa3, ↓reduceIte, Nat.reduceEqDiff, Nat.reduceAdd, Nat.reduceMul, Nat.reduceLT, Nat.reduceLeDiff, Qa, Qc, Q9, Zd, Qg, Qe, Qw, Zl, Qk, Qx, Qu, Qq, Qi, Qd, Qf, Qv, Qj, Q1, Q6, endQ, rvs, rv1, resV, vw_i, vw_z, Qam, Qau, Qd5, zipA, Qh, Qs, Za, Qo, Zh, Qb, decide_false, and_self, reduceCtorEq, not_false_eq_true, ne_eq, imp_self, Qa4]
def e37 (a : Stand × Int) : List V := [.ag (Qa4 a.1), .i a.2]
def d37 : List V → Stand × Int | [.ag x0, .i x1] => (Qb2 x0, x1) | _ => (Qb2 [], 0)
theorem Qxr (a : Stand × Int) : d37 (e37 a) = a := by simp [d37, e37, Qbc]
noncomputable def HF1 : Gam := HE2.ext 37 (fnG e37 d37 (fun a => (fun (s : Stand) (g : Int) => Qaq s) a.1 a.2) (fun a => (fun (s : Stand) (g : Int) => canR s g) a.1 a.2) (fun r => .tp [.sl 1 (r.1.map eI), .i r.2]))
theorem Qwg : GOk Try.prog HF1 := Qwf.ext (f := 37) (fun a w => Try.call37 a w) (Qb9 (e := e37) (d := d37) (ok := (fun a => (fun (s : Stand) (g : Int) => Qaq s) a.1 a.2)) (g := (fun a => (fun (s : Stand) (g : Int) => canR s g) a.1 a.2)) (eb := (fun r => .tp [.sl 1 (r.1.map eI), .i r.2])) fun a h => W37 a.1 a.2 h)
theorem h37 (s : Stand) (g : Int) : HF1 37 [.ag (Qa4 s), .i g] = (Qaq s, ((fun r => .tp [.sl 1 (r.1.map eI), .i r.2])) (canR s g)) :=
 (show HF1 37 _ = fnG e37 d37 (fun a => (fun (s : Stand) (g : Int) => Qaq s) a.1 a.2) (fun a => (fun (s : Stand) (g : Int) => canR s g) a.1 a.2) (fun r => .tp [.sl 1 (r.1.map eI), .i r.2]) (e37 (s, g)) from rfl).trans (Qb5 _ (Qxr _))
def oneN (d : List Int) : Int := if (1 : Int) < d.length then -1 else d.headD 0
def Qd6 (s : Stand) : List Int := (ints 0 (s.guests - 1)).map fun g => oneN (Qc1 (Qaa s) g)
def Qdb (s : Stand) : List Int × Int := if (Qbr s []).2 = 0 then (Qd6 s, 0) else ([], (Qbr s []).2)
theorem Qur (s : Stand) (gs : List Int)  : HF1 66 [.ag (Qa4 s), .sl 1 (gs.map eI)] = (Qaq s ∧ gs.length ≤ 1000000, ((fun r => .tp [.sl 1 (r.1.map eCan), .i r.2])) (Qbr s gs)) := h66 s gs
theorem Qt1 (l : List (List Int)) (g : Int)  : HF1 1000067 [.sl 1 (l.map eCan), .i g] = (OkT l g, .tp [.rf 0 l.length 0 (Qc1 l g).length 1, .tp [bV (.cells l.length (Qe5 l g))]]) := h67o l g
set_option maxHeartbeats 1000000 in
theorem W41 (s : Stand) (h : Qaq s) : Qal Try.prog 41 [.ag (Qa4 s)] (.tp [.sl 1 ((Qdb s).1.map eI), .i (Qdb s).2]) := by
 refine Qak Qwg hmix Try.func41 cb41 cc41 cs41 cn41 ?_
 have g1 := Qur s []
 simp only [Qa4, Qc, Qe] at g1
 by_cases h0 : (Qbr s []).2 = 0
 ·obtain ⟨hc, _, hne, e1⟩ := Qka h0
  have hS := Qdj hc h
  have hgs := hS.guests
  simp only [rc41, rs41, g1, h, h0, e1, Qdb, Qag, Qa9, Qa8, Qac, Qad, Qa6, Qgq, Qae, Qa7, Qa2, Fam.step, Qaf, evO, opv, qv, binV, ldV, Qap, V.cells, Qav, Qab, Qa5, flat, Qcx, Qa1, Qa0, Qa3, ↓reduceIte, Nat.reduceEqDiff, Nat.reduceAdd, Nat.reduceLT, Nat.reduceLeDiff, Int.reduceNeg, Qa, Qc, Qg, Qe, Zi, Qk, Qu, Zb, Qq, Qi, Qd, Qf, Qj, vw_i, vw_z, Qam, Qau, zipA, Qh, Qs, Za, Qo, Q8, Qb, decide_true, true_and, and_self, imp_self, Qa4]
  refine Qc2 s.guests.toNat (fun i => ⟨lkp [(4, .sl 1 ((Qaa s).map eCan)), (6, .rf 0 i 0 i 1), (18, .i s.guests), (19, .i i)], [.cells i (((Qd6 s).take i).map eI).flatten]⟩) ?_ ?_ ?_
  ·simp only [Zj, Qx, Qt, cutH, kp, cutV, cutL, cutB, Qa0, Qa3, ↓reduceIte, Nat.reduceEqDiff, Nat.reduceLT, Qa, Qc, Qk, Qx, Qu]
  ·intro i hi
   have hlt : (i : Int) < s.guests := by omega
   have hnx : ∀ x : Int, Qa5 ((((Qd6 s).take i).map eI).flatten ++ [V.i x]) = false := fun x => by rw [Qbi, Qf2]; rfl
   have hg : Qao s.guests i = true := by simp only [Qao, Qaz, Zs, decide_eq_true_eq]; omega
   have hT := Qjo hS hne hg
   have g2 := Qt1 (Qaa s) i
   obtain ⟨d, hd⟩ : ∃ d, d = Qc1 (Qaa s) i := ⟨_, rfl⟩
   have hmem := (Qid (colN (Qaa s) i)).2
   have hdn : d ≠ [] := by
    obtain ⟨t, ht⟩ := Xa _ hne
    have := (hmem (atN t i)).2 (Zv.2 ⟨t, ht, rfl⟩)
    rw [hd]; exact X9 this
   obtain ⟨a, d', had⟩ : ∃ a d', d = a :: d' := List.exists_cons_of_ne_nil hdn
   obtain ⟨Z, hZ⟩ : ∃ Z, Qe5 (Qaa s) i = .i a :: Z := by
    refine ⟨(Qe5 (Qaa s) i).tail, ?_⟩
    unfold Qe5
    rw [← hd, had]; rfl
   rw [hZ, ← hd] at g2
   have hZn : Qa5 Z = false := by
    have : Qa5 (Qe5 (Qaa s) i) = false := by
     unfold Qe5
     exact Qhi _
    rw [hZ] at this
    simpa [Qa5, Qab] using this
   have h3 : inI ((i : Int) + 1) := by unfold inI; omega
   have hfl : Qax (i + 1) := by unfold Qax; omega
   have hki : (Qd6 s)[i]? = some (oneN d) := by
    unfold Qd6
    rw [Qz, Qk5 (by omega), hd]
    simp
   have hkl : ((Qd6 s).take i).length = i := by
    have := Qan hki
    rw [X0]; omega
   have hs := Qbf hki
   have hpos : (0 : Int) < d.length := by have := Xp.2 hdn; omega
   by_cases h1 : (1 : Int) < d.length
   ·have e2 : oneN d = -1 := by unfold oneN; rw [if_pos h1]
    rw [e2] at hs
    simp only [hlt, g2, hT, Qdh _ _ hZn, h1, hpos, hs, Qgj, hkl, Ze, hfl, h3, Zu, Zz, Zc, Qt, Q2, Q3, Qar _ _ _ (hnx _), Qag, Qa9, Qa8, Qac, Qad, Qa6, Qcb, Qck, ↓Qbq, Qjc, ocV, nidQ, plO, plQ, plB, Qdr, Qhn, Qe1, shV, shL, shB, Qek, cutH, putB, Qae, Qaj, Qa7, Qa2, Fam.step, Qaf, Qcf, Qb6, putB, nv, sv, Qc8, evO, opv, qv, binV, ldV, iadV, lenV, Qas, putAt, Qb7, Qb4, V.cells, Qav, Qbm, Qab, Qa5, kp, cutV, cutB, Qa1, Qbn, Qa0, Qa3, ↓reduceIte, Nat.reduceEqDiff, Nat.reduceAdd, Nat.reduceLT, Nat.reduceLeDiff, Int.reduceNeg, Z8, Int.reduceLE, Qa, Qc, Q9, Zd, Qg, Qe, Qw, Zi, Zl, Qk, Qx, Qu, Zb, Qy, Qq, Qi, Qd, Qf, Q4, Zg, Q1, Q6, vw_i, Qam, Qkz, Qe8, Qh, X3, Qs, Za, Zr, Z0, Qo, Qb, decide_true, and_self, reduceCtorEq, not_false_eq_true, ne_eq, eI]
   ·have e2 : oneN d = a := by unfold oneN; rw [if_neg h1, had]; rfl
    rw [e2] at hs
    simp only [hlt, g2, hT, Qdh _ _ hZn, h1, hpos, hs, Qgj, hkl, Ze, hfl, h3, Zu, Zz, Zc, Qt, Q2, Q3, Qar _ _ _ (hnx _), Qag, Qa9, Qa8, Qac, Qad, Qa6, Qcb, Qck, ↓Qbq, Qjc, ocV, nidQ, plO, plQ, plB, Qdr, Qhn, Qe1, shV, shL, shB, Qek, cutH, putB, Qae, Qaj, Qa7, Qa2, Fam.step, Qaf, Qcf, Qb6, putB, nv, sv, Qc8, evO, opv, qv, binV, ldV, iadV, lenV, Qas, putAt, Qb7, Qb4, V.cells, Qav, Qbm, Qab, Qa5, kp, cutV, cutB, Qa1, Qa0, Qa3, ↓reduceIte, Nat.reduceEqDiff, Nat.reduceAdd, Nat.reduceLT, Nat.reduceLeDiff, Int.reduceNeg, Z8, Int.reduceLE, Qa, Qc, Q9, Zd, Qg, Qe, Qw, Zi, Zl, Qk, Qx, Qu, Zb, Qy, Qq, Qi, Qd, Qf, Q4, Q1, Q6, vw_i, Qam, Qkz, Qe8, Qh, X3, Qs, Za, Zr, Z0, Qo, Qb, decide_true, decide_false, and_self, reduceCtorEq, not_false_eq_true, ne_eq, eI]
  ·have hlt : ¬ ((s.guests.toNat : Int) < s.guests) := by omega
   have hl : (Qd6 s).length = s.guests.toNat := by unfold Qd6; rw [Qn, Qec]; omega
   have ht : (Qd6 s).take s.guests.toNat = Qd6 s := by rw [← hl, Z1]
   have hck := Qfy (Qd6 s)
   rw [hl] at hck
   simp only [hlt, ht, hl, Qgj, Ze, Zk, hck, vw_I, Qa9, Qa8, Qac, Qb1, Qah, Qa6, Qae, Qaj, Qa7, Qa2, Fam.step, Qaf, evO, opv, qv, binV, ldV, Qa1, Qa0, Qa3, ↓reduceIte, Nat.reduceEqDiff, Int.reduceNeg, Qa, Qc, Qd, endQ, rvs, rv1, resV, vw_i, Qd5, Qe8, Qh, Qb, decide_false, and_self]
 ·simp only [rc41, rs41, g1, h, h0, Qdb, Qa9, Qa8, Qac, Qah, Qa6, Qae, Qa7, Qa2, Fam.step, Qaf, evO, opv, qv, binV, ldV, Qap, V.cells, Qav, Qab, Qa5, flat, Qcx, Qa1, Qa0, Qa3, ↓reduceIte, Nat.reduceEqDiff, Nat.reduceAdd, Nat.reduceLT, Nat.reduceLeDiff, Int.reduceNeg, Qa, Qc, Qg, Qe, Qk, Qu, Qi, Qd, Qf, Qv, Qj, endQ, rvs, rv1, resV, vw_i, vw_z, Qam, Qau, Qd5, zipA, Qh, Qs, Za, Qo, Zh, Qb, decide_false, and_self, imp_self, Qa4]
def e41 (a : Stand) : List V := [.ag (Qa4 a)]
def d41 : List V → Stand | [.ag x0] => (Qb2 x0) | _ => (Qb2 [])
theorem Qxu (a : Stand) : d41 (e41 a) = a := by simp [d41, e41, Qbc]
noncomputable def HF2 : Gam := HF1.ext 41 (fnG e41 d41 (fun a => (fun (s : Stand) => Qaq s) a) (fun a => (fun (s : Stand) => Qdb s) a) (fun r => .tp [.sl 1 (r.1.map eI), .i r.2]))
theorem Qwh : GOk Try.prog HF2 := Qwg.ext (f := 41) (fun a w => Try.call41 a w) (Qb9 (e := e41) (d := d41) (ok := (fun a => (fun (s : Stand) => Qaq s) a)) (g := (fun a => (fun (s : Stand) => Qdb s) a)) (eb := (fun r => .tp [.sl 1 (r.1.map eI), .i r.2])) fun a h => W41 a h)
theorem h41 (s : Stand) : HF2 41 [.ag (Qa4 s)] = (Qaq s, ((fun r => .tp [.sl 1 (r.1.map eI), .i r.2])) (Qdb s)) :=
 (show HF2 41 _ = fnG e41 d41 (fun a => (fun (s : Stand) => Qaq s) a) (fun a => (fun (s : Stand) => Qdb s) a) (fun r => .tp [.sl 1 (r.1.map eI), .i r.2]) (e41 (s)) from rfl).trans (Qb5 _ (Qxu _))
theorem Qus (t : List Int) (w : Word)  : HF2 70 [.sl 1 (t.map eI), .ag (eWord w)] = (OkSo w t.length, .b (soB w t)) := h70 t w
theorem W69 (t : List Int) (w : Word) (h : OkSo w t.length) : Qal Try.prog 69 [.sl 1 (t.map eI), .pa (eWord w)] (.b (soB w t)) := by
 refine Qak Qwh hmix Try.func69 cb69 cc69 cs69 cn69 ?_
 have g1 := Qus t w
 simp only [eWord] at g1
 simp only [rc69, rs69, g1, h, Qa9, Qa8, Qah, Qa6, Qae, Qa7, Qa2, Fam.step, Qaf, evO, opv, qv, ldV, Qap, Qab, Qa5, flat, Qa1, Qa0, Qa3, ↓reduceIte, Nat.reduceEqDiff, Nat.reduceAdd, Nat.reduceLT, Nat.reduceLeDiff, Qa, Qc, Qg, Qe, Qk, Qu, Qi, endQ, rvs, rv1, resV, vw_i, vw_b, Qam, Qau, zipA, Qh, Qo, Qb, and_self, implies_true, reduceCtorEq, eWord]
def e69 (a : List Int × Word) : List V := [.sl 1 (a.1.map eI), .pa (eWord a.2)]
def d69 : List V → List Int × Word | [.sl _ l, .pa s] => (l.map dI, Qep s) | _ => ([], Qep [])
theorem Qy9 (a : List Int × Word) : d69 (e69 a) = a := by simp [d69, e69, Qet, Function.comp_def, Qd8]
noncomputable def HF3 : Gam := HF2.ext 69 (fnG e69 d69 (fun a => OkSo a.2 a.1.length) (fun a => soB a.2 a.1) .b)
theorem Qwi : GOk Try.prog HF3 := Qwh.ext (f := 69) (fun a w => Try.call69 a w) (Qb9 (e := e69) (d := d69) (ok := fun a => OkSo a.2 a.1.length) (g := fun a => soB a.2 a.1) (eb := .b) fun a h => W69 a.1 a.2 h)
theorem h69 (t : List Int) (w : Word) : HF3 69 [.sl 1 (t.map eI), .pa (eWord w)] = (OkSo w t.length, .b (soB w t)) :=
 (show HF3 69 _ = fnG e69 d69 (fun a => OkSo a.2 a.1.length) (fun a => soB a.2 a.1) .b (e69 (t, w)) from rfl).trans (Qb5 _ (Qy9 _))
def Qi8 (l : List (List Int)) (w : Word) : Prop := l.length ≤ 1000000 ∧ ∀ t ∈ l, OkSo w t.length
theorem W86 (l : List (List Int)) (w : Word) (h : Qi8 l w) : Qal Try.prog 86 [.sl 1 (l.map eCan), .fn 69 [.pa (eWord w)]] (.i (idxOf (fun t => soB w t) l)) := by
 refine Qak Qwi hmix Try.func86 cb86 cc86 cs86 cn86 ?_
 obtain ⟨hl, hs⟩ := h
 simp only [rc86, rs86, Qa9, Qa8, Qad, Qa6, Qae, Qa7, Qa2, Fam.step, Qaf, evO, opv, qv, lenV, Qa1, Qa0, Qa3, ↓reduceIte, Nat.reduceEqDiff, Int.reduceNeg, Qa, Qc, zipA, Qh, true_and, reduceCtorEq, Qn, eWord]
 refine Qbs l.length (fun i => ⟨lkp [(0, .sl 1 (l.map eCan)), (1, .fn 69 [.pa (eWord w)]), (7, .i l.length), (8, .i i)], []⟩) (fun i => ∀ j x, j < i → l[j]? = some x → soB w x = false) ?_ ?_ ?_ ?_
 ·simp only [Zj, kp, Qa0, Qa3, ↓reduceIte, Nat.reduceEqDiff, Qa, Qc, reduceCtorEq, eWord]
 ·intro j x h; omega
 ·intro i hi hc
  obtain ⟨x, hx⟩ : ∃ x, l[i]? = some x := ⟨_, Ql hi⟩
  have hlt : (i : Int) < l.length := by omega
  have h3 : inI ((i : Int) + 1) := by unfold inI; omega
  have hp := h69 x w
  simp only [eWord] at hp
  have hxl := hs x (Zp hx)
  have ec : eCan x = [.sl 1 (x.map eI)] := rfl
  simp only [hx, hlt, Q2, Q3, h3, hp, hxl, Qag, Qa9, Qa8, Qac, Qj9, Qad, Qah, Qa6, Qae, Qaj, Qa7, Qa2, Fam.step, Qaf, evO, opv, qv, binV, ldV, iadV, Qap, Qab, Qa5, flat, kp, Qa1, Qa0, Qa3, ↓reduceIte, Nat.reduceEqDiff, Nat.reduceLT, Nat.reduceLeDiff, Int.reduceNeg, Qa, Qc, Qg, Qe, Zb, Qy, Qq, Qj, endQ, rvs, rv1, resV, vw_i, Qam, Qhu, Q7, Qh, V.i.injEq, Qo, Qb, decide_true, true_and, and_true, and_self, implies_true, reduceCtorEq, Q5, Qn, Qm, Qr, Qz, Xi, eWord, eCan]
  refine ⟨fun e => ?_, fun e => ?_⟩
  ·rw [Qgg hx (by simp [e]) hc]
  ·intro j y hj hy
   by_cases hji : j < i
   ·simpa using hc j y hji hy
   ·have : j = i := by omega
    subst this
    rw [hx] at hy; cases hy; simpa using e
 ·intro hc
  simp only [Qa9, Qa8, Qac, Qb1, Qah, Qa6, Qae, Qaj, Qa7, Qa2, Fam.step, Qaf, evO, opv, qv, binV, Qa1, Qa0, Qa3, ↓reduceIte, Nat.reduceEqDiff, Int.reduceNeg, Qa, Qc, endQ, rvs, rv1, resV, vw_i, Int.lt_irrefl, V.i.injEq, Qb, decide_false, true_and, and_self, reduceCtorEq, eWord]
  exact (Qdu fun x hx => by
   obtain ⟨j, hj⟩ := Zf hx
   exact hc j x (by have := Qan hj; exact this) hj).symm
def e86 (a : List (List Int) × Word) : List V := [.sl 1 (a.1.map eCan), .fn 69 [.pa (eWord a.2)]]
def d86 : List V → List (List Int) × Word | [.sl _ l, .fn _ [.pa s]] => (l.map dCan, Qep s) | _ => ([], Qep [])
theorem Qvq (a : List (List Int) × Word) : d86 (e86 a) = a := by simp [d86, e86, Function.comp_def, Qet, Qlb]
noncomputable def HF4 : Gam := HF3.ext 86 (fnG e86 d86 (fun a => Qi8 a.1 a.2) (fun a => idxOf (fun t => soB a.2 t) a.1) .i)
theorem Qwj : GOk Try.prog HF4 := Qwi.ext (f := 86) (fun a w => Try.call86 a w) (Qb9 (e := e86) (d := d86) (ok := fun a => Qi8 a.1 a.2) (g := fun a => idxOf (fun t => soB a.2 t) a.1) (eb := .i) fun a h => W86 a.1 a.2 h)
theorem h86 (l : List (List Int)) (w : Word) : HF4 86 [.sl 1 (l.map eCan), .fn 69 [.pa (eWord w)]] = (Qi8 l w, .i (idxOf (fun t => soB w t) l)) :=
 (show HF4 86 _ = fnG e86 d86 (fun a => Qi8 a.1 a.2) (fun a => idxOf (fun t => soB a.2 t) a.1) .i (e86 (l, w)) from rfl).trans (Qb5 _ (Qvq _))
theorem W68 (l : List (List Int)) (w : Word) (h : Qi8 l w) : Qal Try.prog 68 [.sl 1 (l.map eCan), .fn 69 [.pa (eWord w)]] (.b (l.any fun t => soB w t)) := by
 refine Qak Qwj hmix Try.func68 cb68 cc68 cs68 cn68 ?_
 have g1 := h86 l w
 simp only [eWord] at g1
 simp only [rc68, rs68, g1, Qa9, Qa8, Qah, Qa6, Qae, Qa7, Qa2, Fam.step, Qaf, evO, opv, qv, binV, Qap, Qab, Qa5, flat, Qa1, Qa0, Qa3, ↓reduceIte, Nat.reduceEqDiff, Nat.reduceLT, Qa, Qc, Qi, endQ, rvs, rv1, resV, vw_b, Qam, Qhu, Qj5, zipA, Qh, V.b.injEq, Qo, Qb, true_and, and_true, and_self, implies_true, reduceCtorEq, eWord]
 exact ⟨h, by rw [Qex]⟩
noncomputable def HF5 : Gam := HF4.ext 68 (fnG e86 d86 (fun a => Qi8 a.1 a.2) (fun a => a.1.any fun t => soB a.2 t) .b)
theorem Qwk : GOk Try.prog HF5 := Qwj.ext (f := 68) (fun a w => Try.call68 a w) (Qb9 (e := e86) (d := d86) (ok := fun a => Qi8 a.1 a.2) (g := fun a => a.1.any fun t => soB a.2 t) (eb := .b) fun a h => W68 a.1 a.2 h)
theorem h68 (l : List (List Int)) (w : Word) : HF5 68 [.sl 1 (l.map eCan), .fn 69 [.pa (eWord w)]] = (Qi8 l w, .b (l.any fun t => soB w t)) :=
 (show HF5 68 _ = fnG e86 d86 (fun a => Qi8 a.1 a.2) (fun a => a.1.any fun t => soB a.2 t) .b (e86 (l, w)) from rfl).trans (Qb5 _ (Qvq _))
def Qcn (s : Stand) (n : Nat) : List Int := ((Xj n).filter fun i => match s.words[i]? with | some w => !((Qaa s).any fun t => soB w t) | none => false).map Int.ofNat
def Qdv (s : Stand) : List Int × Int := if (Qbr s []).2 = 0 then (Qcn s s.words.length, 0) else ([], (Qbr s []).2)
theorem Qoq {s : Stand} (hS : OkS s) {w : Word} (hw : w ∈ s.words) : Qi8 (Qaa s) w := by
 refine ⟨by have := Qej hS; omega, fun t ht => ?_⟩
 have := Qkl (hS.word w hw) (hS.short w hw)
 rwa [(Qcd.1 ht).1.len]
theorem Qut (s : Stand) (gs : List Int)  : HF5 66 [.ag (Qa4 s), .sl 1 (gs.map eI)] = (Qaq s ∧ gs.length ≤ 1000000, ((fun r => .tp [.sl 1 (r.1.map eCan), .i r.2])) (Qbr s gs)) := h66 s gs
set_option maxHeartbeats 1000000 in
theorem W42 (s : Stand) (h : Qaq s) : Qal Try.prog 42 [.ag (Qa4 s)] (.tp [.sl 1 ((Qdv s).1.map eI), .i (Qdv s).2]) := by
 refine Qak Qwk hmix Try.func42 cb42 cc42 cs42 cn42 ?_
 have g1 := Qut s []
 simp only [Qa4, Qc, Qe] at g1
 by_cases h0 : (Qbr s []).2 = 0
 ·obtain ⟨hc, _, hne, e1⟩ := Qka h0
  have hS := Qdj hc h
  have hw20 := hS.words
  simp only [rc42, rs42, g1, h, h0, e1, Qdv, Qag, Qa9, Qa8, Qac, Qad, Qa6, Qgq, Qae, Qa7, Qa2, Fam.step, Qaf, evO, opv, qv, binV, ldV, lenV, Qap, V.cells, Qav, Qab, Qa5, flat, Qcx, Qa1, Qa0, Qa3, ↓reduceIte, Nat.reduceEqDiff, Nat.reduceAdd, Nat.reduceLT, Nat.reduceLeDiff, Qa, Qc, Qg, Qe, Qw, Zi, Qk, Qu, Zb, Qq, Qi, Qd, Qf, Qj, vw_i, vw_z, Qam, Qau, zipA, Qh, Qs, Za, Qo, Q8, Qb, decide_true, true_and, and_self, imp_self, Qn, Qa4]
  refine Qc2 s.words.length (fun i => ⟨lkp [(4, .sl 1 ((Qaa s).map eCan)), (6, .rf 0 (Qcn s i).length 0 (Qcn s i).length 1), (18, .sl 4 (s.words.map eWord)), (19, .i s.words.length), (20, .i i)], [.cells (Qcn s i).length ((Qcn s i).map eI).flatten]⟩) ?_ ?_ ?_
  ·have e0 : Qcn s 0 = [] := rfl
   simp only [Zj, e0, Qt, cutH, kp, cutV, cutL, cutB, Qa0, Qa3, ↓reduceIte, Nat.reduceEqDiff, Nat.reduceLT, Qa, Qc, Qe, Qk, Qu]
  ·intro i hi
   have hlt : (i : Int) < s.words.length := by omega
   obtain ⟨w, hw⟩ : ∃ x, s.words[i]? = some x := ⟨_, Ql hi⟩
   have hL := Qoq hS (Zp hw)
   have g2 := h68 (Qaa s) w
   simp only [eWord] at g2
   have h3 : inI ((i : Int) + 1) := by unfold inI; omega
   have hll : (Qcn s i).length ≤ i := by
    unfold Qcn
    rw [Qn]
    refine Xd (Xh _ _) ?_
    rw [Xe]; exact Zk _
   have hfl : Qax ((Qcn s i).length + 1) := by unfold Qax; omega
   have hs : Qcn s (i + 1) = if ((Qaa s).any fun t => soB w t) = true then Qcn s i else Qcn s i ++ [(i : Int)] := by
    unfold Qcn
    rw [Jg, Ja]
    by_cases ha : ((Qaa s).any fun t => soB w t) = true
    ·rw [if_pos ha]; simp [hw, ha]
    ·rw [if_neg ha]; simp [hw, ha]
   by_cases ha : ((Qaa s).any fun t => soB w t) = true
   ·rw [if_pos ha] at hs
    simp only [hlt, hw, g2, hL, ha, hs, h3, Qar _ _ _ (Qf2 _), Q2, Q3, Qag, Qa9, Qa8, Qac, Qad, Qa6, Qcb, ↓Qbq, cutH, putB, Qae, Qaj, Qa7, Qa2, Fam.step, Qaf, Qcf, Qb6, putB, nv, sv, evO, opv, qv, binV, ldV, iadV, Qap, putAt, V.cells, Qav, Qbm, Qab, Qa5, flat, kp, cutV, cutB, Qa1, Qbn, Qa0, Qa3, ↓reduceIte, Nat.reduceEqDiff, Nat.reduceAdd, Nat.reduceLT, Nat.reduceLeDiff, Qa, Qc, Q9, Zd, Qg, Qe, Qw, Zi, Zl, Qk, Qx, Qu, Qy, Qq, Qi, Qd, Qf, Qj, Q4, Zg, vw_i, Qam, Qj5, Qkz, Q7, Qh, Qs, Qo, Bool.or_true, Q8, Qb, decide_true, and_self, forall_const, Q5, Qn, Qm, Qr, Qz, eWord]
   ·rw [if_neg ha] at hs
    have hnx : Qa5 (((Qcn s i).map eI).flatten ++ [V.i (i : Int)]) = false := by rw [Qbi, Qf2]; rfl
    simp only [hlt, hw, g2, hL, ha, hs, h3, Qgj, Ze, hfl, Q0, Zu, Zz, Zc, Qt, Qar _ _ _ hnx, Q2, Q3, Qag, Qa9, Qa8, Qac, Qad, Qa6, Qcb, Qck, ↓Qbq, cutH, putB, Qae, Qaj, Qa7, Qa2, Fam.step, Qaf, Qcf, Qb6, putB, nv, sv, Qc8, evO, opv, qv, binV, ldV, iadV, Qap, Qas, putAt, Qb7, Qb4, V.cells, Qav, Qbm, Qab, Qa5, flat, kp, cutV, cutB, Qa1, Qbn, Qa0, Qa3, ↓reduceIte, Nat.reduceEqDiff, Nat.reduceAdd, Nat.reduceLT, Nat.reduceLeDiff, Qa, Qc, Q9, Zd, Qg, Qe, Qw, Zi, Zl, Qk, Qx, Qu, Qy, Qq, Qi, Qd, Qf, Qj, Q4, Zg, Q1, Q6, vw_i, Qam, Qj5, Qkz, Q7, Qh, Qs, Qo, Bool.or_true, Zh, decide_true, and_self, forall_const, reduceCtorEq, not_false_eq_true, ne_eq, Q5, Qn, Qm, Qr, Qz, eWord, eI]
  ·have hlt : ¬ ((s.words.length : Int) < s.words.length) := by omega
   simp only [hlt, Qgj, Ze, Zk, Qfy, vw_I, Qa9, Qa8, Qac, Qb1, Qah, Qa6, Qae, Qaj, Qa7, Qa2, Fam.step, Qaf, evO, opv, qv, binV, ldV, Qa1, Qa0, Qa3, ↓reduceIte, Nat.reduceEqDiff, Qa, Qc, Qd, endQ, rvs, rv1, resV, vw_i, Qd5, Qe8, Qh, Qb, decide_false, and_self]
 ·simp only [rc42, rs42, g1, h, h0, Qdv, Qa9, Qa8, Qac, Qah, Qa6, Qae, Qa7, Qa2, Fam.step, Qaf, evO, opv, qv, binV, ldV, Qap, V.cells, Qav, Qab, Qa5, flat, Qcx, Qa1, Qa0, Qa3, ↓reduceIte, Nat.reduceEqDiff, Nat.reduceAdd, Nat.reduceLT, Nat.reduceLeDiff, Qa, Qc, Qg, Qe, Qk, Qu, Qi, Qd, Qf, Qv, Qj, endQ, rvs, rv1, resV, vw_i, vw_z, Qam, Qau, Qd5, zipA, Qh, Qs, Za, Qo, Zh, Qb, decide_false, and_self, imp_self, Qa4]
def e42 (a : Stand) : List V := [.ag (Qa4 a)]
def d42 : List V → Stand | [.ag x0] => (Qb2 x0) | _ => (Qb2 [])
theorem Qxv (a : Stand) : d42 (e42 a) = a := by simp [d42, e42, Qbc]
noncomputable def HF6 : Gam := HF5.ext 42 (fnG e42 d42 (fun a => (fun (s : Stand) => Qaq s) a) (fun a => (fun (s : Stand) => Qdv s) a) (fun r => .tp [.sl 1 (r.1.map eI), .i r.2]))
theorem Qtx : GOk Try.prog HF6 := Qwk.ext (f := 42) (fun a w => Try.call42 a w) (Qb9 (e := e42) (d := d42) (ok := (fun a => (fun (s : Stand) => Qaq s) a)) (g := (fun a => (fun (s : Stand) => Qdv s) a)) (eb := (fun r => .tp [.sl 1 (r.1.map eI), .i r.2])) fun a h => W42 a h)
theorem h42 (s : Stand) : HF6 42 [.ag (Qa4 s)] = (Qaq s, ((fun r => .tp [.sl 1 (r.1.map eI), .i r.2])) (Qdv s)) :=
 (show HF6 42 _ = fnG e42 d42 (fun a => (fun (s : Stand) => Qaq s) a) (fun a => (fun (s : Stand) => Qdv s) a) (fun r => .tp [.sl 1 (r.1.map eI), .i r.2]) (e42 (s)) from rfl).trans (Qb5 _ (Qxv _))
end Go.C10
set_option maxRecDepth 8000
namespace Go.C10
open Go.Fam Go.Proofs
def rc78 : RC := (.seq (.reg false [(cI 4 0), (cQ 5 [] (.mv (kB false)))]) (.keep [0,1] (.scp (.seq (.seq (.reg false [(cMv 14 0), (cLn 15 14), (cC 16 .eql 15 1)]) (.keep [0,1,16] (.cond (.t 16) (.seq (.reg false [(cQ 4 [] (.mv (.k (.i (-1))))), (cQ 5 [] (.mv (kB true)))]) .ret) .skip))) (.keep [0,1] (.seq (.seq (.reg false [(cMv 17 1), (cC 18 .eql 17 0)]) (.keep [0,1,18] (.cond (.t 18) (.seq (.reg false [(cQ 4 [] (.mv (.k (.i (-1))))), (cQ 5 [] (.mv (kB false)))]) .ret) .skip))) (.keep [0,1] (.seq .skip (.keep [0,1] (.seq (.seq (.reg false [(cMv 19 0), (cQ 20 [19] (.iad 1 (.t 19) (kI 0))), (cLd 21 20 false 1), (cLn 22 21), (cI 23 0)]) (.keep [0,1,22,23] (.block 0 (.loop [0,1,22,23] (some 0) (.seq (.reg false [(cB 24 .lss 23 22)]) (.keep [0,1,22,23,24] (.seq (.cond (.t 24) .skip (.exit 0)) (.keep [0,1,22,23] (.seq (.block 1 (.seq (.reg false [(cMv 25 23), (cMv 6 25)]) (.keep [0,1,6,22,23] (.seq (.reg false [⟨(some 26), none, [], none, .w (.mkm false)⟩, (cMv 7 26)]) (.keep [0,1,6,7,22,23] (.seq (.seq (.reg false [(cMv 27 0), (cLn 28 27), (cI 29 0)]) (.keep [0,1,6,7,22,23,27,28,29] (.block 2 (.loop [0,1,6,7,22,23,27,28,29] none (.seq (.reg false [(cB 30 .lss 29 28)]) (.keep [0,1,6,7,22,23,27,28,29,30] (.seq (.cond (.t 30) .skip (.exit 2)) (.keep [0,1,6,7,22,23,27,28,29] (.seq (.block 3 (.seq (.reg false [(cA 31 1 27 29), (cLd 32 31 false 1), (cMv 9 32)]) (.keep [0,1,6,7,9,22,23,27,28,29] (.any false 1 [⟨(cMv 33 7), [], []⟩, ⟨(cMv 34 9), [], []⟩, ⟨(cMv 35 6), [], []⟩, ⟨(cA 36 1 34 35), [], [1,2]⟩, ⟨(cLd 37 36 false 1), [], [3,1,2]⟩, ⟨(cMv 38 7), [], []⟩, ⟨(cMv 39 9), [], []⟩, ⟨(cMv 40 6), [], []⟩, ⟨(cA 41 1 39 40), [], [6,7]⟩, ⟨(cLd 42 41 false 1), [], [8,6,7]⟩, ⟨(cQ 43 [38,42] (.lkp (.z 1) false 3 false (.t 38) (.t 42))), [], [5,9,8,6,7]⟩, ⟨(cMv 44 9), [], []⟩, ⟨(cQ 45 [44] (.bsl 1 1 [(.z 1)] [(0,1, (.t 44))])), [], [11]⟩, ⟨⟨(some 46), none, [43,45], (some 0), .w (.app 1 (.t 43) (.t 45))⟩, [0,1,2,3,4], [10,5,9,8,6,7,12,11]⟩, ⟨⟨none, none, [33,37,46], none, .w (.mup 3 false (.t 33) (.t 37) (.t 46))⟩, [], [0,4,3,1,2,13,10,5,9,8,6,7,12,11]⟩])))) (.keep [0,1,6,7,22,23,27,28,29] (.reg false [(cC 47 .add 29 1), (cMv 29 47)]))))))))))) (.keep [0,1,6,7,22,23] (.seq (.seq (.drp 1 (.reg false [(cMv 48 7), (cQ 49 [48] (.mlen (.t 48))), (cC 50 .eql 49 1)])) (.keep [0,1,6,7,22,23,50] (.cond (.t 50) (.exit 1) .skip))) (.keep [0,1,6,7,22,23] (.seq (.seq (.reg false [(cMv 51 7), ⟨(some 52), none, [51], none, .w (.rng (.t 51))⟩]) (.keep [0,1,6,22,23,52] (.block 4 (.loop [0,1,6,22,23,52] none (.seq (.nxt 53 54 52) (.keep [0,1,6,22,23,52,54] (.seq (.cond (.t 54) .skip (.exit 4)) (.keep [0,1,6,22,23,52] (.block 5 (.seq (.reg false [(cQ 55 [52] (.ent (.t 52))), (cEx 56 55 1), (cMv 11 56)]) (.keep [0,1,6,11,22,23,52] (.seq (.reg false [(cMv 58 11), (cMv 59 1), (cC 60 .sub 59 1), (cQ 61 [58,60] (.call (kF 78) [(.t 58), (.t 60)])), (cMv 57 61), (cEx 62 57 0), (cEx 63 57 1), (cMv 12 62), (cMv 13 63)]) (.keep [0,1,6,13,22,23,52] (.seq (.reg false [(cMv 64 13), (cN 65 64)]) (.keep [0,1,6,22,23,52,65] (.cond (.t 65) (.exit 1) .skip)))))))))))))))) (.keep [6] (.seq (.reg false [(cMv 66 6), (cMv 4 66), (cQ 5 [] (.mv (kB true)))]) .ret)))))))))))) (.drp 0 (.keep [0,1,22,23] (.reg false [(cC 67 .add 23 1), (cMv 23 67)])))))))))))) (.keep [] (.seq (.reg false [(cQ 4 [] (.mv (.k (.i (-1))))), (cQ 5 [] (.mv (kB false)))]) .ret))))))))))))
def pu78 : List Nat := [45]
def rs78 : List RV := [.t 4, .t 5]
theorem cc78 : CCx Try.prog Try.f78 pu78 rc78 := by unfold CCx; kernel_rfl
theorem cb78 : CBx Try.f78 := by unfold CBx; kernel_rfl
theorem cs78 : CSx Try.prog Try.f78 rs78 := by unfold CSx; kernel_rfl
theorem cn78 : 2 ≤ Try.f78.ntmps := by decide
def rc51 : RC := (.seq (.reg false [(cX 1 0), (cI 2 0), (cI 3 0), (cI 4 0)]) (.keep [1] (.seq (.reg false [(cLd 10 1 true 3), (cQ 11 [10] (.call (kF 66) [(.t 10), (.k (.z 1))])), (cMv 9 11), (cEx 12 9 0), (cEx 13 9 1), (cMv 5 12), (cMv 4 13)]) (.keep [4,5] (.seq (.seq (.reg false [(cMv 14 4), (cC 15 .neq 14 0)]) (.keep [4,5,15] (.cond (.t 15) (.seq (.reg false [(cMv 16 4), (cI 2 0), (cI 3 0), (cMv 4 16)]) .ret) .skip))) (.keep [5] (.seq (.reg false [(cI 6 0)]) (.keep [5,6] (.block 0 (.loop [5,6] none (.seq (.block 1 (.seq (.reg false [(cMv 20 5), (cMv 21 6), (cQ 22 [20,21] (.call (kF 78) [(.t 20), (.t 21)])), (cMv 19 22), (cEx 23 19 0), (cEx 24 19 1), (cMv 7 23), (cMv 8 24)]) (.keep [5,6,7,8] (.seq (.reg false [(cMv 25 8)]) (.keep [5,6,7,25] (.cond (.t 25) (.seq (.reg false [(cMv 26 6), (cMv 27 7), (cMv 2 26), (cMv 3 27), (cI 4 0)]) .ret) .skip)))))) (.keep [5,6] (.reg false [(cMv 17 6), (cC 18 .add 17 1), (cMv 6 18)])))))))))))))
def pu51 : List Nat := [1]
def rs51 : List RV := [.t 2, .t 3, .t 4]
theorem cc51 : CCx Try.prog Try.f51 pu51 rc51 := by unfold CCx; kernel_rfl
theorem cb51 : CBx Try.f51 := by unfold CBx; kernel_rfl
theorem cs51 : CSx Try.prog Try.f51 rs51 := by unfold CSx; kernel_rfl
theorem cn51 : 1 ≤ Try.f51.ntmps := by decide
def rc17 : RC := (.seq (.reg false [(cX 1 0), (cI 2 0), (cI 3 0)]) (.keep [1] (.seq (.reg false [(cLd 8 1 true 3), (cQ 9 [8] (.call (kF 51) [(.t 8)])), (cMv 7 9), (cEx 10 7 0), (cEx 11 7 1), (cEx 12 7 2), (cMv 4 10), (cMv 5 11), (cMv 6 12)]) (.keep [4,6] (.seq (.reg false [(cMv 13 4), (cMv 14 6), (cMv 2 13), (cMv 3 14)]) .ret)))))
def pu17 : List Nat := [1]
def rs17 : List RV := [.t 2, .t 3]
theorem cc17 : CCx Try.prog Try.f17 pu17 rc17 := by unfold CCx; kernel_rfl
theorem cb17 : CBx Try.f17 := by unfold CBx; kernel_rfl
theorem cs17 : CSx Try.prog Try.f17 rs17 := by unfold CSx; kernel_rfl
theorem cn17 : 1 ≤ Try.f17.ntmps := by decide
def rc32 : RC := (.seq (.reg false [(cX 1 0), (cI 2 0), (cI 3 0)]) (.keep [1] (.seq (.reg false [(cLd 8 1 true 3), (cQ 9 [8] (.call (kF 51) [(.t 8)])), (cMv 7 9), (cEx 10 7 0), (cEx 11 7 1), (cEx 12 7 2), (cMv 4 10), (cMv 5 11), (cMv 6 12)]) (.keep [5,6] (.seq (.reg false [(cMv 13 5), (cMv 14 6), (cMv 2 13), (cMv 3 14)]) .ret)))))
def pu32 : List Nat := [1]
def rs32 : List RV := [.t 2, .t 3]
theorem cc32 : CCx Try.prog Try.f32 pu32 rc32 := by unfold CCx; kernel_rfl
theorem cb32 : CBx Try.f32 := by unfold CBx; kernel_rfl
theorem cs32 : CSx Try.prog Try.f32 rs32 := by unfold CSx; kernel_rfl
theorem cn32 : 1 ≤ Try.f32.ntmps := by decide
end Go.C10
set_option linter.unusedSimpArgs false
set_option linter.unusedVariables false
namespace Go.C10
open Go.Fam Go.Proofs
variable {Γ : Gam}
def Qc7 (l : List (List Int)) (g u : Int) : List (List Int) := l.filter fun t => decide (atN t g = u)
def Qde (l : List (List Int)) (g : Int) : Bool := l.any fun t => decide (atN t g ≠ atN (l.headD []) g)
def askN : Nat → List (List Int) → Option Int
 | 0, l => if l.length = 1 then some (-1) else none
 | q + 1, l => if l.length = 1 then some (-1) else (ints 0 ((l.headD []).length - 1)).find? fun g => Qde l g && l.all fun t => (askN q (Qc7 l g (atN t g))).isSome
abbrev Grp := AM (Nat × List (List Int))
def encG (p : Nat × List (List Int)) : V := .rf (p.1 + 1) (p.2.length - 1) 0 p.2.length 1
def encP (p : Nat × List (List Int)) : V := .sl 1 (p.2.map eCan)
def bAt (m : Grp) (j : Nat) : Blk := match m.find? fun e => decide (e.2.1 = j) with
 | some e => .cells (e.2.2.length - 1) (e.2.2.map eCan).flatten
 | none => .hole
def blkN (m : Grp) (i : Nat) : List Blk := (Xj i).map (bAt m)
theorem Qcs (m : Grp) (i : Nat) : (blkN m i).length = i := by simp [blkN]
structure GInv (l : List (List Int)) (g : Int) (i : Nat) (m : Grp) : Prop where
 nd : (aks m).Nodup
 js : (m.map fun e => e.2.1).Nodup
 one : ∀ k ∈ aks m, ∃ u : Int, k = [u]
 is : ∀ u p, aget m [u] = some p → p.2 = Qc7 (l.take i) g u ∧ p.2 ≠ [] ∧ p.1 < i
 no : ∀ u, aget m [u] = none → Qc7 (l.take i) g u = []
theorem Qn4 {m : Grp} (hj : (m.map fun e => e.2.1).Nodup) {k : List Int} {p : Nat × List (List Int)} (h : (k, p) ∈ m) : bAt m p.1 = .cells (p.2.length - 1) (p.2.map eCan).flatten := by
 unfold bAt
 have : m.find? (fun e => decide (e.2.1 = p.1)) = some (k, p) := by
  induction m with
  | nil => cases h
  | cons e m ih =>
   rw [Qa, Z4] at hj
   rcases Z5.1 h with rfl | h
   ·simp
   ·have hne : e.2.1 ≠ p.1 := fun e1 => hj.1 (e1 ▸ Zv.2 ⟨(k, p), h, rfl⟩)
    rw [X4 (by simpa using hne)]
    exact ih hj.2 h
 rw [this]
theorem Qjk {α : Type} {p q : α → Bool} : ∀ {l : List α}, (∀ x ∈ l, p x = q x) → l.find? p = l.find? q
 | [], _ => rfl
 | x :: l, h => by
  simp only [List.find?_cons]
  rw [h x (by simp), Qjk (l := l) fun y hy => h y (by simp [hy])]
theorem Qvi {m : Grp} {j : Nat} (h : ∀ e ∈ m, e.2.1 ≠ j) : bAt m j = .hole := by
 unfold bAt
 rw [Jb.2 fun e he => by simpa using h e he]
theorem Qf8 {m : Grp} {i j : Nat} (h : j < i) : (blkN m i)[j]? = some (bAt m j) := by simp [blkN, h]
theorem Qfl {l : List (List Int)} {g u : Int} {t : List Int} : Qc7 (l ++ [t]) g u = Qc7 l g u ++ if atN t g = u then [t] else [] := by
 unfold Qc7
 rw [Ja]
 by_cases h : atN t g = u <;> simp [h]
theorem Qrn {l : List (List Int)} {g : Int} {i : Nat} {m : Grp} (h : GInv l g i m) {t : List Int} (ht : l[i]? = some t) (hg : aget m [atN t g] = none) :
  GInv l g (i + 1) (aput m [atN t g] (i, [t])) ∧ (blkN m i ++ [Blk.hole]).set i (.cells 0 [.sl 1 (t.map eI)]) = blkN (aput m [atN t g] (i, [t])) (i + 1) := by
 have hno := Ql1.1 hg
 have he : aput m [atN t g] (i, [t]) = m ++ [([atN t g], (i, [t]))] := by unfold aput; rw [if_neg hno]
 have hlt : ∀ e ∈ m, e.2.1 < i := by
  rintro ⟨k, p⟩ hm
  obtain ⟨j, hj⟩ := Zf hm
  have h1 := Qfw h.nd hj
  obtain ⟨u, rfl⟩ := h.one k (Qdo.2 (by rw [h1]; rfl))
  exact (h.is u p h1).2.2
 have hnj : i ∉ m.map fun e => e.2.1 := fun hi => by
  obtain ⟨e, he, e1⟩ := Zv.1 hi
  have := hlt e he
  omega
 refine ⟨⟨Ql2 h.nd _ _, ?_, ?_, ?_, ?_⟩, ?_⟩
 ·rw [he, Zu, Xv]
  refine ⟨h.js, by simp, fun a ha b hb => ?_⟩
  simp at hb
  subst hb
  rintro rfl
  exact hnj ha
 ·intro k hk
  rw [Qia, Qkj] at hk
  rcases hk with hk | rfl
  ·exact h.one k hk
  ·exact ⟨_, rfl⟩
 ·intro u p hp
  rw [Qhv] at hp
  rw [Qbf ht, Qfl]
  split at hp
  ·rename_i e
   cases hp
   have e2 : u = atN t g := by simpa using e
   subst e2
   rw [h.no _ hg, if_pos rfl]
   exact ⟨rfl, by simp, by simp⟩
  ·rename_i e
   obtain ⟨h1, h2, h3⟩ := h.is u p hp
   rw [if_neg (fun e1 => e (by rw [e1])), Qi]
   exact ⟨h1, h2, by omega⟩
 ·intro u hu
  rw [Qhv] at hu
  split at hu
  ·cases hu
  ·rename_i e
   rw [Qbf ht, Qfl, h.no u hu, if_neg (fun e1 => e (by rw [e1]))]
   rfl
 ·apply Xw
  intro j
  by_cases hj : j < i + 1
  ·rw [Qf8 hj]
   by_cases hji : j = i
   ·subst hji
    rw [Zq (by simp [Qcs])]
    have := Qn4 (m := aput m [atN t g] (j, [t])) (k := [atN t g]) (p := (j, [t])) (by
     rw [he, Zu, Xv]
     refine ⟨h.js, by simp, fun a ha b hb => ?_⟩
     simp at hb
     subst hb
     rintro rfl
     exact hnj ha) (by rw [he]; simp)
    rw [this]; rfl
   ·rw [Zw (by omega), Xb (by rw [Qcs]; omega), Qf8 (by omega)]
    unfold bAt
    rw [he, List.find?_append]
    cases hf : m.find? fun e => decide (e.2.1 = j) with
    | some e => simp
    | none => rw [X4 (by simp; omega)]; rfl
  ·rw [Zo (by simp [Qcs]; omega), Zo (by simp [Qcs]; omega)]
theorem Qro {l : List (List Int)} {g : Int} {i : Nat} {m : Grp} (h : GInv l g i m) {t : List Int} (ht : l[i]? = some t) {j : Nat} {ts : List (List Int)} (hg : aget m [atN t g] = some (j, ts)) :
  GInv l g (i + 1) (aput m [atN t g] (j, ts ++ [t])) ∧ j < i ∧ ts ≠ [] ∧ (blkN m i ++ [Blk.hole])[j]? = some (.cells (ts.length - 1) (ts.map eCan).flatten) ∧
   (blkN m i ++ [Blk.hole]).set j (.cells ts.length ((ts.map eCan).flatten ++ [.sl 1 (t.map eI)])) = blkN (aput m [atN t g] (j, ts ++ [t])) (i + 1) := by
 obtain ⟨h1, h2, h3⟩ := h.is _ _ hg
 simp only at h1 h2 h3
 have hyes : [atN t g] ∈ aks m := Qdo.2 (by rw [hg]; rfl)
 have he : aput m [atN t g] (j, ts ++ [t]) = m.map (fun e => if e.1 = [atN t g] then ([atN t g], (j, ts ++ [t])) else e) := by unfold aput; rw [if_pos hyes]
 have hmem := Qn3 hg
 have hjj : ∀ e ∈ m, e.2.1 = j → e = ([atN t g], (j, ts)) := by
  intro e he1 e2
  obtain ⟨a, ha, ha2⟩ := Zx.1 he1
  obtain ⟨b, hb, hb2⟩ := Zx.1 hmem
  by_cases hab : a = b
  ·subst hab; rw [← ha2, hb2]
  ·have := Zn.1 h.js
   rcases Xq hab with hlt | hlt
   ·have := this a b (by simpa using ha) (by simpa using hb) hlt
    simp [ha2, hb2, e2] at this
   ·have := this b a (by simpa using hb) (by simpa using ha) hlt
    simp [ha2, hb2, e2] at this
 have hmj : (m.map fun e => if e.1 = [atN t g] then ([atN t g], (j, ts ++ [t])) else e).map (fun e => e.2.1) = m.map fun e => e.2.1 := by
  rw [List.map_map]
  apply List.map_congr_left
  rintro ⟨k, p⟩ hk
  simp only [Function.comp]
  by_cases e : k = [atN t g]
  ·rw [if_pos e]
   obtain ⟨a, ha⟩ := Zf hk
   have := Qfw h.nd ha
   rw [e, hg] at this
   cases this
   rfl
  ·rw [if_neg e]
 refine ⟨⟨Ql2 h.nd _ _, by rw [he, hmj]; exact h.js, ?_, ?_, ?_⟩, h3, h2, ?_, ?_⟩
 ·intro k hk
  rw [Qia, Qkj] at hk
  rcases hk with hk | rfl
  ·exact h.one k hk
  ·exact ⟨_, rfl⟩
 ·intro u p hp
  rw [Qhv] at hp
  rw [Qbf ht, Qfl]
  split at hp
  ·rename_i e
   cases hp
   have e2 : u = atN t g := by simpa using e
   subst e2
   rw [if_pos rfl, ← h1]
   exact ⟨rfl, by simp, by simp; omega⟩
  ·rename_i e
   obtain ⟨k1, k2, k3⟩ := h.is u p hp
   rw [if_neg (fun e1 => e (by rw [e1])), Qi]
   exact ⟨k1, k2, by omega⟩
 ·intro u hu
  rw [Qhv] at hu
  split at hu
  ·cases hu
  ·rename_i e
   rw [Qbf ht, Qfl, h.no u hu, if_neg (fun e1 => e (by rw [e1]))]
   rfl
 ·rw [Xb (by rw [Qcs]; omega), Qf8 h3, Qn4 h.js hmem]
 ·apply Xw
  intro k
  by_cases hk : k < i + 1
  ·rw [Qf8 hk]
   by_cases hkj : k = j
   ·subst hkj
    rw [Zq (by simp [Qcs]; omega)]
    have := Qn4 (m := aput m [atN t g] (k, ts ++ [t])) (k := [atN t g]) (p := (k, ts ++ [t])) (by rw [he, hmj]; exact h.js) (by
     rw [he, Zv]
     exact ⟨_, hmem, by simp⟩)
    rw [this]
    simp [eCan]
   ·rw [Zw (by omega)]
    have hb : bAt (aput m [atN t g] (j, ts ++ [t])) k = bAt m k := by
     unfold bAt
     rw [he, List.find?_map]
     have : (m.find? ((fun e => decide (e.2.1 = k)) ∘ fun e => if e.1 = [atN t g] then ([atN t g], (j, ts ++ [t])) else e)) = m.find? fun e => decide (e.2.1 = k) := by
      apply Qjk
      rintro ⟨k2, p⟩ hk2
      by_cases e : k2 = [atN t g]
      ·obtain ⟨a, ha⟩ := Zf hk2
       have := Qfw h.nd ha
       rw [e, hg] at this
       have h9 : (j, ts) = p := Jf.inj this
       simp [Function.comp, e, ← h9]
      ·simp [Function.comp, e]
     rw [this]
     cases hf : m.find? fun e => decide (e.2.1 = k) with
     | none => rfl
     | some e =>
      have he2 := List.find?_some hf
      rw [decide_eq_true_eq] at he2
      have hem := List.mem_of_find?_eq_some hf
      by_cases e1 : e.1 = [atN t g]
      ·obtain ⟨a, ha⟩ := Zf hem
       have := Qfw h.nd (show m[a]? = some (e.1, e.2) from ha)
       rw [e1, hg] at this
       have h9 : (j, ts) = e.2 := Jf.inj this
       rw [← h9] at he2
       exact absurd he2.symm hkj
      ·simp [e1]
    rw [hb]
    by_cases hki : k < i
    ·rw [Xb (by rw [Qcs]; omega), Qf8 hki]
    ·have : k = i := by omega
     subst this
     rw [Xr (by rw [Qcs]; omega), Qcs, Nat.sub_self]
     rw [Qvi]
     ·rfl
     ·rintro ⟨k2, p⟩ hk2 e
      obtain ⟨a, ha⟩ := Zf hk2
      have h5 := Qfw h.nd ha
      obtain ⟨u, rfl⟩ := h.one k2 (Qdo.2 (by rw [h5]; rfl))
      have := (h.is u p h5).2.2
      simp only at e
      omega
  ·rw [Zo (by simp [Qcs]; omega), Zo (by simp [Qcs]; omega)]
theorem Qtb {l : List (List Int)} {g : Int} {i : Nat} {m : Grp} (h : GInv l g i m) : cutL (Blk.map false (aks m) (avs encG m) :: blkN m i) 1 (avs encG m) = avs encP m := by
 have key : ∀ e ∈ m, cutV (Blk.map false (aks m) (avs encG m) :: blkN m i) 1 (encG e.2) = encP e.2 := by
  rintro ⟨k, j, ts⟩ he
  obtain ⟨a, ha⟩ := Zf he
  have h1 := Qfw h.nd ha
  obtain ⟨u, rfl⟩ := h.one k (Qdo.2 (by rw [h1]; rfl))
  obtain ⟨_, h2, h3⟩ := h.is u _ h1
  have hb : (blkN m i)[j]? = some (.cells (ts.length - 1) (ts.map eCan).flatten) := by rw [Qf8 h3, Qn4 h.js he]
  have hup := Qe7 1 _ (Qce ts)
  have hmap : ((blkN m i).map (upB 1))[j]? = some (.cells (ts.length - 1) (ts.map eCan).flatten) := by
   rw [Qz, hb, Q5, upB, hup]
  have h0 : ¬ j + 1 < 1 := by omega
  have hd : (Blk.map false (aks m) (avs encG m) :: blkN m i).drop 1 = blkN m i := rfl
  simp only [encG, encP]
  simp only [h0, hpF, hmap, Qhr, Ze, Zk, Qh1, vw_C, cutV, ↓reduceIte, Qa, Qc, Qw, Zi, Qk, Qx, Qy, Qq, Qf, Qe8, Qh, and_self]
 have gen : ∀ m' : Grp, (∀ e ∈ m', e ∈ m) → cutL (Blk.map false (aks m) (avs encG m) :: blkN m i) 1 (avs encG m') = avs encP m' := by
  intro m'
  induction m' with
  | nil => intro _; rfl
  | cons e m' ih =>
   intro hs
   show cutL _ 1 (encG e.2 :: avs encG m') = encP e.2 :: avs encP m'
   rw [cutL, key e (hs e (by simp)), ih fun x hx => hs x (by simp [hx])]
 exact gen m fun _ h => h
structure OkA (l : List (List Int)) (q : Nat) : Prop where
 ne : l ≠ []
 len : l.length ≤ 1000000
 q : q ≤ 100
 at_ : ∀ t ∈ l, t.length = (l.headD []).length
 n : (l.headD []).length ≤ 100
def eA78 (a : List (List Int) × Nat) : List V := [.sl 1 (a.1.map eCan), .i a.2]
def dA78 : List V → List (List Int) × Nat | [.sl _ l, .i q] => (l.map dCan, q.toNat) | _ => ([], 0)
theorem Qsl (a : List (List Int) × Nat) : dA78 (eA78 a) = a := by simp [dA78, eA78, Function.comp_def, Qlb]
def askV (o : Option Int) : V := .tp [.i (o.getD (-1)), .b o.isSome]
noncomputable def G78 (k : Nat) : Gam := HF6.ext 78 (fnG eA78 dA78 (fun a => OkA a.1 a.2 ∧ a.2 = k) (fun a => askN a.2 a.1) askV)
theorem q78 (k : Nat) (l : List (List Int)) (q : Nat) : G78 k 78 [.sl 1 (l.map eCan), .i q] = (OkA l q ∧ q = k, askV (askN q l)) :=
 (show G78 k 78 _ = fnG eA78 dA78 (fun a => OkA a.1 a.2 ∧ a.2 = k) (fun a => askN a.2 a.1) askV (eA78 (l, q)) from rfl).trans (Qb5 _ (Qsl _))
theorem W78z (l : List (List Int)) (h : OkA l 0) : Qal Try.prog 78 [.sl 1 (l.map eCan), .i 0] (askV (askN 0 l)) := by
 refine Qak Qtx hmix Try.func78 cb78 cc78 cs78 cn78 ?_
 by_cases h1 : (l.length : Int) = 1
 ·have e : askN 0 l = some (-1) := by unfold askN; rw [if_pos (by omega)]
  simp only [rc78, rs78, h1, e, askV, Xs, Qa9, Qa8, Qac, Qah, Qa6, Qo5, noGo, Qae, Qa7, Qa2, Fam.step, Qaf, evO, opv, qv, binV, ldV, lenV, Qa1, Qa0, Qa3, ↓reduceIte, Nat.reduceEqDiff, Int.reduceNeg, Qa, Qc, Qv, Qj, endQ, rvs, rv1, resV, vw_i, vw_b, Qd5, zipA, Qh, decide_true, and_self, reduceCtorEq, Qn]
 ·have e : askN 0 l = none := by unfold askN; rw [if_neg (by omega)]
  simp only [rc78, rs78, h1, e, askV, Jc, Qag, Qa9, Qa8, Qac, Qah, Qa6, Qo5, noGo, Qae, Qa7, Qa2, Fam.step, Qaf, evO, opv, qv, binV, ldV, lenV, Qa1, Qa0, Qa3, ↓reduceIte, Nat.reduceEqDiff, Int.reduceNeg, Qa, Qc, Qv, Z2, endQ, rvs, rv1, resV, vw_i, vw_b, Qd5, zipA, Qh, Qb, decide_true, decide_false, and_self, reduceCtorEq, Qn]
def Qim (q : Nat) (l : List (List Int)) (g : Int) : Bool := Qde l g && l.all fun t => (askN q (Qc7 l g (atN t g))).isSome
theorem Qtr {l : List (List Int)} {g : Int} {m : Grp} (h : GInv l g l.length m) (hne : l ≠ []) : (aks m).length = 1 ↔ Qde l g = false := by
 have hk : ∀ t ∈ l, ∃ p, aget m [atN t g] = some p := fun t ht => by
  cases hg : aget m [atN t g] with
  | some p => exact ⟨p, rfl⟩
  | none =>
   have h1 := h.no _ hg
   rw [Z1] at h1
   have : t ∈ Qc7 l g (atN t g) := Zm.2 ⟨ht, by simp⟩
   rw [h1] at this; cases this
 have hl0 : l.headD [] ∈ l := by cases l with | nil => exact absurd rfl hne | cons a l => simp
 constructor
 ·intro h1
  obtain ⟨k, hk1⟩ := List.length_eq_one_iff.1 h1
  unfold Qde
  rw [Xu]
  intro t ht
  obtain ⟨p, hp⟩ := hk t ht
  obtain ⟨p0, hp0⟩ := hk _ hl0
  have a1 := Qdo.2 (show (aget m [atN t g]).isSome = true by rw [hp]; rfl)
  have a2 := Qdo.2 (show (aget m [atN (l.headD []) g]).isSome = true by rw [hp0]; rfl)
  rw [hk1, Zt] at a1 a2
  rw [← a2, List.cons.injEq] at a1
  simp only [a1.1, ne_eq, not_true_eq_false, decide_false, Qb, not_false_eq_true]
 ·intro h1
  unfold Qde at h1
  rw [Xu] at h1
  obtain ⟨p0, hp0⟩ := hk _ hl0
  have a2 := Qdo.2 (show (aget m [atN (l.headD []) g]).isSome = true by rw [hp0]; rfl)
  have hall : ∀ k ∈ aks m, k = [atN (l.headD []) g] := by
   intro k hk2
   obtain ⟨u, rfl⟩ := h.one k hk2
   have := Qdo.1 hk2
   obtain ⟨p, hp⟩ := Option.isSome_iff_exists.1 this
   obtain ⟨b1, b2, _⟩ := h.is u p hp
   rw [Z1] at b1
   obtain ⟨t, ht⟩ := Xa _ b2
   rw [b1] at ht
   obtain ⟨c1, c2⟩ := Zm.1 ht
   rw [decide_eq_true_eq] at c2
   have := h1 t c1
   rw [decide_eq_true_eq, Classical.not_not] at this
   rw [← c2, this]
  cases hm : aks m with
  | nil => rw [hm] at a2; cases a2
  | cons a t =>
   cases ht : t with
   | nil => rfl
   | cons b t2 =>
    have e1 := hall a (by rw [hm]; simp)
    have e2 := hall b (by rw [hm, ht]; simp)
    have := h.nd
    rw [hm, ht, e1, e2] at this
    simp at this
theorem Qtj {α : Type} {p : α → Bool} {l : List α} {i : Nat} {x : α} (hx : l[i]? = some x) (hp : p x = true) (h : ∀ j y, j < i → l[j]? = some y → p y = false) : l.find? p = some x := by
 rw [List.find?_eq_some_iff_getElem]
 obtain ⟨hl, he⟩ := List.getElem?_eq_some_iff.1 hx
 refine ⟨hp, i, hl, he, fun j hj => ?_⟩
 have := h j l[j] hj (Ql (by omega))
 simp [this]
set_option maxHeartbeats 4000000 in
theorem W78s (q : Nat) (hok : GOk Try.prog (G78 q)) (l : List (List Int)) (h : OkA l (q + 1)) : Qal Try.prog 78 [.sl 1 (l.map eCan), .i ((q + 1 : Nat) : Int)] (askV (askN (q + 1) l)) := by
 refine Qak hok hmix Try.func78 cb78 cc78 cs78 cn78 ?_
 obtain ⟨hne, hl, hq, hat, hn⟩ := h
 by_cases h1 : (l.length : Int) = 1
 ·have e : askN (q + 1) l = some (-1) := by unfold askN; rw [if_pos (by omega)]
  simp only [rc78, rs78, h1, e, askV, Xs, Qa9, Qa8, Qac, Qah, Qa6, Qo5, noGo, Qae, Qa7, Qa2, Fam.step, Qaf, evO, opv, qv, binV, ldV, lenV, Qa1, Qa0, Qa3, ↓reduceIte, Nat.reduceEqDiff, Int.reduceNeg, Qa, Qc, Qv, Qj, endQ, rvs, rv1, resV, vw_i, vw_b, Qd5, zipA, Qh, decide_true, and_self, reduceCtorEq, Qn]
 ·have hq0 : ¬ ((q + 1 : Nat) : Int) = 0 := by omega
  obtain ⟨t0, hl0⟩ : ∃ t0, t0 = l.headD [] := ⟨_, rfl⟩
  have hg0 : l[0]? = some t0 := by cases l with | nil => exact absurd rfl hne | cons a l => rw [hl0]; rfl
  have hlp : (0 : Int) < l.length := by have := Xp.2 hne; omega
  have ec : eCan t0 = [.sl 1 (t0.map eI)] := rfl
  have hnn : t0.length ≤ 100 := by rw [hl0]; exact hn
  have easkn : askN (q + 1) l = (ints 0 (t0.length - 1)).find? (Qim q l) := by
   unfold askN Qim
   rw [if_neg (by omega), hl0]
  simp only [rc78, rs78, h1, hq0, hlp, hg0, easkn, Qag, Qa9, Qa8, Qac, Qad, Qa6, Qo5, Qae, Qa7, Qa2, Fam.step, Qaf, evO, opv, qv, binV, ldV, iadV, lenV, Qa1, Qa0, Qa3, ↓reduceIte, Nat.reduceEqDiff, Nat.reduceLeDiff, Int.reduceNeg, Z8, Int.reduceLE, Qa, Qc, Qg, Qe, Zb, Qj, zipA, Qh, Qb, decide_false, true_and, and_self, reduceCtorEq, Q5, Qn, Qr, Qz, eCan]
  refine Qbs t0.length (fun i => ⟨lkp [(0, .sl 1 (l.map eCan)), (1, .i ((q + 1 : Nat) : Int)), (22, .i t0.length), (23, .i i)], []⟩) (fun i => ∀ j x, j < i → (ints 0 (t0.length - 1))[j]? = some x → Qim q l x = false) ?_ ?_ ?_ ?_
  ·simp only [Zj, cutH, kp, cutV, Qa0, Qa3, ↓reduceIte, Nat.reduceEqDiff, Qa, Qc, Qu, reduceCtorEq]
  ·intro j x hj; omega
  ·intro i hi hc
   have hlt : (i : Int) < t0.length := by omega
   have hx : (ints 0 (t0.length - 1))[i]? = some (i : Int) := by rw [Qk5 (by omega)]; simp
   have hi1 : inI ((i : Int) + 1) := by unfold inI; omega
   have a0 : aks ([] : Grp) = [] := rfl
   have a1 : avs encG ([] : Grp) = [] := rfl
   simp only [hlt, Qag, Qa9, Qa8, Qac, Qad, Qa6, cutH, Qae, Qa7, Qa2, Fam.step, Qaf, Qcf, Qb6, nv, evO, opv, qv, binV, lenV, kp, Qa1, Qa0, Qa3, ↓reduceIte, Nat.reduceEqDiff, Int.reduceNeg, Qa, Qc, Qe, Qx, Qq, decide_true, true_and, and_self, reduceCtorEq, Qn]
   refine Qqw l.length (fun k m => ⟨lkp [(0, .sl 1 (l.map eCan)), (1, .i ((q + 1 : Nat) : Int)), (6, .i i), (7, .mp 0 0), (22, .i t0.length), (23, .i i), (27, .sl 1 (l.map eCan)), (28, .i l.length), (29, .i k)], Blk.map false (aks m) (avs encG m) :: blkN m k⟩) (fun k m => GInv l i k m) [] ?_ ?_ ?_ ?_
   ·simp only [Zj, a0, a1, blkN, List.range_zero, kp, Qa0, Qa3, ↓reduceIte, Nat.reduceEqDiff, Qa, Qc, reduceCtorEq]
   ·exact ⟨by simp [aks], by simp, by simp [aks], fun u p hp => by simp [aget] at hp, fun u _ => by simp [Qc7]⟩
   ·intro k m hk hM
    obtain ⟨t, ht⟩ : ∃ x, l[k]? = some x := ⟨_, Ql hk⟩
    have hkl : (k : Int) < l.length := by omega
    have htl := hat t (Zp ht)
    rw [← hl0] at htl
    obtain ⟨u, hu⟩ : ∃ u, t[i]? = some u := ⟨_, Ql (by omega)⟩
    have hatn : atN t i = u := by unfold atN; rw [Qm, hu]; rfl
    have hit : (i : Int) < t.length := by omega
    have ect : eCan t = [.sl 1 (t.map eI)] := rfl
    have hk1 : inI ((k : Int) + 1) := by unfold inI; omega
    have hget := Qt8 encG m [u]
    have hbl := Qcs m k
    cases hg : aget m [u] with
    | none =>
     rw [hg, Xo] at hget
     have hno := Ql1.1 hg
     rw [← hatn] at hg
     obtain ⟨n1, n2⟩ := Qrn hM ht hg
     rw [hatn] at n1 n2
     have hh : (blkN m k ++ [Blk.hole])[k]? = some .hole := by rw [Xr (by omega), hbl, Nat.sub_self]; rfl
     have hv : Qgo (aks m) (avs encG m) [u] (.rf (k + 1) 0 0 1 1) = avs encG (aput m [u] (k, [t])) := Qp9 hM.nd encG [u] (k, [t])
     have hkk : putK (aks m) [u] = aks (aput m [u] (k, [t])) := (Qia m [u] (k, [t])).symm
     have hf1 : Qax 1 := by unfold Qax; omega
     simp only [hkl, ht, hu, hit, hget, hbl, hk1, hh, hv, hkk, hf1, Zc, Qt, n2, Q2, Q3, Qag, Qa9, Qbo, Qa8, Qac, Qad, Qa6, Qck, Qba, optL, lkpV, keyL, Qed, Qae, Qaj, Qa7, Qa2, Fam.step, Qaf, Qb6, runX, eff, Qb8, fpR, fpQ, fpV, Qc3, hits, nv, sv, Qc8, evO, opv, qv, binV, ldV, iadV, Qas, putAt, Qb7, Qb4, V.cells, Qav, Qbm, Qab, Qa5, kp, Qa1, Qbn, Qa0, Qa3, ↓reduceIte, Nat.reduceEqDiff, Nat.reduceMul, Nat.reduceLeDiff, Int.reduceNeg, Qa, Qc, Q9, Zd, Qg, Qe, Qw, Zl, Qk, Qx, Qu, Zb, Qy, Qq, Qi, Qd, Qf, Qv, Qj, Z2, Q4, Zg, Q1, Q6, Xk, Xf, Qam, Q7, Qh, X3, Qs, Za, Zr, Z0, Qo, Xx, Q8, Zh, Qb, decide_true, true_and, and_self, false_implies, reduceCtorEq, not_false_eq_true, ne_eq, Q5, Xy, X5, Xc, Xg, Qn, Qm, Qr, Qz, eI, eCan]
     exact ⟨_, n1, rfl⟩
    | some p =>
     obtain ⟨j, ts⟩ := p
     rw [hg, Q5] at hget
     have hyes := Qdo.2 (show (aget m [u]).isSome = true by rw [hg]; rfl)
     rw [← hatn] at hg
     obtain ⟨n1, n2, n3, n4, n5⟩ := Qro hM ht hg
     rw [hatn] at n1 n5
     have e1 : ts.length - 1 + 1 = ts.length := by have := Xp.2 n3; omega
     have htsl : ts.length ≤ l.length := by
      obtain ⟨b1, _, _⟩ := hM.is _ _ hg
      simp only at b1
      rw [b1]
      exact Xd (Xh _ _) (by rw [X0]; omega)
     have hf1 : Qax (ts.length + 1) := by unfold Qax; omega
     have hv : Qgo (aks m) (avs encG m) [u] (.rf (j + 1) ts.length 0 (ts.length + 1) 1) = avs encG (aput m [u] (j, ts ++ [t])) := by
      have := Qp9 hM.nd encG [u] (j, ts ++ [t])
      simpa [encG] using this
     have hkk : putK (aks m) [u] = aks (aput m [u] (j, ts ++ [t])) := (Qia m [u] (j, ts ++ [t])).symm
     simp only [hkl, ht, hu, hit, hget, hk1, encG, n4, e1, Qhr, Ze, hf1, hv, hkk, Zc, Qt, n5, Q2, Q3, Qag, Qa9, Qbo, Qa8, Qac, Qad, Qa6, Qck, Qba, optL, lkpV, keyL, Qed, Qae, Qaj, Qa7, Qa2, Fam.step, Qaf, Qb6, runX, eff, Qb8, fpR, fpQ, fpV, Qc3, hits, nv, sv, Qc8, evO, opv, qv, binV, ldV, iadV, Qas, putAt, Qb7, Qb4, V.cells, Qav, Qbm, Qab, Qa5, kp, Qa1, Qbn, Qa0, Qa3, ↓reduceIte, Nat.reduceEqDiff, Nat.reduceLeDiff, Int.reduceNeg, Qa, Qc, Q9, Zd, Qg, Qe, Qw, Zl, Qk, Qx, Qu, Zb, Qy, Qq, Qi, Qd, Qf, Qv, Qj, Z2, Q4, Zg, Q1, Q6, Xk, Xf, Qam, Q7, Qh, Qs, Za, Zr, Z0, Qo, Xx, Q8, Zh, Qb, decide_true, true_and, and_self, false_implies, reduceCtorEq, not_false_eq_true, ne_eq, Q5, Xy, X5, Xc, Xg, Qn, Qm, Qr, Qz, eI, eCan]
     exact ⟨_, n1, rfl⟩
   ·intro m hM
    have hkl : ¬ ((l.length : Int) < l.length) := by omega
    have hcut := Qtb hM
    have hmo := Qtr hM hne
    have hnext : Qim q l i = false → ∀ (j : Nat) (x : Int), j < i + 1 → (ints 0 (t0.length - 1))[j]? = some x → Qim q l x = false := fun he j x hj hjx => by
     by_cases e : j < i
     ·exact hc j x e hjx
     ·have : j = i := by omega
      subst this
      rw [hx] at hjx; cases hjx; exact he
    by_cases hmu : Qde l i = true
    ·have hm1 : ¬ ((aks m).length : Int) = 1 := by
      have : ¬ (aks m).length = 1 := fun e => by rw [hmo, hmu] at e; cases e
      omega
     simp only [hkl, hcut, hm1, Qag, Qa9, Qa8, Qac, Qad, Qb1, Qa6, Qcb, ↓Qbq, cutH, Qqa, Qae, Qaj, Qa7, Qa2, Fam.step, Qaf, Qcf, Qb6, nv, evO, opv, qv, binV, cutV, cutB, Qa1, Qa0, Qa3, ↓reduceIte, Nat.reduceEqDiff, Nat.reduceLT, Int.reduceNeg, Qa, Qc, Qg, Qe, Qk, Qx, Qy, Qq, Qd, Qh, Qb, decide_false, true_and, and_self, reduceCtorEq]
     refine Qqy (aks m).length (fun pre (_ : Unit) => ⟨lkp [(0, .sl 1 (l.map eCan)), (1, .i ((q + 1 : Nat) : Int)), (6, .i i), (22, .i t0.length), (23, .i i), (52, .it 1 0)], [.map false (aks m) (avs encP m), .iter 0 (aks m).length (Qja (aks m).length pre) pre.getLast?]⟩)
      (fun pre _ => ∀ z ∈ pre, ∀ key p, m[z]? = some (key, p) → (askN q p.2).isSome = true) () ?_ ?_ ?_
     ·simp only [Qq6, List.getLast?_nil, kp, Qa0, Qa3, ↓reduceIte, Nat.reduceEqDiff, Qa, Qc, reduceCtorEq]
     ·intro z hz; cases hz
     ·rintro pre _ hnd hlt2 hC2
      simp only [Qag, Qa9, Qa8, Qac, Qj9, Qad, Qb1, Qah, Qa6, Qcb, Qx6, noGo, ↓Qbq, cutH, entV, keyV, Qae, Qaj, Qa7, Qa2, Fam.step, Qaf, evO, opv, qv, binV, ldV, Qap, Qab, Qa5, kp, cutV, Qa1, Qa0, Qa3, ↓reduceIte, Nat.reduceEqDiff, Nat.reduceAdd, Nat.reduceLT, Int.reduceNeg, Qa, Qc, Qg, Qe, Qx, Qi, Qd, Qf, Qj, Q4, Zg, endQ, rvs, rv1, resV, vw_i, vw_b, Qd5, Qh, Qo, Qb, true_and, and_self, reduceCtorEq, Qr, Xi]
      refine ⟨fun hnil => ?_, fun z hz => ?_⟩
      ·have hall : ∀ z, z < (aks m).length → z ∈ pre := fun z hz => Classical.byContradiction fun hn => by
        have := Qiq.2 ⟨hz, hn⟩
        rw [hnil] at this; cases this
       have hgood : Qim q l i = true := by
        unfold Qim
        rw [hmu, Zr, Z3]
        intro t ht
        cases hg : aget m [atN t i] with
        | none =>
         have h1 := hM.no _ hg
         rw [Z1] at h1
         have : t ∈ Qc7 l i (atN t i) := Zm.2 ⟨ht, by simp⟩
         rw [h1] at this; cases this
        | some p =>
         obtain ⟨b1, _, _⟩ := hM.is _ _ hg
         rw [Z1] at b1
         obtain ⟨z, hz⟩ := Zf (Qn3 hg)
         have := hC2 z (hall z (by have := Qan hz; simpa [aks] using this)) _ _ hz
         rw [b1] at this
         exact this
       have hf : (ints 0 (t0.length - 1)).find? (Qim q l) = some (i : Int) := Qtj hx hgood fun j y hj hy => hc j y hj hy
       simp only [hf, askV, Xs, Int.reduceNeg, Qj]
      ·obtain ⟨hqn, hqp⟩ := Qiq.1 hz
       obtain ⟨k, p, hk0, hk1, hk2⟩ := Qvh hqn
       have hag := Qfw hM.nd hk0
       obtain ⟨u, rfl⟩ := hM.one k (Zp hk1)
       obtain ⟨b1, b2, _⟩ := hM.is u p hag
       rw [Z1] at b1
       have hk2' := hk2 encP
       have g1 := q78 q p.2 q
       have hsub : ∀ t ∈ p.2, t ∈ l := fun t ht => by rw [b1] at ht; exact (Zm.1 ht).1
       have hOk : OkA p.2 q := by
        have hd : p.2.headD [] ∈ l := hsub _ (by cases hp : p.2 with | nil => exact absurd hp b2 | cons a b => simp)
        refine ⟨b2, ?_, by omega, fun t ht => ?_, ?_⟩
        ·rw [b1]; exact Xd (Xh _ _) hl
        ·rw [hat t (hsub t ht), hat _ hd]
        ·rw [hat _ hd]; exact hn
       have e1 : ((q + 1 : Nat) : Int) - 1 = q := by omega
       have i2 : inI (q : Int) := by unfold inI; omega
       cases hs : (askN q p.2).isSome with
       | false =>
        simp only [hk2', Qip hz, encP, g1, hOk, i2, askV, hs, hi1, Q2, Q3, Qab, flat, Qcx, Nat.reduceAdd, Nat.reduceLT, Int.reduceNeg, Int.add_sub_cancel, Qg, Qe, Qd, Qf, Qj, Qam, Qh, Qs, Zh, Qb, Jd, true_and, and_true, and_self, forall_const, false_implies, implies_true]
        refine hnext ?_
        ·unfold Qim
         rw [Bool.and_eq_false_iff]; right
         rw [List.all_eq_false]
         obtain ⟨t, ht⟩ := Xa _ b2
         refine ⟨t, hsub t ht, ?_⟩
         rw [b1] at ht
         have := (Zm.1 ht).2
         rw [decide_eq_true_eq] at this
         rw [this, ← b1, hs]; simp
       | true =>
        simp only [hk2', Qip hz, encP, g1, hOk, e1, i2, askV, hs, Qab, flat, Qcx, Nat.reduceAdd, Nat.reduceLT, Int.reduceNeg, Qg, Qe, Qd, Qf, Qj, Qam, Qh, Qs, Q8, Qb, true_and, and_self, forall_const, false_implies, implies_true]
        refine ⟨z, (), hz, fun z' hz' key p' hp' => ?_, ?_⟩
        ·rcases Xn.1 hz' with h2 | h2
         ·exact hC2 z' h2 key p' hp'
         ·rw [Zt] at h2
          subst h2
          rw [hk0] at hp'
          cases hp'
          exact hs
        ·simp only [List.getLast?_concat]
    ·have hmu' : Qde l i = false := by simpa using hmu
     have hm1 : ((aks m).length : Int) = 1 := by have := hmo.2 hmu'; omega
     simp only [hkl, hcut, hm1, hi1, Q2, Q3, Qa9, Qa8, Qac, Qb1, Qa6, Qcb, ↓Qbq, cutH, Qqa, Qae, Qaj, Qa7, Qa2, Fam.step, Qaf, evO, opv, qv, binV, cutV, cutB, Qa1, Qa0, Qa3, ↓reduceIte, Nat.reduceEqDiff, Nat.reduceLT, Int.reduceNeg, Qa, Qc, Qk, Qx, Qd, Qb, decide_true, decide_false, true_and, and_true, reduceCtorEq]
     exact hnext (by unfold Qim; rw [hmu']; rfl)
  ·intro hc
   have hlt : ¬ ((t0.length : Int) < t0.length) := by omega
   have hf : (ints 0 (t0.length - 1)).find? (Qim q l) = none := by
    rw [Jb]
    intro x hx
    obtain ⟨j, hj⟩ := Zf hx
    have hjl := Qan hj
    rw [Qec] at hjl
    rw [hc j x (by omega) hj]; simp
   simp only [hlt, hf, askV, Jc, Qa9, Qa8, Qac, Qb1, Qah, Qa6, noGo, Qae, Qaj, Qa7, Qa2, Fam.step, Qaf, evO, opv, qv, binV, ldV, Qa1, Qa0, Qa3, ↓reduceIte, Nat.reduceEqDiff, Int.reduceNeg, Qa, Qc, Qv, Z2, endQ, rvs, rv1, resV, vw_i, vw_b, Qd5, Qb, decide_false, and_self, reduceCtorEq]
theorem W78 : ∀ (q : Nat) (l : List (List Int)), OkA l q → Qal Try.prog 78 [.sl 1 (l.map eCan), .i q] (askV (askN q l)) := by
 intro q
 induction q with
 | zero => intro l h; exact W78z l h
 | succ q ih =>
  intro l h
  have hok : GOk Try.prog (G78 q) := Qtx.ext (f := 78) (fun a w => Try.call78 a w) (Qb9 (e := eA78) (d := dA78) (ok := fun a => OkA a.1 a.2 ∧ a.2 = q) (g := fun a => askN a.2 a.1) (eb := askV) fun a h => by
   obtain ⟨l, q'⟩ := a
   obtain ⟨h1, h2⟩ := h
   simp only at h2
   subst h2
   exact ih l h1)
  exact W78s q hok l h
noncomputable def HG1 : Gam := HF6.ext 78 (fnG eA78 dA78 (fun a => OkA a.1 a.2) (fun a => askN a.2 a.1) askV)
theorem Qwl : GOk Try.prog HG1 := Qtx.ext (f := 78) (fun a w => Try.call78 a w) (Qb9 (e := eA78) (d := dA78) (ok := fun a => OkA a.1 a.2) (g := fun a => askN a.2 a.1) (eb := askV) fun a h => W78 a.2 a.1 h)
theorem h78 (l : List (List Int)) (q : Nat) : HG1 78 [.sl 1 (l.map eCan), .i q] = (OkA l q, askV (askN q l)) :=
 (show HG1 78 _ = fnG eA78 dA78 (fun a => OkA a.1 a.2) (fun a => askN a.2 a.1) askV (eA78 (l, q)) from rfl).trans (Qb5 _ (Qsl _))
end Go.C10
set_option linter.unusedSimpArgs false
set_option linter.unusedVariables false
namespace Go.C10
open Go.Fam Go.Proofs
variable {Γ : Gam}
def canB (q : Nat) (l : List (List Int)) : Bool := (askN q l).isSome
theorem Qer {q : Nat} {l : List (List Int)} (h : l.length = 1) : canB q l = true := by
 unfold canB
 cases q with
 | zero => unfold askN; rw [if_pos h]; rfl
 | succ q => unfold askN; rw [if_pos h]; rfl
theorem Qhw {q : Nat} {l : List (List Int)} (h : ¬ l.length = 1) : canB (q + 1) l = (ints 0 ((l.headD []).length - 1)).any fun g => Qde l g && l.all fun t => canB q (Qc7 l g (atN t g)) := by
 unfold canB
 rw [askN, if_neg h, Bool.eq_iff_iff, List.find?_isSome, Xl]
theorem Qhx {l : List (List Int)} : canB 0 l = true ↔ l.length = 1 := by
 unfold canB askN
 by_cases h : l.length = 1
 ·rw [if_pos h]; simp [h]
 ·rw [if_neg h]; simp [h]
theorem Qn5 : ∀ {q : Nat} {l : List (List Int)}, canB q l = true → canB (q + 1) l = true
 | 0, l, h => Qer (Qhx.1 h)
 | q + 1, l, h => by
  by_cases h1 : l.length = 1
  ·exact Qer h1
  ·rw [Qhw h1, Xl] at h ⊢
   obtain ⟨g, hg, h2⟩ := h
   refine ⟨g, hg, ?_⟩
   rw [Zs, Z3] at h2 ⊢
   exact ⟨h2.1, fun t ht => Qn5 (h2.2 t ht)⟩
structure Taks (n : Nat) (l : List (List Int)) : Prop where
 nd : l.Nodup
 tak : ∀ t ∈ l, IsTak n t
theorem Taks.where_ {n : Nat} {l : List (List Int)} (h : Taks n l) (g u : Int) : Taks n (Qc7 l g u) :=
 ⟨h.nd.sublist X7, fun t ht => h.tak t (Zm.1 ht).1⟩
theorem Taks.head {n : Nat} {l : List (List Int)} (h : Taks n l) (hne : l ≠ []) : (l.headD []).length = n := by
 cases l with
 | nil => exact absurd rfl hne
 | cons a l => have := (h.tak a (by simp)).len; simpa using this
theorem Qdc {l : List (List Int)} {g u : Int} {t : List Int} : t ∈ Qc7 l g u ↔ t ∈ l ∧ atN t g = u := by
 unfold Qc7
 rw [Zm, decide_eq_true_eq]
theorem Qgm {l : List (List Int)} {g : Int} (hne : l ≠ []) : Qde l g = true ↔ ∃ t ∈ l, ∃ t' ∈ l, atN t g ≠ atN t' g := by
 have hl0 : l.headD [] ∈ l := by cases l with | nil => exact absurd rfl hne | cons a l => simp
 unfold Qde
 rw [Xl]
 constructor
 ·rintro ⟨t, ht, h⟩
  exact ⟨t, ht, _, hl0, by simpa using h⟩
 ·rintro ⟨t, ht, t', ht', h⟩
  by_cases e : atN t g = atN (l.headD []) g
  ·exact ⟨t', ht', by rw [decide_eq_true_eq]; intro e2; exact h (e.trans e2.symm)⟩
  ·exact ⟨t, ht, by simpa using e⟩
theorem Qmx {n : Nat} {t t' : List Int} (h : IsTak n t) (h' : IsTak n t') (he : ∀ i : Nat, i < n → atN t i = atN t' i) : t = t' := by
 have l1 := h.len
 have l2 := h'.len
 rw [Qm] at l1 l2
 apply Xw
 intro i
 by_cases hi : i < n
 ·have := he i hi
  unfold atN at this
  rw [Qm] at this
  rw [Ql (by omega), Ql (by omega)] at this ⊢
  simpa using this
 ·rw [Zo (by omega), Zo (by omega)]
theorem Qs9 {n : Nat} {t t' : List Int} (h : IsTak n t) (h' : IsTak n t') (he : ∀ i : Nat, i + 1 < n → atN t i = atN t' i) : t = t' := by
 refine Qmx h h' fun i hi => ?_
 by_cases hi2 : i + 1 < n
 ·exact he i hi2
 ·have hin : i = n - 1 := by omega
  have l1 := h.len
  have l2 := h'.len
  rw [Qm] at l1 l2
  refine Classical.byContradiction fun hne => ?_
  have get : ∀ {t : List Int} {k : Nat} (hk : k < t.length), atN t (k : Int) = t[k] := fun {t k} hk => by
   unfold atN; rw [Qm, Ql hk]; rfl
  have hnot : ∀ k (hk : k < t'.length), t'[k] ≠ t[i] := by
   intro k hk e
   by_cases hki : k = i
   ·subst hki
    exact hne (by rw [get (by omega), get (by omega), e])
   ·have h3 := he k (by omega)
    rw [get (by omega), get hk, e] at h3
    have := (Qp.1 h.nodup)
    rw [Zn] at this
    rcases Xq hki with hlt | hlt
    ·exact this k i (by omega) (by omega) hlt h3
    ·exact this i k (by omega) (by omega) hlt h3.symm
  have hin2 := h.in_ t[i] (X1 (by omega))
  have hsub : (t[i] :: t').length ≤ n := by
   have hnd : (t[i] :: t').Nodup := by
    rw [Z4]
    refine ⟨fun hm => ?_, h'.nodup⟩
    obtain ⟨k, hk, e⟩ := Zx.1 hm
    exact hnot k hk e
   have h5 : ((t[i] :: t').map Int.toNat).Nodup := by
    rw [Qp, Z7]
    refine Xm.imp_of_mem ?_ (Qp.1 hnd)
    intro a b ha hb hab e
    have h6 : ∀ a ∈ t[i] :: t', 0 ≤ a := fun a ha => by
     rcases Z5.1 ha with rfl | ha
     ·exact hin2.1
     ·exact (h'.in_ a ha).1
    have := h6 a ha
    have := h6 b hb
    exact hab (by omega)
   have := Qf1 h5 (n := n) (fun a ha => by
    obtain ⟨b, hb, rfl⟩ := Zv.1 ha
    rcases Z5.1 hb with rfl | hb
    ·omega
    ·have := h'.in_ b hb; omega)
   simpa using this
  simp at hsub
  omega
theorem Qob {n : Nat} {l : List (List Int)} (h : Taks n l) (hne : l ≠ []) (he : ∀ t ∈ l, ∀ t' ∈ l, t = t') : l.length = 1 := by
 cases l with
 | nil => exact absurd rfl hne
 | cons a l =>
  cases l with
  | nil => rfl
  | cons b l =>
   have := h.nd
   rw [Z4] at this
   exact absurd (by rw [he a (by simp) b (by simp)]; simp) this.1
theorem Ql6 {n q : Nat} {l : List (List Int)} (hT : Taks n l) (hne : l ≠ []) {i : Nat} (hi : i < n) (hm : Qde l i = true) (h : ∀ t ∈ l, canB q (Qc7 l i (atN t i)) = true) : canB (q + 1) l = true := by
 by_cases h1 : l.length = 1
 ·exact Qer h1
 ·rw [Qhw h1, Xl, hT.head hne]
  exact ⟨i, Qch.2 (by omega), by rw [hm, Zr, Z3]; exact h⟩
theorem Qh0 {n : Nat} : ∀ (k j : Nat) (l : List (List Int)), j + k + 1 = n → Taks n l → l ≠ [] → (∀ t ∈ l, ∀ t' ∈ l, ∀ i : Nat, i < j → atN t i = atN t' i) → canB k l = true
 | 0, j, l, hj, hT, hne, he => Qer (Qob hT hne fun t ht t' ht' => Qs9 (hT.tak t ht) (hT.tak t' ht') fun i hi => he t ht t' ht' i (by omega))
 | k + 1, j, l, hj, hT, hne, he => by
  cases hm : Qde l j with
  | true =>
   refine Ql6 hT hne (by omega) hm fun t ht => ?_
   refine Qh0 k (j + 1) _ (by omega) (hT.where_ _ _) (X9 (Qdc.2 ⟨ht, rfl⟩)) fun a ha b hb i hi => ?_
   rw [Qdc] at ha hb
   by_cases hij : i = j
   ·subst hij; rw [ha.2, hb.2]
   ·exact he a ha.1 b hb.1 i (by omega)
  | false =>
   refine Qn5 (Qh0 k (j + 1) l (by omega) hT hne fun a ha b hb i hi => ?_)
   by_cases hij : i = j
   ·subst hij
    refine Classical.byContradiction fun hab => ?_
    have := (Qgm hne).2 ⟨a, ha, b, hb, hab⟩
    rw [hm] at this; cases this
   ·exact he a ha b hb i (by omega)
theorem Qpd {n : Nat} {l : List (List Int)} (hT : Taks n l) (hne : l ≠ []) : canB (n - 1) l = true := by
 cases n with
 | zero =>
  refine Qer (Qob hT hne fun t ht t' ht' => ?_)
  have h1 := (hT.tak t ht).len
  have h2 := (hT.tak t' ht').len
  simp at h1 h2
  rw [h1, h2]
 | succ n => exact Qh0 n 0 l (by omega) hT hne fun _ _ _ _ i hi => by omega
noncomputable def Qc5 (l : List (List Int)) : Nat := Qlt fun q => canB q l = true
theorem Qd2 {n : Nat} {l : List (List Int)} (hT : Taks n l) (hne : l ≠ []) : canB (Qc5 l) l = true ∧ ∀ q, canB q l = true → Qc5 l ≤ q := Qg3 (p := fun q => canB q l = true) ⟨_, Qpd hT hne⟩
theorem Qc9 {s : Stand} (hS : OkS s) : Taks s.guests.toNat (Qaa s) := by
 have hg := hS.guests
 have e : ((s.guests.toNat : Nat) : Int) = s.guests := by omega
 refine ⟨?_, fun t ht => by rw [e]; exact (Qcd.1 ht).1⟩
 unfold Qaa Qcg
 refine List.Nodup.sublist X7 ?_
 have key : ∀ (r : Nat) (F : List Int), (extN s.guests r F).Nodup := by
  intro r
  induction r with
  | zero => intro F; simp [extN]
  | succ r ih =>
   intro F
   rw [extN, Qp, List.pairwise_flatMap]
   refine ⟨fun u _ => Qp.1 (ih _), ?_⟩
   have hnd : ((ints 0 (s.guests - 1)).filter fun u => decide (u ∉ F)).Pairwise (· ≠ ·) := by
    refine Xm.filter _ ?_
    unfold ints
    rw [Z7]
    refine (Qp.1 X2).imp ?_
    intro a b hab e; exact hab (by omega)
   refine hnd.imp ?_
   intro u v huv t ht t' ht' e
   obtain ⟨m, rfl, _⟩ := (Qig r (F ++ [u]) t).1 ht
   obtain ⟨m', rfl, _⟩ := (Qig r (F ++ [v]) t').1 ht'
   simp at e
   exact huv e.1
 exact key _ _
end Go.C10
set_option linter.unusedSimpArgs false
set_option linter.unusedVariables false
namespace Go.C10
open Go.Fam Go.Proofs
variable {Γ : Gam}
noncomputable def Qbu (s : Stand) : Int × Int × Int := if (Qbr s []).2 = 0 then (Qc5 (Qaa s), (askN (Qc5 (Qaa s)) (Qaa s)).getD (-1), 0) else (0, 0, (Qbr s []).2)
theorem Qjn {s : Stand} (hS : OkS s) (hne : Qaa s ≠ []) {q : Nat} (hq : q ≤ 100) : OkA (Qaa s) q := by
 have hT := Qc9 hS
 have hg := hS.guests
 have hh := hT.head hne
 refine ⟨hne, by have := Qej hS; omega, hq, fun t ht => ?_, by omega⟩
 rw [hh]
 have := (hT.tak t ht).len
 omega
theorem Qlu {s : Stand} (hS : OkS s) (hne : Qaa s ≠ []) : Qc5 (Qaa s) ≤ 6 := by
 have h := (Qd2 (Qc9 hS) hne).2 _ (Qpd (Qc9 hS) hne)
 have hg := hS.guests
 omega
theorem Quu (s : Stand) (gs : List Int)  : HG1 66 [.ag (Qa4 s), .sl 1 (gs.map eI)] = (Qaq s ∧ gs.length ≤ 1000000, ((fun r => .tp [.sl 1 (r.1.map eCan), .i r.2])) (Qbr s gs)) := h66 s gs
def qV (r : Int × Int × Int) : V := .tp [.i r.1, .i r.2.1, .i r.2.2]
theorem W51 (s : Stand) (h : Qaq s) : Qal Try.prog 51 [.ag (Qa4 s)] (qV (Qbu s)) := by
 refine Qak Qwl hmix Try.func51 cb51 cc51 cs51 cn51 ?_
 have g1 := Quu s []
 simp only [Qa4, Qc, Qe] at g1
 by_cases h0 : (Qbr s []).2 = 0
 ·obtain ⟨hc, _, hne, e1⟩ := Qka h0
  have hS := Qdj hc h
  have hT := Qc9 hS
  obtain ⟨q1, q2⟩ := Qd2 hT hne
  have q3 := Qlu hS hne
  simp only [rc51, rs51, g1, h, h0, e1, qV, Qag, Qa9, Qa8, Qac, Qad, Qa6, Qae, Qa7, Qa2, Fam.step, Qaf, evO, opv, qv, binV, ldV, Qap, V.cells, Qav, Qab, Qa5, flat, Qcx, Qa1, Qa0, Qa3, ↓reduceIte, Nat.reduceEqDiff, Nat.reduceAdd, Nat.reduceLT, Nat.reduceLeDiff, Qa, Qc, Qg, Qe, Qk, Qu, Qi, Qd, Qf, Qj, vw_i, vw_z, Qam, Qau, zipA, Qh, Qs, Za, Qo, Q8, Qb, decide_true, true_and, and_self, imp_self, Qa4]
  refine Qbs (Qc5 (Qaa s)) (fun i => ⟨lkp [(5, .sl 1 ((Qaa s).map eCan)), (6, .i i)], []⟩) (fun i => True) ?_ ?_ ?_ ?_
  ·simp only [Zj, kp, Qa0, Qa3, ↓reduceIte, Nat.reduceEqDiff, Qa, Qc]
  ·trivial
  ·intro i hi _
   have hno : (askN i (Qaa s)).isSome = false := by
    cases hs : (askN i (Qaa s)).isSome with
    | false => rfl
    | true => have := q2 i hs; omega
   have g2 := h78 (Qaa s) i
   have hA := Qjn hS hne (q := i) (by omega)
   have hi1 : inI ((i : Int) + 1) := by unfold inI; omega
   simp only [g2, hA, askV, hno, hi1, Q2, Q3, Qag, Qa9, Qa8, Qac, Qad, Qa6, Qae, Qaj, Qa7, Qa2, Fam.step, Qaf, evO, opv, qv, binV, Qap, Qab, Qa5, flat, Qcx, kp, Qa1, Qa0, Qa3, ↓reduceIte, Nat.reduceEqDiff, Nat.reduceAdd, Nat.reduceLT, Int.reduceNeg, Qa, Qc, Qg, Qe, Qi, Qd, Qf, Qj, vw_i, Qam, Qh, Qs, Qo, Qb, true_and, and_self, implies_true]
  ·intro _
   have g2 := h78 (Qaa s) (Qc5 (Qaa s))
   have hA := Qjn hS hne (q := Qc5 (Qaa s)) (by omega)
   have hs : (askN (Qc5 (Qaa s)) (Qaa s)).isSome = true := q1
   simp only [g2, hA, askV, hs, Qbu, h0, Qa9, Qa8, Qac, Qad, Qah, Qa6, Qae, Qaj, Qa7, Qa2, Fam.step, Qaf, evO, opv, qv, ldV, Qap, Qab, Qa5, flat, Qcx, Qa1, Qa0, Qa3, ↓reduceIte, Nat.reduceEqDiff, Nat.reduceAdd, Nat.reduceLT, Int.reduceNeg, Qa, Qc, Qg, Qe, Qi, Qd, Qf, Qv, Qj, endQ, rvs, rv1, resV, vw_i, Qam, Qd5, Qh, Qs, Qo, Qb, and_self, implies_true]
 ·simp only [rc51, rs51, g1, h, h0, Qbu, qV, Qa9, Qa8, Qac, Qah, Qa6, Qae, Qa7, Qa2, Fam.step, Qaf, evO, opv, qv, binV, ldV, Qap, V.cells, Qav, Qab, Qa5, flat, Qcx, Qa1, Qa0, Qa3, ↓reduceIte, Nat.reduceEqDiff, Nat.reduceAdd, Nat.reduceLT, Nat.reduceLeDiff, Qa, Qc, Qg, Qe, Qk, Qu, Qi, Qd, Qf, Qv, Qj, endQ, rvs, rv1, resV, vw_i, vw_z, Qam, Qau, Qd5, zipA, Qh, Qs, Za, Qo, Zh, Qb, decide_false, and_self, imp_self, Qa4]
def e51 (a : Stand) : List V := [.ag (Qa4 a)]
def d51 : List V → Stand | [.ag x0] => (Qb2 x0) | _ => (Qb2 [])
theorem Qxy (a : Stand) : d51 (e51 a) = a := by simp [d51, e51, Qbc]
noncomputable def HI1 : Gam := HG1.ext 51 (fnG e51 d51 (fun a => (fun (s : Stand) => Qaq s) a) (fun a => (fun (s : Stand) => Qbu s) a) qV)
theorem Qty : GOk Try.prog HI1 := Qwl.ext (f := 51) (fun a w => Try.call51 a w) (Qb9 (e := e51) (d := d51) (ok := (fun a => (fun (s : Stand) => Qaq s) a)) (g := (fun a => (fun (s : Stand) => Qbu s) a)) (eb := qV) fun a h => W51 a h)
theorem h51 (s : Stand) : HI1 51 [.ag (Qa4 s)] = (Qaq s, qV (Qbu s)) :=
 (show HI1 51 _ = fnG e51 d51 (fun a => (fun (s : Stand) => Qaq s) a) (fun a => (fun (s : Stand) => Qbu s) a) qV (e51 (s)) from rfl).trans (Qb5 _ (Qxy _))
theorem W17 (s : Stand) (h : Qaq s) : Qal Try.prog 17 [.ag (Qa4 s)] (.tp [.i (Qbu s).1, .i (Qbu s).2.2]) := by
 refine Qak Qty hmix Try.func17 cb17 cc17 cs17 cn17 ?_
 have g1 := h51 s
 simp only [Qa4] at g1
 simp only [rc17, rs17, g1, h, qV, Qa9, Qa8, Qah, Qa6, Qae, Qa7, Qa2, Fam.step, Qaf, evO, opv, qv, ldV, Qap, V.cells, Qav, Qab, Qa5, flat, Qcx, Qa1, Qa0, Qa3, ↓reduceIte, Nat.reduceEqDiff, Nat.reduceAdd, Nat.reduceLT, Nat.reduceLeDiff, Qa, Qc, Qg, Qe, Qk, Qu, Qi, Qd, Qf, Qv, Qj, endQ, rvs, rv1, resV, vw_i, Qam, Qau, Qd5, zipA, Qh, Qs, Qo, Qb, and_self, implies_true, Qa4]
theorem W32 (s : Stand) (h : Qaq s) : Qal Try.prog 32 [.ag (Qa4 s)] (.tp [.i (Qbu s).2.1, .i (Qbu s).2.2]) := by
 refine Qak Qty hmix Try.func32 cb32 cc32 cs32 cn32 ?_
 have g1 := h51 s
 simp only [Qa4] at g1
 simp only [rc32, rs32, g1, h, qV, Qa9, Qa8, Qah, Qa6, Qae, Qa7, Qa2, Fam.step, Qaf, evO, opv, qv, ldV, Qap, V.cells, Qav, Qab, Qa5, flat, Qcx, Qa1, Qa0, Qa3, ↓reduceIte, Nat.reduceEqDiff, Nat.reduceAdd, Nat.reduceLT, Nat.reduceLeDiff, Qa, Qc, Qg, Qe, Qk, Qu, Qi, Qd, Qf, Qv, Qj, endQ, rvs, rv1, resV, vw_i, Qam, Qau, Qd5, zipA, Qh, Qs, Qo, Qb, and_self, implies_true, Qa4]
def e17 (a : Stand) : List V := [.ag (Qa4 a)]
def d17 : List V → Stand | [.ag x0] => (Qb2 x0) | _ => (Qb2 [])
theorem Qxh (a : Stand) : d17 (e17 a) = a := by simp [d17, e17, Qbc]
noncomputable def HI2 : Gam := HI1.ext 17 (fnG e17 d17 (fun a => (fun (s : Stand) => Qaq s) a) (fun a => (fun (s : Stand) => Qbu s) a) (fun r => .tp [.i r.1, .i r.2.2]))
theorem Qyp : GOk Try.prog HI2 := Qty.ext (f := 17) (fun a w => Try.call17 a w) (Qb9 (e := e17) (d := d17) (ok := (fun a => (fun (s : Stand) => Qaq s) a)) (g := (fun a => (fun (s : Stand) => Qbu s) a)) (eb := (fun r => .tp [.i r.1, .i r.2.2])) fun a h => W17 a h)
theorem h17 (s : Stand) : HI2 17 [.ag (Qa4 s)] = (Qaq s, ((fun r => .tp [.i r.1, .i r.2.2])) (Qbu s)) :=
 (show HI2 17 _ = fnG e17 d17 (fun a => (fun (s : Stand) => Qaq s) a) (fun a => (fun (s : Stand) => Qbu s) a) (fun r => .tp [.i r.1, .i r.2.2]) (e17 (s)) from rfl).trans (Qb5 _ (Qxh _))
def e32 (a : Stand) : List V := [.ag (Qa4 a)]
def d32 : List V → Stand | [.ag x0] => (Qb2 x0) | _ => (Qb2 [])
theorem Qxo (a : Stand) : d32 (e32 a) = a := by simp [d32, e32, Qbc]
noncomputable def HI3 : Gam := HI2.ext 32 (fnG e32 d32 (fun a => (fun (s : Stand) => Qaq s) a) (fun a => (fun (s : Stand) => Qbu s) a) (fun r => .tp [.i r.2.1, .i r.2.2]))
theorem Qwm : GOk Try.prog HI3 := Qyp.ext (f := 32) (fun a w => Try.call32 a w) (Qb9 (e := e32) (d := d32) (ok := (fun a => (fun (s : Stand) => Qaq s) a)) (g := (fun a => (fun (s : Stand) => Qbu s) a)) (eb := (fun r => .tp [.i r.2.1, .i r.2.2])) fun a h => W32 a h)
theorem h32 (s : Stand) : HI3 32 [.ag (Qa4 s)] = (Qaq s, ((fun r => .tp [.i r.2.1, .i r.2.2])) (Qbu s)) :=
 (show HI3 32 _ = fnG e32 d32 (fun a => (fun (s : Stand) => Qaq s) a) (fun a => (fun (s : Stand) => Qbu s) a) (fun r => .tp [.i r.2.1, .i r.2.2]) (e32 (s)) from rfl).trans (Qb5 _ (Qxo _))
end Go.C10
set_option maxRecDepth 8000
namespace Go.C10
open Go.Fam Go.Proofs
def rc54 : RC := (.seq (.reg false [(cI 2 0)]) (.keep [0] (.seq (.seq (.reg false [(cMv 5 0), (cLn 6 5), (cC 7 .gtr 6 7)]) (.keep [0,7] (.cond (.t 7) (.seq (.reg false [(cI 2 1)]) .ret) .skip))) (.keep [0] (.seq (.seq (.reg false [(cMv 8 0), (cLn 9 8), (cI 10 0)]) (.keep [0,8,9,10] (.block 0 (.loop [0,8,9,10] none (.seq (.reg false [(cB 11 .lss 10 9)]) (.keep [0,8,9,10,11] (.seq (.cond (.t 11) .skip (.exit 0)) (.keep [0,8,9,10] (.seq (.block 1 (.seq (.reg false [(cMv 12 10), (cA 13 1 8 10), (cLd 14 13 false 1), (cMv 3 12), (cMv 4 14)]) (.keep [0,3,4,8,9,10] (.seq (.reg true [(cMv 15 4), (cMv 16 0), (cLn 17 16), (cC 18 .sub 17 1), (cQ 19 [15,18] (.call (kF 71) [(.t 15), (kI 0), (.t 18)])), (cN 20 19), (cMv 21 20), (gMv 22 21 false 0), (gMv 23 21 false 3), (gQ 24 21 false [22,23] (.slc 1 (.t 22) none (some (.t 23)))), (gMv 25 21 false 4), (gQ 26 21 false [24,25] (.call (kF 79) [(.t 24), (.t 25)])), (cQ 27 [21,26] (.pick (.t 21) (kB true) (.t 26)))]) (.keep [0,8,9,10,27] (.cond (.t 27) (.seq (.reg false [(cI 2 1)]) .ret) .skip)))))) (.keep [0,8,9,10] (.reg false [(cC 28 .add 10 1), (cMv 10 28)]))))))))))) (.keep [] (.seq (.reg false [(cI 2 0)]) .ret)))))))
def pu54 : List Nat := []
def rs54 : List RV := [.t 2]
theorem cc54 : CCx Try.prog Try.f54 pu54 rc54 := by unfold CCx; kernel_rfl
theorem cb54 : CBx Try.f54 := by unfold CBx; kernel_rfl
theorem cs54 : CSx Try.prog Try.f54 rs54 := by unfold CSx; kernel_rfl
theorem cn54 : 1 ≤ Try.f54.ntmps := by decide
def rc56 : RC := (.seq (.reg false [(cQ 4 [] (.mv (.k (.z 1))))]) (.keep [0,1] (.seq (.reg false [(cMv 5 0), (cMv 6 1), (cQ 7 [5,6] (.mn (.t 5) (.t 6))), (cMv 8 0), (cMv 9 1), (cQ 10 [8,9] (.mx (.t 8) (.t 9))), (cQ 11 [7,10] (.bsl 1 2 [(.i 0)] [(0,1, (.t 7)), (1,1, (.t 10))])), (cMv 4 11)]) .ret)))
def pu56 : List Nat := [11]
def rs56 : List RV := [.t 4]
theorem cc56 : CCx Try.prog Try.f56 pu56 rc56 := by unfold CCx; kernel_rfl
theorem cb56 : CBx Try.f56 := by unfold CBx; kernel_rfl
theorem cs56 : CSx Try.prog Try.f56 rs56 := by unfold CSx; kernel_rfl
theorem cn56 : 2 ≤ Try.f56.ntmps := by decide
def rc19 : RC := (.seq (.reg false [(cI 2 0), (cI 3 0)]) (.keep [0] (.seq (.reg false [(cMv 7 0), (cQ 8 [7] (.call (kF 27) [(.t 7)])), (cMv 6 8), (cEx 9 6 0), (cEx 10 6 1), (cMv 4 9), (cMv 5 10)]) (.keep [4,5] (.seq (.reg false [(cMv 11 4), (cLn 12 11), (cMv 13 5), (cMv 2 12), (cMv 3 13)]) .ret)))))
def pu19 : List Nat := []
def rs19 : List RV := [.t 2, .t 3]
theorem cc19 : CCx Try.prog Try.f19 pu19 rc19 := by unfold CCx; kernel_rfl
theorem cb19 : CBx Try.f19 := by unfold CBx; kernel_rfl
theorem cs19 : CSx Try.prog Try.f19 rs19 := by unfold CSx; kernel_rfl
theorem cn19 : 1 ≤ Try.f19.ntmps := by decide
def rc57 : RC := (.seq (.reg false [(cQ 2 [] (.mv (.k (.z 1))))]) (.keep [0] (.seq (.reg false [(cQ 3 [] (.mv (.k (.z 1))))]) (.keep [0,3] (.seq (.reg false [⟨(some 8), none, [], none, .w (.mkm false)⟩, (cMv 4 8)]) (.keep [0,3,4] (.seq (.seq (.reg false [(cMv 9 0), (cLn 10 9), (cI 11 0)]) (.keep [0,3,4,10,11] (.block 0 (.own 3 1 (.loop [0,3,4,10,11] none (.seq (.reg false [(cB 12 .lss 11 10)]) (.keep [0,3,4,10,11,12] (.seq (.cond (.t 12) .skip (.exit 0)) (.keep [0,3,4,10,11] (.seq (.block 1 (.seq (.reg false [(cMv 13 11), (cMv 5 13)]) (.keep [0,3,4,5,10,11] (.seq (.reg false [(cQ 6 [] (.mv (.k (.z 1))))]) (.keep [0,3,4,5,6,10,11] (.seq (.seq (.reg false [(cMv 14 5), (cMv 7 14)]) (.keep [0,3,4,6,7,10,11] (.block 2 (.own 6 1 (.loop [0,3,4,6,7,10,11] none (.seq (.seq (.reg false [(cMv 15 4), (cMv 16 7), (cQ 17 [15,16] (.lkp (.i 0) false 3 false (.t 15) (.t 16))), (cC 18 .eql 17 0)]) (.keep [0,3,4,6,7,10,11,18] (.cond (.t 18) .skip (.exit 2)))) (.keep [0,3,4,6,7,10,11] (.seq (.block 3 (.seq (.reg false [(cMv 23 4), (cMv 24 7), (cQ 25 [23,24] (.lkp (.i 0) false 3 false (.t 23) (.t 24))), (cC 26 .add 25 1), ⟨none, none, [23,24,26], none, .w (.mup 3 false (.t 23) (.t 24) (.t 26))⟩]) (.keep [0,3,4,6,7,10,11] (.reg false [(cMv 27 6), (cMv 28 7), (cQ 29 [28] (.bsl 1 1 [(.i 0)] [(0,1, (.t 28))])), ⟨(some 30), none, [27,29], none, .w (.app 1 (.t 27) (.t 29))⟩, (cMv 6 30)])))) (.keep [0,3,4,6,7,10,11] (.reg false [(cMv 19 0), (cMv 20 7), (cA 21 1 19 20), (cLd 22 21 false 1), (cMv 7 22)])))))))))) (.keep [0,3,4,6,10,11] (.seq (.drp 2 (.reg false [(cMv 31 6), (cLn 32 31), (cC 33 .gtr 32 1)])) (.keep [0,3,4,6,10,11,33] (.cond (.t 33) (.reg false [(cMv 34 3), (cMv 35 6), (cQ 36 [35] (.bsl 1 1 [(.z 1)] [(0,1, (.t 35))])), ⟨(some 37), none, [34,36], none, .w (.app 1 (.t 34) (.t 36))⟩, (cMv 3 37)]) .skip)))))))))) (.keep [0,3,4,10,11] (.reg false [(cC 38 .add 11 1), (cMv 11 38)])))))))))))) (.keep [3] (.seq (.reg false [(cMv 39 3), (cMv 2 39)]) .ret)))))))))
def pu57 : List Nat := [29,36]
def rs57 : List RV := [.t 2]
theorem cc57 : CCx Try.prog Try.f57 pu57 rc57 := by unfold CCx; kernel_rfl
theorem cb57 : CBx Try.f57 := by unfold CBx; kernel_rfl
theorem cs57 : CSx Try.prog Try.f57 rs57 := by unfold CSx; kernel_rfl
theorem cn57 : 1 ≤ Try.f57.ntmps := by decide
def rc55 : RC := (.seq (.reg false [(cQ 4 [] (.mv (.k (.z 1))))]) (.keep [0,1,4] (.seq (.seq (.reg false [(cMv 7 0), (cLn 8 7), (cI 9 0)]) (.keep [0,1,4,8,9] (.block 0 (.own 4 1 (.loop [0,1,4,8,9] (some 1) (.seq (.reg false [(cB 10 .lss 9 8)]) (.keep [0,1,4,8,9,10] (.seq (.cond (.t 10) .skip (.exit 0)) (.keep [0,1,4,8,9] (.seq (.block 1 (.seq (.reg false [(cMv 11 9), (cMv 5 11)]) (.keep [0,1,4,5,8,9] (.seq (.reg false [(cMv 12 1), (cMv 13 5), (cB 14 .sub 12 13), (cMv 15 0), (cLn 16 15), (cB 17 .add 14 16), (cMv 18 0), (cLn 19 18), (cB 20 .rem 17 19), (cMv 6 20)]) (.keep [0,1,4,5,6,8,9] (.seq (.reg false [(cMv 21 5), (cMv 22 6), (cB 23 .lss 21 22)]) (.keep [0,1,4,5,6,8,9,23] (.cond (.t 23) (.any false 1 [⟨(cMv 24 4), [], []⟩, ⟨(cMv 25 0), [], []⟩, ⟨(cMv 26 5), [], []⟩, ⟨(cA 27 1 25 26), [], [1,2]⟩, ⟨(cLd 28 27 false 1), [], [3,1,2]⟩, ⟨(cMv 29 0), [], []⟩, ⟨(cMv 30 6), [], []⟩, ⟨(cA 31 1 29 30), [], [5,6]⟩, ⟨(cLd 32 31 false 1), [], [7,5,6]⟩, ⟨(cQ 33 [28,32] (.call (kF 56) [(.t 28), (.t 32)])), [], [4,3,1,2,8,7,5,6]⟩, ⟨(cQ 34 [33] (.bsl 1 1 [(.z 1)] [(0,1, (.t 33))])), [], [9,4,3,1,2,8,7,5,6]⟩, ⟨⟨(some 35), none, [24,34], (some 0), .w (.app 1 (.t 24) (.t 34))⟩, [], [0,10,9,4,3,1,2,8,7,5,6]⟩, ⟨(cMv 4 35), [], [11,0,10,9,4,3,1,2,8,7,5,6]⟩]) .skip)))))))) (.drp 1 (.keep [0,1,4,8,9] (.reg false [(cC 36 .add 9 1), (cMv 9 36)]))))))))))))) (.keep [4] (.seq (.reg false [(cMv 37 4), (cMv 4 37)]) .ret)))))
def pu55 : List Nat := [34]
def rs55 : List RV := [.t 4]
theorem cc55 : CCx Try.prog Try.f55 pu55 rc55 := by unfold CCx; kernel_rfl
theorem cb55 : CBx Try.f55 := by unfold CBx; kernel_rfl
theorem cs55 : CSx Try.prog Try.f55 rs55 := by unfold CSx; kernel_rfl
theorem cn55 : 2 ≤ Try.f55.ntmps := by decide
def rc24 : RC := (.seq (.reg false [(cQ 2 [] (.mv (.k (.z 1)))), (cQ 3 [] (.mv (.k (.z 1)))), (cI 4 0)]) (.keep [0,2,3] (.seq (.seq (.reg false [(cMv 9 0), (cQ 10 [9] (.call (kF 54) [(.t 9)])), (cMv 5 10)]) (.keep [0,2,3,5] (.seq (.reg false [(cMv 11 5), (cC 12 .neq 11 0)]) (.keep [0,2,3,5,12] (.cond (.t 12) (.seq (.reg false [(cMv 13 5), (cQ 2 [] (.mv (.k (.z 1)))), (cQ 3 [] (.mv (.k (.z 1)))), (cMv 4 13)]) .ret) .skip))))) (.keep [0,2,3] (.seq (.reg false [(cQ 6 [] (.mv (kF 55)))]) (.keep [0,2,3,6] (.seq (.seq (.reg false [(cMv 14 0), (cQ 15 [14] (.call (kF 57) [(.t 14)])), (cLn 16 15), (cI 17 0)]) (.keep [2,3,6,15,16,17] (.block 0 (.own 2 1 (.own 3 1 (.loop [2,3,6,15,16,17] none (.seq (.reg false [(cB 18 .lss 17 16)]) (.keep [2,3,6,15,16,17,18] (.seq (.cond (.t 18) .skip (.exit 0)) (.keep [2,3,6,15,16,17] (.seq (.block 1 (.seq (.reg false [(cA 19 1 15 17), (cLd 20 19 false 1), (cMv 8 20)]) (.keep [2,3,6,8,15,16,17] (.seq (.reg false [(cMv 21 2), (cMv 22 6), (cMv 23 8), (cQ 24 [22,23] (.call (.t 22) [(.t 23), (kI 0)])), ⟨(some 25), none, [21,24], none, .w (.app 1 (.t 21) (.t 24))⟩, (cMv 2 25)]) (.keep [2,3,6,8,15,16,17] (.reg false [(cMv 26 3), (cMv 27 6), (cMv 28 8), (cQ 29 [27,28] (.call (.t 27) [(.t 28), (kI 1)])), ⟨(some 30), none, [26,29], none, .w (.app 1 (.t 26) (.t 29))⟩, (cMv 3 30)])))))) (.keep [2,3,6,15,16,17] (.reg false [(cC 31 .add 17 1), (cMv 17 31)]))))))))))))) (.keep [2,3] (.seq (.reg false [(cMv 32 2), (cMv 33 3), (cMv 2 32), (cMv 3 33), (cI 4 0)]) .ret)))))))))
def pu24 : List Nat := []
def rs24 : List RV := [.t 2, .t 3, .t 4]
theorem cc24 : CCx Try.prog Try.f24 pu24 rc24 := by unfold CCx; kernel_rfl
theorem cb24 : CBx Try.f24 := by unfold CBx; kernel_rfl
theorem cs24 : CSx Try.prog Try.f24 rs24 := by unfold CSx; kernel_rfl
theorem cn24 : 1 ≤ Try.f24.ntmps := by decide
def rc27 : RC := (.seq (.reg false [(cQ 2 [] (.mv (.k (.z 1)))), (cI 3 0)]) (.keep [0] (.seq (.seq (.reg false [(cMv 9 0), (cQ 10 [9] (.call (kF 54) [(.t 9)])), (cMv 4 10)]) (.keep [0,4] (.seq (.reg false [(cMv 11 4), (cC 12 .neq 11 0)]) (.keep [0,4,12] (.cond (.t 12) (.seq (.reg false [(cMv 13 4), (cQ 2 [] (.mv (.k (.z 1)))), (cMv 3 13)]) .ret) .skip))))) (.keep [0] (.seq (.reg false [(cMv 14 0), ⟨(some 15), none, [14], none, .o (kF 59) [(.t 14)]⟩, (cMv 5 15)]) (.keep [5] (.seq (.reg false [(cQ 6 [] (.mv (.k (.z 1))))]) (.keep [5,6] (.seq (.seq (.reg false [(cMv 16 5), (cLn 17 16), (cI 18 0)]) (.keep [5,6,17,18] (.block 0 (.own 6 1 (.loop [5,6,17,18] none (.seq (.reg false [(cB 19 .lss 18 17)]) (.keep [5,6,17,18,19] (.seq (.cond (.t 19) .skip (.exit 0)) (.keep [5,6,17,18] (.seq (.block 1 (.seq (.reg false [(cMv 20 18), (cMv 7 20)]) (.keep [5,6,7,17,18] (.block 2 (.loop [5,6,7,17,18] none (.seq (.seq (.reg false [(cMv 21 5), (cMv 22 7), (cA 23 1 21 22), (cLd 24 23 false 1), (cMv 25 7), (cB 26 .neq 24 25)]) (.keep [5,6,7,17,18,26] (.cond (.t 26) .skip (.exit 2)))) (.keep [5,6,7,17,18] (.block 3 (.seq (.reg false [(cMv 27 5), (cMv 28 7), (cA 29 1 27 28), (cLd 30 29 false 1), (cMv 8 30)]) (.keep [5,6,7,8,17,18] (.seq (.any false 0 [⟨(cMv 31 5), [], []⟩, ⟨(cMv 32 7), [], []⟩, ⟨(cMv 33 5), [], []⟩, ⟨(cMv 34 8), [], []⟩, ⟨(cMv 35 5), [], []⟩, ⟨(cMv 36 8), [], []⟩, ⟨(cA 37 1 35 36), [], [4,5]⟩, ⟨(cLd 38 37 false 1), [], [6,4,5]⟩, ⟨(cMv 39 5), [], []⟩, ⟨(cMv 40 7), [], []⟩, ⟨(cA 41 1 39 40), [], [8,9]⟩, ⟨(cLd 42 41 false 1), [], [10,8,9]⟩, ⟨(cA 43 1 31 32), [], [0,1,4,5,6,7,11,10,8,9]⟩, ⟨⟨none, none, [43,38], none, .w (.st 1 (.t 43) (.t 38))⟩, [2,3], [12,0,1,4,5,6,7,11,10,8,9]⟩, ⟨(cA 44 1 33 34), [], [2,3,0,1,4,5,6,7,8,9,10,11,12,13]⟩, ⟨⟨none, none, [44,42], none, .w (.st 1 (.t 44) (.t 42))⟩, [], [14,2,3,0,1,4,5,6,7,8,9,10,11,12,13]⟩]) (.keep [5,6,7,8,17,18] (.reg false [(cMv 45 6), (cMv 46 7), (cMv 47 8), (cQ 48 [46,47] (.call (kF 56) [(.t 46), (.t 47)])), (cQ 49 [48] (.bsl 1 1 [(.z 1)] [(0,1, (.t 48))])), ⟨(some 50), none, [45,49], none, .w (.app 1 (.t 45) (.t 49))⟩, (cMv 6 50)]))))))))))))) (.keep [5,6,17,18] (.reg false [(cC 51 .add 18 1), (cMv 18 51)])))))))))))) (.keep [6] (.seq (.reg false [(cMv 52 6), (cMv 2 52), (cI 3 0)]) .ret)))))))))))
def pu27 : List Nat := [1000015,49]
def rs27 : List RV := [.t 2, .t 3]
theorem cc27 : CCx Try.prog Try.f27 pu27 rc27 := by unfold CCx; kernel_rfl
theorem cb27 : CBx Try.f27 := by unfold CBx; kernel_rfl
theorem cs27 : CSx Try.prog Try.f27 rs27 := by unfold CSx; kernel_rfl
theorem cn27 : 1 ≤ Try.f27.ntmps := by decide
def rc59 : RC := (.seq (.reg false [(cQ 2 [] (.mv (.k (.z 1))))]) (.keep [0] (.seq (.seq (.rnl false [(cMv 3 0)] (cLn 4 3) []) (.keep [0,4] (.cond (.t 4) (.seq (.reg false [(cQ 2 [] (.mv (.k (.z 1))))]) (.owng 2 1 1 .ret)) .skip))) (.keep [0] (.seq (.reg false [⟨(some 5), none, [], none, .w (.bso 1 0 [(.i 0)] [])⟩, (cMv 6 0), ⟨(some 7), none, [5,6], none, .w (.app 1 (.t 5) (.t 6))⟩, (cMv 2 7)]) .ret)))))
def pu59 : List Nat := []
def rs59 : List RV := [.t 2]
theorem cc59 : CCx Try.prog Try.f59 pu59 rc59 := by unfold CCx; kernel_rfl
theorem cb59 : CBx Try.f59 := by unfold CBx; kernel_rfl
theorem cs59 : CSx Try.prog Try.f59 rs59 := by unfold CSx; kernel_rfl
theorem cn59 : 1 ≤ Try.f59.ntmps := by decide
end Go.C10
set_option linter.unusedSimpArgs false
set_option linter.unusedVariables false
namespace Go.C10
open Go.Fam Go.Proofs
variable {Γ : Gam}
theorem Quv (n : Int) (lo : Int) (hi : Int)  : HI3 71 [.i n, .i lo, .i hi] = (True, .b (Qaz n lo hi)) := h71 n lo hi
theorem Quw (l : List Int) (n : Int)  : HI3 79 [.sl 1 (l.map eI), .i n] = (l.length ≤ 1000000, .b (decide (n ∈ l))) := h79 l n
def takB (t : List Int) : Bool := decide (t.length ≤ 7) && (Xj t.length).all fun i => Qaz (t[i]?.getD 0) 0 (t.length - 1) && !decide (t[i]?.getD 0 ∈ t.take i)
def takE (t : List Int) : Int := if takB t = true then 0 else 1
theorem Qjl {t : List Int} : (∀ i : Nat, i < t.length → t[i]?.getD 0 ∉ t.take i) ↔ t.Nodup := by
 rw [Qp, Zn]
 constructor
 ·intro h i j hi hj hij e
  refine h j hj ?_
  rw [Ql hj, Qj, ← e]
  exact Xt.2 ⟨i, by omega, rfl⟩
 ·intro h j hj hm
  rw [Ql hj, Qj] at hm
  obtain ⟨i, hi, e⟩ := Xt.1 hm
  exact h i j (by omega) hj (by omega) e
theorem Qkw (t : List Int) : takB t = true ↔ t.length ≤ 7 ∧ IsTak t.length t := by
 unfold takB Qaz
 simp only [Zs, decide_eq_true_eq, Z3, Z9, Bool.not_eq_true', decide_eq_false_iff_not]
 constructor
 ·rintro ⟨h1, h2⟩
  refine ⟨h1, by simp, fun x hx => ?_, Qjl.1 fun i hi => (h2 i hi).2⟩
  obtain ⟨i, hi, rfl⟩ := Zx.1 hx
  have := (h2 i hi).1
  rw [Ql hi] at this
  exact this
 ·rintro ⟨h1, h2, h3, h4⟩
  refine ⟨h1, fun i hi => ⟨?_, Qjl.2 h4 i hi⟩⟩
  rw [Ql hi]
  exact h3 _ (X1 hi)
theorem W54 (t : List Int) (h : t.length ≤ 1000000) : Qal Try.prog 54 [.sl 1 (t.map eI)] (.i (takE t)) := by
 refine Qak Qwm hmix Try.func54 cb54 cc54 cs54 cn54 ?_
 by_cases h7 : (7 : Int) < t.length
 ·have e : takE t = 1 := by
   unfold takE takB
   rw [if_neg]
   simp only [Zs, decide_eq_true_eq, not_and]
   intro h2; omega
  simp only [rc54, rs54, h7, e, Qa9, Qa8, Qac, Qah, Qa6, Qae, Qa7, Qa2, Fam.step, Qaf, evO, opv, qv, binV, lenV, Qa1, Qa0, Qa3, ↓reduceIte, Qa, Qc, endQ, rvs, rv1, resV, vw_i, zipA, decide_true, and_self, reduceCtorEq, Qn]
 ·simp only [rc54, rs54, h7, Qag, Qa9, Qa8, Qac, Qad, Qa6, Qae, Qa7, Qa2, Fam.step, Qaf, evO, opv, qv, binV, lenV, Qa1, Qa0, Qa3, ↓reduceIte, Nat.reduceEqDiff, Qa, Qc, zipA, Qb, decide_false, true_and, reduceCtorEq, Qn]
  refine Qbs t.length (fun i => ⟨lkp [(0, .sl 1 (t.map eI)), (8, .sl 1 (t.map eI)), (9, .i t.length), (10, .i i)], []⟩) (fun i => ∀ j : Nat, j < i → (Qaz (t[j]?.getD 0) 0 (t.length - 1) && !decide (t[j]?.getD 0 ∈ t.take j)) = true) ?_ ?_ ?_ ?_
  ·simp only [Zj, kp, Qa0, Qa3, ↓reduceIte, Nat.reduceEqDiff, Qa, Qc, reduceCtorEq]
  ·intro j hj; omega
  ·intro i hi hc
   obtain ⟨x, hx⟩ : ∃ x, t[i]? = some x := ⟨_, Ql hi⟩
   have hlt : (i : Int) < t.length := by omega
   have h3 : inI ((i : Int) + 1) ∧ inI ((t.length : Int) - 1) := by unfold inI; omega
   have hle : (i : Int) ≤ t.length := by omega
   have g1 := Quv x 0 (t.length - 1)
   have g2 := Quw (t.take i) x
   have htl : (t.take i).length ≤ 1000000 := by rw [X0]; omega
   have hmt : List.take i (t.map eI) = (t.take i).map eI := by rw [List.map_take]
   have bad : (Qaz x 0 (t.length - 1) && !decide (x ∈ t.take i)) = false → takE t = 1 := fun e => by
    unfold takE
    rw [if_neg]
    unfold takB
    rw [Zs, Z3]
    rintro ⟨_, h⟩
    have := h i (Z9.2 hi)
    rw [hx, Qj, e] at this
    cases this
   have good : (Qaz x 0 (t.length - 1) && !decide (x ∈ t.take i)) = true → ∀ j : Nat, j < i + 1 → (Qaz (t[j]?.getD 0) 0 (t.length - 1) && !decide (t[j]?.getD 0 ∈ t.take j)) = true := fun e j hj => by
    by_cases hji : j < i
    ·exact hc j hji
    ·have : j = i := by omega
     subst this
     rw [hx, Qj]; exact e
   by_cases hw : Qaz x 0 (t.length - 1) = true
   ·by_cases hm : x ∈ t.take i
    ·simp only [hx, hlt, h3, hle, g1, g2, htl, hmt, hw, hm, Qag, Qa9, Qa8, Qac, Qad, Qah, Qa6, Qae, Qaj, Qa7, Qa2, Fam.step, Qaf, Qay, Qat, ug, evO, opv, qv, Qai, binV, ldV, iadV, lenV, slcV, Qh7, Qap, Qab, Qa5, flat, kp, Qa1, Qa0, Qa3, ↓reduceIte, Nat.reduceEqDiff, Nat.reduceLT, Nat.reduceLeDiff, Z8, Int.reduceLE, Qa, Qc, Q9, Zd, Qg, Qe, Zi, Zb, Qi, Qj, endQ, rvs, rv1, resV, vw_i, Qam, Q7, beq_self_eq_true, Qh, V.i.injEq, Qs, Qo, Q8, Qb, decide_true, true_and, and_self, forall_const, implies_true, reduceCtorEq, Q5, Xo, Qn, Qm, Qr, Qz, eI]
     exact (bad (by simp [hm])).symm
    ·simp only [hx, hlt, h3, hle, g1, g2, htl, hmt, hw, hm, Q2, Q3, Qag, Qa9, Qa8, Qac, Qad, Qa6, Qae, Qaj, Qa7, Qa2, Fam.step, Qaf, Qay, Qat, ug, evO, opv, qv, Qai, binV, ldV, iadV, lenV, slcV, Qh7, Qap, Qab, Qa5, flat, kp, Qa1, Qa0, Qa3, ↓reduceIte, Nat.reduceEqDiff, Nat.reduceLT, Nat.reduceLeDiff, Z8, Int.reduceLE, Qa, Qc, Q9, Zd, Qg, Qe, Zi, Zb, Qi, Qj, vw_i, Qam, Q7, beq_self_eq_true, Qh, Qs, Qo, Q8, Qb, decide_true, decide_false, true_and, and_true, and_self, forall_const, implies_true, reduceCtorEq, Q5, Xo, Qn, Qm, Qr, Qz, eI]
     exact good (by simp [hw, hm])
   ·simp only [hx, hlt, h3, hle, g1, hw, Qag, Qa9, Qa8, Qac, Qad, Qah, Qa6, Qae, Qaj, Qa7, Qa2, Fam.step, Qaf, Qay, Qat, ug, evO, opv, qv, Qdp, binV, ldV, iadV, lenV, slcV, Qh7, Qap, Qab, Qa5, flat, kp, Qa1, Qa0, Qa3, ↓reduceIte, Nat.reduceEqDiff, Nat.reduceLT, Nat.reduceLeDiff, Z8, Int.reduceLE, Qa, Qc, Q9, Zd, Qg, Qe, Zi, Zb, Qi, Qj, endQ, rvs, rv1, resV, vw_i, Qam, Q7, Qh, V.i.injEq, Qs, Za, Qo, Q8, Zh, Qb, Jd, decide_true, true_and, and_true, and_self, false_and, forall_const, false_implies, implies_true, reduceCtorEq, Q5, Xo, beq_false, imp_self, Qn, Qm, Qr, Qz, eI]
    exact (bad (by simp [hw])).symm
  ·intro hc
   have hlt : ¬ ((t.length : Int) < t.length) := by omega
   have e : takE t = 0 := by
    unfold takE
    rw [if_pos]
    unfold takB
    rw [Zs, Z3, decide_eq_true_eq]
    exact ⟨by omega, fun i hi => hc i (Z9.1 hi)⟩
   simp only [hlt, e, Qa9, Qa8, Qac, Qb1, Qah, Qa6, Qae, Qaj, Qa7, Qa2, Fam.step, Qaf, evO, opv, qv, binV, Qa1, Qa0, Qa3, ↓reduceIte, Nat.reduceEqDiff, Qa, Qc, endQ, rvs, rv1, resV, vw_i, Qb, decide_false, and_self, reduceCtorEq]
def e54 (a : List Int) : List V := [.sl 1 (a.map eI)]
def d54 : List V → List Int | [.sl _ x0] => (x0.map dI) | _ => ([])
theorem Qy0 (a : List Int) : d54 (e54 a) = a := by simp [d54, e54, Function.comp_def, Qd8]
noncomputable def HJ1 : Gam := HI3.ext 54 (fnG e54 d54 (fun a => (fun (t : List Int) => t.length ≤ 1000000) a) (fun a => (fun (t : List Int) => takE t) a) .i)
theorem Qwn : GOk Try.prog HJ1 := Qwm.ext (f := 54) (fun a w => Try.call54 a w) (Qb9 (e := e54) (d := d54) (ok := (fun a => (fun (t : List Int) => t.length ≤ 1000000) a)) (g := (fun a => (fun (t : List Int) => takE t) a)) (eb := .i) fun a h => W54 a h)
theorem h54 (t : List Int) : HJ1 54 [.sl 1 (t.map eI)] = (t.length ≤ 1000000, .i (takE t)) :=
 (show HJ1 54 _ = fnG e54 d54 (fun a => (fun (t : List Int) => t.length ≤ 1000000) a) (fun a => (fun (t : List Int) => takE t) a) .i (e54 (t)) from rfl).trans (Qb5 _ (Qy0 _))
def Qgn (a b : Int) : List Int := [min a b, max a b]
theorem W56 (a b : Int) : Qal Try.prog 56 [.i a, .i b] (.sl 1 ((Qgn a b).map eI)) := by
 refine Qak Qwn hmix Try.func56 cb56 cc56 cs56 cn56 ?_
 have hck : ∀ x y : V, Qcj 1 [x, y] 0 2 = [[x], [y]] := fun _ _ => rfl
 simp only [rc56, rs56, Qgn, Zc, Qt, hck, Qa9, Qa8, Qah, Qa6, Qae, Qa7, Qa2, Fam.step, Qaf, evO, opv, qv, Qas, putAt, Qb7, Qb4, V.cells, Qav, Qbm, Qab, Qa5, Qa1, Qa0, Qa3, ↓reduceIte, Nat.reduceEqDiff, Nat.reduceAdd, Nat.reduceMul, Nat.reduceLeDiff, Qa, Qc, Q9, Zd, Qg, Qe, Qw, Zi, Zl, Qk, Qx, Qy, Qq, Qi, Q1, Q6, endQ, rvs, rv1, resV, vw_i, Qam, zipA, Qh, Qs, Qo, and_self, reduceCtorEq, not_false_eq_true, ne_eq, eI]
def e56 (a : Int × Int) : List V := [.i a.1, .i a.2]
def d56 : List V → Int × Int | [.i x0, .i x1] => (x0, x1) | _ => (0, 0)
theorem Qy2 (a : Int × Int) : d56 (e56 a) = a := by simp [d56, e56]
noncomputable def HJ2 : Gam := HJ1.ext 56 (fnG e56 d56 (fun a => (fun (a : Int) (b : Int) => True) a.1 a.2) (fun a => (fun (a : Int) (b : Int) => Qgn a b) a.1 a.2) (fun l => .sl 1 (l.map eI)))
theorem Qtz : GOk Try.prog HJ2 := Qwn.ext (f := 56) (fun a w => Try.call56 a w) (Qb9 (e := e56) (d := d56) (ok := (fun a => (fun (a : Int) (b : Int) => True) a.1 a.2)) (g := (fun a => (fun (a : Int) (b : Int) => Qgn a b) a.1 a.2)) (eb := (fun l => .sl 1 (l.map eI))) fun a h => W56 a.1 a.2)
theorem h56 (a : Int) (b : Int) : HJ2 56 [.i a, .i b] = (True, ((fun l => .sl 1 (l.map eI))) (Qgn a b)) :=
 (show HJ2 56 _ = fnG e56 d56 (fun a => (fun (a : Int) (b : Int) => True) a.1 a.2) (fun a => (fun (a : Int) (b : Int) => Qgn a b) a.1 a.2) (fun l => .sl 1 (l.map eI)) (e56 (a, b)) from rfl).trans (Qb5 _ (Qy2 _))
def mirN (l : List Int) (sum : Int) (n : Nat) : List (List Int) := (Xj n).filterMap fun (i : Nat) =>
 let k : Int := (sum - (i : Int) + l.length).tmod l.length
 if (i : Int) < k then some (Qgn (l[i]?.getD 0) (atN l k)) else none
theorem W55 (l : List Int) (sum : Int) (h : l.length ≤ 1000 ∧ 0 ≤ sum ∧ sum ≤ 1) : Qal Try.prog 55 [.sl 1 (l.map eI), .i sum] (.sl 1 ((mirN l sum l.length).map eCan)) := by
 refine Qak Qtz hmix Try.func55 cb55 cc55 cs55 cn55 ?_
 obtain ⟨hl, hs⟩ := h
 simp only [rc55, rs55, Qa9, Qa8, Qad, Qa6, Qgq, Qae, Qa7, Qa2, Fam.step, Qaf, evO, opv, qv, lenV, Qa1, Qa0, Qa3, ↓reduceIte, Nat.reduceEqDiff, Qa, Qc, Qe, Qq, zipA, Qh, true_and, reduceCtorEq, Qn]
 refine Qc2 l.length (fun i => ⟨lkp [(0, .sl 1 (l.map eI)), (1, .i sum), (4, .rf 0 (mirN l sum i).length 0 (mirN l sum i).length 1), (8, .i l.length), (9, .i i)], [.cells (mirN l sum i).length ((mirN l sum i).map eCan).flatten]⟩) ?_ ?_ ?_
 ·have e0 : mirN l sum 0 = [] := rfl
  simp only [Zj, e0, Qt, cutH, kp, cutV, cutL, cutB, Qa0, Qa3, ↓reduceIte, Nat.reduceEqDiff, Nat.reduceLT, Qa, Qc, Qe, Qk, Qu, reduceCtorEq]
 ·intro i hi
  obtain ⟨x, hx⟩ : ∃ x, l[i]? = some x := ⟨_, Ql hi⟩
  have hlt : (i : Int) < l.length := by omega
  obtain ⟨k, hk⟩ : ∃ k, k = (sum - i + l.length).tmod l.length := ⟨_, rfl⟩
  have hk0 : 0 ≤ k ∧ k < l.length := by
   rw [hk, Int.tmod_eq_emod_of_nonneg (by omega)]
   exact ⟨Int.emod_nonneg _ (by omega), Int.emod_lt_of_pos _ (by omega)⟩
  have h3 : inI ((i : Int) + 1) ∧ inI (sum - i) ∧ inI (sum - i + l.length) ∧ inI k := by unfold inI; omega
  have hn0 : ¬ (l.length : Int) = 0 := by omega
  have hst : mirN l sum (i + 1) = mirN l sum i ++ if (i : Int) < k then [Qgn x (atN l k)] else [] := by
   unfold mirN
   rw [Jg, List.filterMap_append]
   congr 1
   simp only [List.filterMap_cons, List.filterMap_nil, ← hk, hx, Qj]
   by_cases h : (i : Int) < k <;> simp [h]
  have hml : (mirN l sum i).length ≤ i := by
   unfold mirN
   refine Xd (Xz _ _) ?_
   rw [Xe]; exact Zk _
  have hfl : Qax ((mirN l sum i).length + 1) := by unfold Qax; omega
  by_cases hik : (i : Int) < k
  ·rw [if_pos hik] at hst
   obtain ⟨y, hy⟩ : ∃ y, l[k.toNat]? = some y := ⟨_, Ql (by omega)⟩
   have hay : atN l k = y := by unfold atN; rw [hy]; rfl
   rw [hay] at hst
   have g1 := h56 x y
   have hnx : Qa5 (((mirN l sum i).map eCan).flatten ++ [V.sl 1 ((Qgn x y).map eI)]) = false := by rw [Qbi, Qce]; rfl
   have ecp : ∀ l : List Int, eCan l = [.sl 1 (l.map eI)] := fun _ => rfl
   simp only [hx, hlt, ← hk, hk0, h3, hn0, hik, hy, g1, hst, Qhr, Ze, hfl, Q0, Zu, Zz, Zc, Qt, Qar _ _ _ hnx, Q2, Q3, Qag, Qa9, Qbo, Qa8, Qac, Qad, Qa6, Qcb, Qck, ↓Qbq, Qba, optL, cutH, Qae, Qaj, Qa7, Qa2, Fam.step, Qaf, Qb6, runX, eff, Qb8, fpR, fpQ, fpV, Qc3, hits, nv, sv, Qc8, evO, opv, qv, binV, ldV, iadV, lenV, Qap, Qas, putAt, Qb7, Qb4, V.cells, Qav, Qbm, Qab, Qa5, flat, kp, cutV, cutB, Qa1, Qa0, Qa3, ↓reduceIte, Nat.reduceEqDiff, Nat.reduceLT, Nat.reduceLeDiff, Qa, Qc, Q9, Zd, Qg, Qe, Qw, Zl, Qk, Qx, Qu, Zb, Qy, Qq, Qi, Qd, Qv, Qj, Z2, Q4, Q1, Q6, Xk, Xf, vw_i, Qam, Q7, Qh, Qs, Za, Zr, Z0, Qo, Xx, Q8, Zh, Qb, decide_true, and_self, reduceCtorEq, not_false_eq_true, ne_eq, Q5, Xy, X5, Xc, Xg, imp_self, Qn, Qm, Qr, Qz, eI, eCan]
  ·rw [if_neg hik, Qi] at hst
   simp only [hlt, ← hk, h3, hn0, hik, hst, Qar _ _ _ (Qce _), Q2, Q3, Qag, Qa9, Qa8, Qac, Qad, Qa6, Qcb, ↓Qbq, cutH, Qae, Qaj, Qa7, Qa2, Fam.step, Qaf, evO, opv, qv, binV, lenV, kp, cutV, cutB, Qa1, Qa0, Qa3, ↓reduceIte, Nat.reduceEqDiff, Nat.reduceLT, Qa, Qc, Qk, Qu, Qb, decide_true, decide_false, and_self, reduceCtorEq, not_false_eq_true, ne_eq, Qn]
 ·have hlt : ¬ ((l.length : Int) < l.length) := by omega
  simp only [hlt, Qhr, Ze, Zk, Qh1, vw_C, Qa9, Qa8, Qac, Qb1, Qah, Qa6, Qae, Qaj, Qa7, Qa2, Fam.step, Qaf, evO, opv, qv, binV, Qa1, Qa0, Qa3, ↓reduceIte, Nat.reduceEqDiff, Qa, Qc, Qd, endQ, rvs, rv1, resV, Qe8, Qh, Qb, decide_false, and_self, reduceCtorEq]
end Go.C10
set_option linter.unusedSimpArgs false
set_option linter.unusedVariables false
namespace Go.C10
open Go.Fam Go.Proofs
variable {Γ : Gam}
def orbN (t : List Int) : Nat → List Int → Int → List Int
 | 0, _, _ => []
 | k + 1, seen, n => if n ∈ seen then [] else n :: orbN t k (seen ++ [n]) (atN t n)
def Qcp (t : List Int) : Nat → List Int × List (List Int)
 | 0 => ([], [])
 | i + 1 => ((Qcp t i).1 ++ orbN t (t.length - (Qcp t i).1.length) (Qcp t i).1 i,
   if 1 < (orbN t (t.length - (Qcp t i).1.length) (Qcp t i).1 i).length then (Qcp t i).2 ++ [orbN t (t.length - (Qcp t i).1.length) (Qcp t i).1 i] else (Qcp t i).2)
def Qea (t : List Int) : List (List Int) := (Qcp t t.length).2
structure Below (n : Nat) (l : List Int) : Prop where
 nd : l.Nodup
 in_ : ∀ x ∈ l, 0 ≤ x ∧ x < n
theorem Below.len {n : Nat} {l : List Int} (h : Below n l) : l.length ≤ n := by
 have h5 : (l.map Int.toNat).Nodup := by
  rw [Qp, Z7]
  refine Xm.imp_of_mem ?_ (Qp.1 h.nd)
  intro a b ha hb hab e
  have := h.in_ a ha
  have := h.in_ b hb
  exact hab (by omega)
 have := Qf1 h5 (n := n) (fun a ha => by
  obtain ⟨b, hb, rfl⟩ := Zv.1 ha
  have := h.in_ b hb; omega)
 simpa using this
theorem Below.snoc {n : Nat} {l : List Int} (h : Below n l) {x : Int} (hx : 0 ≤ x ∧ x < n) (hn : x ∉ l) : Below n (l ++ [x]) := by
 refine ⟨?_, fun y hy => ?_⟩
 ·rw [Xv]
  exact ⟨h.nd, by simp, fun a ha b hb => by simp at hb; subst hb; rintro rfl; exact hn ha⟩
 ·rcases Xn.1 hy with hy | hy
  ·exact h.in_ y hy
  ·rw [Zt] at hy; subst hy; exact hx
theorem Qbp {n : Nat} {t : List Int} (h : IsTak n t) {x : Int} (hx : 0 ≤ x ∧ x < n) : t[x.toNat]? = some (atN t x) ∧ 0 ≤ atN t x ∧ atN t x < n := by
 have hl := h.len
 rw [Qm] at hl
 have hlt : x.toNat < t.length := by omega
 have e : atN t x = t[x.toNat] := by unfold atN; rw [Ql hlt]; rfl
 have := h.in_ _ (X1 hlt)
 rw [e]
 exact ⟨Ql hlt, by omega⟩
theorem Qiu {n : Nat} {t : List Int} (h : IsTak n t) : ∀ (k : Nat) (seen : List Int) (x : Int), Below n seen → 0 ≤ x ∧ x < n → Below n (seen ++ orbN t k seen x)
 | 0, seen, x, hs, _ => by simpa [orbN] using hs
 | k + 1, seen, x, hs, hx => by
  rw [orbN]
  by_cases hm : x ∈ seen
  ·rw [if_pos hm]; simpa using hs
  ·rw [if_neg hm]
   have := Qiu h k (seen ++ [x]) (atN t x) (hs.snoc hx hm) (Qbp h hx).2
   simpa using this
theorem Qh2 {n : Nat} {t : List Int} (h : IsTak n t) : ∀ i : Nat, i ≤ n → Below n (Qcp t i).1
 | 0, _ => ⟨by simp [Qcp], by simp [Qcp]⟩
 | i + 1, hi => by
  rw [Qcp]
  exact Qiu h _ _ _ (Qh2 h i (by omega)) (by omega)
theorem Qjw (t : List Int) : ∀ i : Nat, (Qcp t i).2.length ≤ i
 | 0 => by simp [Qcp]
 | i + 1 => by
  have := Qjw t i
  rw [Qcp]
  split
  ·simp; omega
  ·exact Nat.le_succ_of_le this
set_option maxHeartbeats 2000000 in
theorem W57 (t : List Int) (h : IsTak t.length t ∧ t.length ≤ 1000) : Qal Try.prog 57 [.sl 1 (t.map eI)] (.sl 1 ((Qea t).map eCan)) := by
 refine Qak Qtz hmix Try.func57 cb57 cc57 cs57 cn57 ?_
 obtain ⟨hT, hl⟩ := h
 simp only [rc57, rs57, Qa9, Qa8, Qad, Qa6, Qgq, Qae, Qa7, Qa2, Fam.step, Qaf, Qcf, Qb6, nv, evO, opv, qv, lenV, Qa1, Qa0, Qa3, ↓reduceIte, Nat.reduceEqDiff, Qa, Qc, Qg, Qe, Qy, Qq, zipA, Qh, true_and, and_self, reduceCtorEq, Qn]
 refine Qc2 t.length (fun i => ⟨lkp [(0, .sl 1 (t.map eI)), (3, .rf 1 (Qcp t i).2.length 0 (Qcp t i).2.length 1), (4, .mp 0 0), (10, .i t.length), (11, .i i)], [.map false (cmKs (Qcp t i).1) (cmVs (Qcp t i).1), .cells (Qcp t i).2.length ((Qcp t i).2.map eCan).flatten]⟩) ?_ ?_ ?_
 ·have e0 : Qcp t 0 = ([], []) := rfl
  have e1 : cmKs [] = [] := rfl
  have e2 : cmVs [] = [] := rfl
  simp only [Zj, e0, e1, e2, Qt, kp, Qa0, Qa3, ↓reduceIte, Nat.reduceEqDiff, Qa, Qc, Qe, reduceCtorEq]
 ·intro i hi
  have hlt : (i : Int) < t.length := by omega
  obtain ⟨seen, hseen⟩ : ∃ s, s = (Qcp t i).1 := ⟨_, rfl⟩
  obtain ⟨out, hout⟩ : ∃ s, s = (Qcp t i).2 := ⟨_, rfl⟩
  obtain ⟨O, hO⟩ : ∃ O, O = orbN t (t.length - seen.length) seen i := ⟨_, rfl⟩
  have hS := Qh2 hT i (by omega)
  have ho := Qjw t i
  have hst : Qcp t (i + 1) = (seen ++ O, if 1 < O.length then out ++ [O] else out) := by rw [Qcp, ← hseen, ← hout, ← hO]
  rw [← hseen] at hS
  rw [hst, ← hseen, ← hout]
  rw [← hout] at ho
  have h3 : inI ((i : Int) + 1) := by unfold inI; omega
  have hnc := Qrt
  simp only [hlt, Qag, Qa9, Qa8, Qac, Qad, Qa6, Qgq, Qae, Qa7, Qa2, Fam.step, Qaf, evO, opv, qv, binV, kp, Qa1, Qa0, Qa3, ↓reduceIte, Nat.reduceEqDiff, Nat.reduceAdd, Qa, Qc, Qg, Qe, Qy, Qq, Qh, decide_true, true_and, reduceCtorEq]
  refine Qhd (fun k σ => ∃ (own : List Int) (n : Int), k = t.length - (seen ++ own).length ∧ Below t.length (seen ++ own) ∧ (0 ≤ n ∧ n < t.length) ∧ own ++ orbN t (t.length - (seen ++ own).length) (seen ++ own) n = O ∧
   σ = ⟨lkp [(0, .sl 1 (t.map eI)), (3, .rf 1 out.length 0 out.length 1), (4, .mp 0 0), (6, .rf 2 own.length 0 own.length 1), (7, .i n), (10, .i t.length), (11, .i i)], [.map false (cmKs (seen ++ own)) (cmVs (seen ++ own)), .cells out.length (out.map eCan).flatten, .cells own.length (own.map eI).flatten]⟩) ?_ ?_
  ·refine ⟨_, [], i, rfl, by simpa using hS, by omega, by simpa using hO.symm, ?_⟩
   simp only [Qi, Qt, kp, Qa0, Qa3, ↓reduceIte, Nat.reduceEqDiff, Qa, Qc, Qe, Qi, reduceCtorEq]
  ·rintro k σ ⟨own, n, rfl, hB, hn, hOO, rfl⟩
   obtain ⟨xs, hxs⟩ : ∃ xs, xs = seen ++ own := ⟨_, rfl⟩
   rw [← hxs] at hB hOO
   rw [← hxs]
   have hget := Qvm xs n
   have hks : ∀ k ∈ cmKs xs, k.length = 1 := fun k hk => by
    obtain ⟨x, _, rfl⟩ := (Qki xs k).1 hk; rfl
   obtain ⟨hat, ha1⟩ := Qbp hT hn
   by_cases hm : n ∈ xs
   ·have hcnt : xs.count n ≠ 0 := by
     have := List.count_pos_iff.2 hm; omega
    have hc0 : ¬ (xs.count n : Int) = 0 := by omega
    have hend : own = O := by
     rw [← hOO]
     have : orbN t (t.length - xs.length) xs n = [] := by
      cases hk : t.length - xs.length with
      | zero => rfl
      | succ k => rw [orbN, if_pos hm]
     rw [this, Qi]
    rw [hend] at hxs
    have hfl : Qax (out.length + 1) := by unfold Qax; omega
    by_cases hO1 : 1 < O.length
    ·have hO2 : (1 : Int) < O.length := by omega
     have hsn : ((out ++ [O]).map eCan).flatten = (out.map eCan).flatten ++ [V.sl 1 (O.map eI)] := by simp [eCan]
     simp only [hget, hc0, hend, Qar _ _ _ (hnc _), Qar _ _ _ (Qce _), hpF, upB, Qe7 _ _ (Qf2 _), Qgj, Ze, Zk, Qfy, vw_I, hO1, hO2, Qhr, hfl, h3, Q0, Zc, Qt, hsn, ← hxs, Q2, Q3, Qa9, Qa8, Qac, Qb1, Qa6, Qcb, Qck, ↓Qbq, cutH, putB, lkpV, keyL, Qed, Qae, Qaj, Qa7, Qa2, Fam.step, Qaf, Qcf, Qb6, putB, nv, sv, Qc8, evO, opv, qv, binV, lenV, Qas, putAt, Qb7, Qb4, V.cells, Qav, Qbm, Qab, Qa5, kp, cutV, cutB, Qa1, Qa0, Qa3, ↓reduceIte, Nat.reduceEqDiff, Nat.reduceLT, Qa, Qc, Q9, Zd, Qg, Qe, Qw, Zi, Zl, Qk, Qx, Qu, Qy, Qq, Qi, Qd, Qf, Q4, Zg, Q1, Q6, Qam, Qe8, Qh, Qs, Qo, Qb, decide_true, decide_false, and_self, false_implies, reduceCtorEq, not_false_eq_true, ne_eq, Qn]
    ·have hO2 : ¬ (1 : Int) < O.length := by omega
     simp only [hget, hc0, hend, Qar _ _ _ (hnc _), Qar _ _ _ (Qce _), hpF, upB, Qe7 _ _ (Qf2 _), Qgj, Ze, Zk, Qfy, vw_I, hO1, hO2, h3, ← hxs, Q2, Q3, Qag, Qa9, Qa8, Qac, Qb1, Qa6, Qcb, ↓Qbq, cutH, lkpV, keyL, Qed, Qae, Qaj, Qa7, Qa2, Fam.step, Qaf, evO, opv, qv, binV, lenV, kp, cutV, cutB, Qa1, Qa0, Qa3, ↓reduceIte, Nat.reduceEqDiff, Nat.reduceLT, Qa, Qc, Qg, Qe, Qw, Zi, Qk, Qx, Qy, Qq, Qd, Qf, Qe8, Qh, Qb, decide_false, and_self, false_implies, reduceCtorEq, Qn]
   ·have hcnt : xs.count n = 0 := List.count_eq_zero.2 hm
    have hc0 : (xs.count n : Int) = 0 := by omega
    have hput := Qvn xs n
    rw [hcnt] at hput
    have hput' : Qgo (cmKs xs) (cmVs xs) [n] (.i 1) = cmVs (xs ++ [n]) := hput
    have hkk : putK (cmKs xs) [n] = cmKs (xs ++ [n]) := (Qga xs n).symm
    have hB2 := hB.snoc hn hm
    have hBl := hB2.len
    rw [Q0, Z6] at hBl
    have hol : own.length ≤ xs.length := by rw [hxs, Q0]; omega
    have hfl : Qax (own.length + 1) := by unfold Qax; omega
    have i1 : inI 1 := by unfold inI; omega
    have hI1 : ((own ++ [n]).map eI).flatten = (own.map eI).flatten ++ [V.i n] := by simp [eI]
    simp only [hget, hc0, hat, hn, Qgj, Ze, hfl, i1, hput', hkk, Zc, Qt, Qag, Qa9, Qa8, Qac, Qad, Qa6, Qck, putB, lkpV, keyL, Qed, Qae, Qaj, Qa7, Qa2, Fam.step, Qaf, Qcf, Qb6, putB, nv, sv, Qc8, evO, opv, qv, binV, ldV, iadV, Qas, putAt, Qb7, Qb4, V.cells, Qav, Qbm, Qab, Qa5, kp, Qa1, Qbn, Qa0, Qa3, ↓reduceIte, Nat.reduceEqDiff, Nat.reduceLeDiff, Int.reduceAdd, Qa, Qc, Q9, Zd, Qg, Qe, Qw, Zl, Qk, Qx, Qu, Zb, Qq, Qi, Qd, Qf, Qj, Q4, Zg, Q1, Q6, vw_i, Qh, Qs, Qo, Qb, decide_true, true_and, and_self, false_implies, reduceCtorEq, not_false_eq_true, ne_eq, Q5, Qn, Qr, Qz, eI]
    refine ⟨t.length - (seen ++ (own ++ [n])).length, ?_, own ++ [n], atN t n, rfl, ?_, ha1, ?_, ?_⟩
    ·rw [← Zy, ← hxs, Q0, Z6]; omega
    ·rw [← Zy, ← hxs]; exact hB2
    ·rw [← Zy seen, ← hxs, Q0, Z6]
     obtain ⟨k, hk⟩ : ∃ k, t.length - xs.length = k + 1 := ⟨t.length - xs.length - 1, by omega⟩
     rw [hk, orbN, if_neg hm] at hOO
     rw [show t.length - (xs.length + 1) = k by omega, Zy]
     exact hOO
    ·rw [← Zy seen, ← hxs, hI1]
     simp only [Q0, Qg, Qe, Qh]
 ·have hlt : ¬ ((t.length : Int) < t.length) := by omega
  have e : (Qcp t t.length).2 = Qea t := rfl
  simp only [hlt, e, Qhr, Ze, Zk, Qh1, vw_C, Qa9, Qa8, Qac, Qb1, Qah, Qa6, Qae, Qaj, Qa7, Qa2, Fam.step, Qaf, evO, opv, qv, binV, Qa1, Qa0, Qa3, ↓reduceIte, Nat.reduceEqDiff, Qa, Qc, Qd, Qf, endQ, rvs, rv1, resV, Qe8, Qh, Qb, decide_false, and_self, reduceCtorEq]
def e55 (a : List Int × Int) : List V := [.sl 1 (a.1.map eI), .i a.2]
def d55 : List V → List Int × Int | [.sl _ x0, .i x1] => (x0.map dI, x1) | _ => ([], 0)
theorem Qy1 (a : List Int × Int) : d55 (e55 a) = a := by simp [d55, e55, Function.comp_def, Qd8]
noncomputable def HK1 : Gam := HJ2.ext 55 (fnG e55 d55 (fun a => (fun (l : List Int) (sum : Int) => l.length ≤ 1000 ∧ 0 ≤ sum ∧ sum ≤ 1) a.1 a.2) (fun a => (fun (l : List Int) (sum : Int) => mirN l sum l.length) a.1 a.2) (fun l => .sl 1 (l.map eCan)))
theorem Qyq : GOk Try.prog HK1 := Qtz.ext (f := 55) (fun a w => Try.call55 a w) (Qb9 (e := e55) (d := d55) (ok := (fun a => (fun (l : List Int) (sum : Int) => l.length ≤ 1000 ∧ 0 ≤ sum ∧ sum ≤ 1) a.1 a.2)) (g := (fun a => (fun (l : List Int) (sum : Int) => mirN l sum l.length) a.1 a.2)) (eb := (fun l => .sl 1 (l.map eCan))) fun a h => W55 a.1 a.2 h)
theorem h55 (l : List Int) (sum : Int) : HK1 55 [.sl 1 (l.map eI), .i sum] = (l.length ≤ 1000 ∧ 0 ≤ sum ∧ sum ≤ 1, ((fun l => .sl 1 (l.map eCan))) (mirN l sum l.length)) :=
 (show HK1 55 _ = fnG e55 d55 (fun a => (fun (l : List Int) (sum : Int) => l.length ≤ 1000 ∧ 0 ≤ sum ∧ sum ≤ 1) a.1 a.2) (fun a => (fun (l : List Int) (sum : Int) => mirN l sum l.length) a.1 a.2) (fun l => .sl 1 (l.map eCan)) (e55 (l, sum)) from rfl).trans (Qb5 _ (Qy1 _))
def e57 (a : List Int) : List V := [.sl 1 (a.map eI)]
def d57 : List V → List Int | [.sl _ x0] => (x0.map dI) | _ => ([])
theorem Qy3 (a : List Int) : d57 (e57 a) = a := by simp [d57, e57, Function.comp_def, Qd8]
noncomputable def HK2 : Gam := HK1.ext 57 (fnG e57 d57 (fun a => (fun (t : List Int) => IsTak t.length t ∧ t.length ≤ 1000) a) (fun a => (fun (t : List Int) => Qea t) a) (fun l => .sl 1 (l.map eCan)))
theorem Qwo : GOk Try.prog HK2 := Qyq.ext (f := 57) (fun a w => Try.call57 a w) (Qb9 (e := e57) (d := d57) (ok := (fun a => (fun (t : List Int) => IsTak t.length t ∧ t.length ≤ 1000) a)) (g := (fun a => (fun (t : List Int) => Qea t) a)) (eb := (fun l => .sl 1 (l.map eCan))) fun a h => W57 a h)
theorem h57 (t : List Int) : HK2 57 [.sl 1 (t.map eI)] = (IsTak t.length t ∧ t.length ≤ 1000, ((fun l => .sl 1 (l.map eCan))) (Qea t)) :=
 (show HK2 57 _ = fnG e57 d57 (fun a => (fun (t : List Int) => IsTak t.length t ∧ t.length ≤ 1000) a) (fun a => (fun (t : List Int) => Qea t) a) (fun l => .sl 1 (l.map eCan)) (e57 (t)) from rfl).trans (Qb5 _ (Qy3 _))
theorem Qux (t : List Int)  : HK2 54 [.sl 1 (t.map eI)] = (t.length ≤ 1000000, .i (takE t)) := h54 t
theorem Qsf (l : List Int) (sum : Int)  : HK2 55 [.sl 1 (l.map eI), .i sum] = (l.length ≤ 1000 ∧ 0 ≤ sum ∧ sum ≤ 1, ((fun l => .sl 1 (l.map eCan))) (mirN l sum l.length)) := h55 l sum
theorem Qfa {n : Nat} {t : List Int} (h : IsTak n t) : ∀ i : Nat, i ≤ n → ∀ c ∈ (Qcp t i).2, c.length ≤ n
 | 0, _ => by simp [Qcp]
 | i + 1, hi => by
  intro c hc
  rw [Qcp] at hc
  simp only at hc
  split at hc
  ·rcases Xn.1 hc with hc | hc
   ·exact Qfa h i (by omega) c hc
   ·rw [Zt] at hc
    have := (Qiu h (t.length - (Qcp t i).1.length) _ i (Qh2 h i (by omega)) (by omega)).len
    rw [Q0] at this
    rw [hc]; omega
  ·exact Qfa h i (by omega) c hc
def Qdd (t : List Int) (sum : Int) (i : Nat) : List (List Int) := ((Qea t).take i).flatMap fun c => mirN c sum c.length
def Qco (t : List Int) : List (List Int) × List (List Int) × Int := if takE t = 0 then (Qdd t 0 (Qea t).length, Qdd t 1 (Qea t).length, 0) else ([], [], 1)
def r3V (r : List (List Int) × List (List Int) × Int) : V := .tp [.sl 1 (r.1.map eCan), .sl 1 (r.2.1.map eCan), .i r.2.2]
theorem Qmn (l : List Int) (sum : Int) (n : Nat) : (mirN l sum n).length ≤ n := by
 unfold mirN
 refine Xd (Xz _ _) ?_
 rw [Xe]; exact Zk _
theorem Qjt (t : List Int) : takE t = 0 ∨ takE t = 1 := by unfold takE; split <;> simp
set_option maxHeartbeats 2000000 in
theorem W24 (t : List Int) (h : t.length ≤ 1000000) : Qal Try.prog 24 [.sl 1 (t.map eI)] (r3V (Qco t)) := by
 refine Qak Qwo hmix Try.func24 cb24 cc24 cs24 cn24 ?_
 have g1 := Qux t
 by_cases h0 : takE t = 0
 ·have hB : takB t = true := by unfold takE at h0; split at h0 <;> first | assumption | cases h0
  obtain ⟨h7, hT⟩ := (Qkw t).1 hB
  have g2 := h57 t
  have hok : IsTak t.length t ∧ t.length ≤ 1000 := ⟨hT, by omega⟩
  have hcl : (Qea t).length ≤ t.length := Qjw t t.length
  have hmb : ∀ (s : Int) (i : Nat), i ≤ (Qea t).length → (Qdd t s i).length ≤ i * 7 := fun s i => by
   induction i with
   | zero => intro _; simp [Qdd]
   | succ i ih =>
    intro hi
    have := ih (by omega)
    obtain ⟨c, hc⟩ : ∃ c, (Qea t)[i]? = some c := ⟨_, Ql (by omega)⟩
    have h1 := Qmn c s c.length
    have h2 := Qfa hT t.length (Zk _) c (Zp hc)
    unfold Qdd at this ⊢
    rw [Qbf hc, X8, Q0, X6]
    omega
  simp only [rc24, rs24, g1, h, h0, g2, hok, Qag, Qa9, Qa8, Qac, Qad, Qa6, Qgq, Qae, Qa7, Qa2, Fam.step, Qaf, evO, opv, qv, binV, lenV, Qap, Qab, Qa5, flat, Qa1, Qa0, Qa3, ↓reduceIte, Nat.reduceEqDiff, Nat.reduceLT, Qa, Qc, Qg, Qe, Qy, Qq, Qi, Qam, zipA, Qh, Qo, Q8, Qb, decide_true, true_and, and_self, implies_true, reduceCtorEq, imp_self, Qn]
  refine Qc2 (Qea t).length (fun i => ⟨lkp [(2, .rf 0 i 0 (Qdd t 0 i).length 1), (3, .rf 1 i 0 (Qdd t 1 i).length 1), (6, .fn 55 []), (15, .sl 1 ((Qea t).map eCan)), (16, .i (Qea t).length), (17, .i i)], [.cells i ((Qdd t 0 i).map eCan).flatten, .cells i ((Qdd t 1 i).map eCan).flatten]⟩) ?_ ?_ ?_
  ·have e0 : ∀ s, Qdd t s 0 = [] := fun _ => rfl
   simp only [Zj, e0, Qt, kp, Qa0, Qa3, ↓reduceIte, Nat.reduceEqDiff, Qa, Qc, Qe]
  ·intro i hi
   obtain ⟨c, hc⟩ : ∃ c, (Qea t)[i]? = some c := ⟨_, Ql hi⟩
   have hlt : (i : Int) < (Qea t).length := by omega
   have hcs := Qfa hT t.length (Zk _) c (Zp hc)
   have h3 : inI ((i : Int) + 1) := by unfold inI; omega
   have ec : eCan c = [.sl 1 (c.map eI)] := rfl
   have g3 := Qsf c 0
   have g4 := Qsf c 1
   have hst : ∀ s, Qdd t s (i + 1) = Qdd t s i ++ mirN c s c.length := fun s => by unfold Qdd; rw [Qbf hc, X8, X6]
   have hc10 : c.length ≤ 1000 := by omega
   have m0 := hmb 0 i (by omega)
   have m1 := hmb 1 i (by omega)
   have n0 := Qmn c 0 c.length
   have n1 := Qmn c 1 c.length
   have f0 : Qax ((Qdd t 0 i).length + (mirN c 0 c.length).length) := by unfold Qax; omega
   have f1 : Qax ((Qdd t 1 i).length + (mirN c 1 c.length).length) := by unfold Qax; omega
   have z1 : (0 : Int) ≤ 1 := by omega
   simp only [hc, hlt, g3, g4, hc10, hst, Qhr, Ze, f0, f1, z1, h3, Int.le_refl, Q0, Zu, Zz, Q2, Q3, Qag, Qa9, Qa8, Qac, Qad, Qa6, putB, Qae, Qaj, Qa7, Qa2, Fam.step, Qaf, Qcf, Qb6, putB, nv, sv, Qc8, evO, opv, qv, binV, ldV, iadV, Qap, Qab, Qa5, flat, kp, Qa1, Qa0, Qa3, ↓reduceIte, Nat.reduceEqDiff, Nat.reduceLT, Nat.reduceLeDiff, Qa, Qc, Qg, Qe, Zb, Qi, Qd, Qf, Qj, Q4, Zg, vw_i, Qam, Q7, Qh, Qo, Qb, decide_true, and_self, Q5, imp_self, Qn, Qm, Qr, Qz, eCan]
  ·have hlt : ¬ (((Qea t).length : Int) < (Qea t).length) := by omega
   simp only [hlt, Qhr, Ze, Zk, Qh1, vw_C, r3V, Qco, h0, Qa9, Qa8, Qac, Qb1, Qah, Qa6, Qae, Qaj, Qa7, Qa2, Fam.step, Qaf, evO, opv, qv, binV, ldV, Qa1, Qa0, Qa3, ↓reduceIte, Nat.reduceEqDiff, Qa, Qc, Qd, Qf, endQ, rvs, rv1, resV, vw_i, Qd5, Qe8, Qh, Qb, decide_false, and_self]
 ·have h1 : takE t = 1 := by rcases Qjt t with e | e; exact absurd e h0; exact e
  simp only [rc24, rs24, g1, h, h1, Qco, r3V, Qa9, Qa8, Qac, Qah, Qa6, Qae, Qa7, Qa2, Fam.step, Qaf, evO, opv, qv, binV, ldV, Qap, Qab, Qa5, flat, Qa1, Qa0, Qa3, ↓reduceIte, Nat.reduceEqDiff, Nat.reduceLT, Int.reduceEq, Qa, Qc, Qi, Qv, endQ, rvs, rv1, resV, vw_i, vw_z, Qam, Qd5, zipA, Qo, Zh, Qb, decide_false, and_self, implies_true, reduceCtorEq]
def e24 (a : List Int) : List V := [.sl 1 (a.map eI)]
def d24 : List V → List Int | [.sl _ x0] => (x0.map dI) | _ => ([])
theorem Qxk (a : List Int) : d24 (e24 a) = a := by simp [d24, e24, Function.comp_def, Qd8]
noncomputable def HK3 : Gam := HK2.ext 24 (fnG e24 d24 (fun a => (fun (t : List Int) => t.length ≤ 1000000) a) (fun a => (fun (t : List Int) => Qco t) a) r3V)
theorem Qwp : GOk Try.prog HK3 := Qwo.ext (f := 24) (fun a w => Try.call24 a w) (Qb9 (e := e24) (d := d24) (ok := (fun a => (fun (t : List Int) => t.length ≤ 1000000) a)) (g := (fun a => (fun (t : List Int) => Qco t) a)) (eb := r3V) fun a h => W24 a h)
theorem h24 (t : List Int) : HK3 24 [.sl 1 (t.map eI)] = (t.length ≤ 1000000, r3V (Qco t)) :=
 (show HK3 24 _ = fnG e24 d24 (fun a => (fun (t : List Int) => t.length ≤ 1000000) a) (fun a => (fun (t : List Int) => Qco t) a) r3V (e24 (t)) from rfl).trans (Qb5 _ (Qxk _))
theorem W59 (l : List Int) (h : l.length ≤ 1000000) : Qdl Try.prog 59 [.sl 1 (l.map eI)] (.rf 0 1 0 l.length 1) [.cells 1 (l.map eI).flatten] := by
 refine Qkm Qwp hmix Try.func59 cb59 cc59 cs59 cn59 ?_
 simp only [rc59, rs59, Qag, Qa9, Qa8, Qac, Qj9, Qah, Qa6, Qu8, Qx7, putB, endO, Qae, Qa7, Qa2, Fam.step, Qaf, Qcf, Qb6, putB, nv, sv, Qc8, evO, opv, qv, Qas, Qb7, Qb4, Qa1, Qa0, Qa3, ↓reduceIte, Nat.reduceEqDiff, Nat.reduceMul, Qa, Qc, Qe, Qq, Qd, Q4, Q1, rvs, rv1, resV, zipA, Qh, true_and, and_self, reduceCtorEq, ne_eq, Qn, Xi]
 refine fun b hb => ⟨fun e => ?_, fun e => ?_⟩
 ·have hl : l = [] := by
   cases l with
   | nil => rfl
   | cons x l => exact absurd (hb (by simp)) (by rw [e]; simp)
  subst hl
  simp only [Qt, Qc, Qe, and_self]
 ·have h1 : Qax l.length := by unfold Qax; omega
  simp only [h1, Qt, Qe, Qq, and_self]
def e59 (l : List Int) : List V := [.sl 1 (l.map eI)]
def d59 : List V → List Int | [.sl _ l] => l.map dI | _ => []
theorem Qy4 (l : List Int) : d59 (e59 l) = l := by simp [d59, e59, Function.comp_def, Qd8]
noncomputable def HK4 : Gam := HK3.ext 1000059 (fnG e59 d59 (fun l => l.length ≤ 1000000) (fun l => l) fun l => .tp [.rf 0 1 0 l.length 1, .tp [bV (.cells 1 (l.map eI).flatten)]])
theorem Qwq : GOk Try.prog HK4 := Qwp.extO (f := 59) (r := fnG e59 d59 (fun l => l.length ≤ 1000000) (fun l => l) fun l => .tp [.rf 0 1 0 l.length 1, .tp [bV (.cells 1 (l.map eI).flatten)]]) (fun a w => Try.call59 a w) fun vs v bs h1 h2 => by
  simp only [fnG, V.tp.injEq, List.cons.injEq, and_true] at h1 h2
  obtain ⟨h3, h4⟩ := h2
  rw [← h1.1, ← h3, ← h4]
  simp only [Qa, Qc, Qek]
  exact W59 _ h1.2
theorem h59 (l : List Int) : HK4 1000059 [.sl 1 (l.map eI)] = (l.length ≤ 1000000, .tp [.rf 0 1 0 l.length 1, .tp [bV (.cells 1 (l.map eI).flatten)]]) :=
 (show HK4 1000059 _ = fnG e59 d59 (fun l => l.length ≤ 1000000) (fun l => l) (fun l => .tp [.rf 0 1 0 l.length 1, .tp [bV (.cells 1 (l.map eI).flatten)]]) (e59 l) from rfl).trans (Qb5 _ (Qy4 _))
end Go.C10
set_option linter.unusedSimpArgs false
set_option linter.unusedVariables false
namespace Go.C10
open Go.Fam Go.Proofs
variable {Γ : Gam}
def Qht (t : List Int) (a b : Int) : List Int := (t.set a.toNat (atN t b)).set b.toNat (atN t a)
theorem Qo9 (t : List Int) (a b : Int) : (Qht t a b).length = t.length := by simp [Qht]
theorem Qr6 {t : List Int} {a b : Int} (ha : 0 ≤ a ∧ a < t.length) (hb : 0 ≤ b ∧ b < t.length) (i : Nat) : atN (Qht t a b) i = if (i : Int) = b then atN t a else if (i : Int) = a then atN t b else atN t i := by
 unfold Qht
 conv => lhs; unfold atN
 rw [Qm]
 by_cases h1 : (i : Int) = b
 ·rw [if_pos h1, show b.toNat = i by omega, Zq (by simp; omega)]; rfl
 ·rw [if_neg h1, Zw (by omega)]
  by_cases h2 : (i : Int) = a
  ·rw [if_pos h2, show a.toNat = i by omega, Zq (by omega)]; rfl
  ·rw [if_neg h2, Zw (by omega)]
   unfold atN; rw [Qm]
theorem Qj3 {n : Nat} {t : List Int} (h : IsTak n t) {i j : Nat} (hi : i < n) (hj : j < n) (e : atN t i = atN t j) : i = j := by
 have hl := h.len
 rw [Qm] at hl
 refine Classical.byContradiction fun hij => ?_
 have hp := Zn.1 (Qp.1 h.nodup)
 have get : ∀ {k : Nat} (hk : k < t.length), atN t (k : Int) = t[k] := fun {k} hk => by
  unfold atN; rw [Qm, Ql hk]; rfl
 rw [get (by omega), get (by omega)] at e
 rcases Xq hij with h1 | h1
 ·exact hp i j (by omega) (by omega) h1 e
 ·exact hp j i (by omega) (by omega) h1 e.symm
theorem Qr7 {n : Nat} {t : List Int} (hl : t.length = n) (hin : ∀ i : Nat, i < n → 0 ≤ atN t i ∧ atN t i < n) (hinj : ∀ i j : Nat, i < n → j < n → atN t i = atN t j → i = j) : IsTak n t := by
 have get : ∀ {k : Nat} (hk : k < t.length), atN t (k : Int) = t[k] := fun {k} hk => by
  unfold atN; rw [Qm, Ql hk]; rfl
 refine ⟨by simpa using hl, fun x hx => ?_, ?_⟩
 ·obtain ⟨i, hi, rfl⟩ := Zx.1 hx
  have := hin i (by omega)
  rw [get hi] at this; omega
 ·rw [Qp, Zn]
  intro i j hi hj hij e
  have := hinj i j (by omega) (by omega) (by rw [get hi, get hj]; exact e)
  omega
theorem Qoa {n : Nat} {t : List Int} (h : IsTak n t) {a b : Int} (ha : 0 ≤ a ∧ a < n) (hb : 0 ≤ b ∧ b < n) : IsTak n (Qht t a b) := by
 have hl := h.len
 rw [Qm] at hl
 have hsw := Qr6 (t := t) (a := a) (b := b) (by omega) (by omega)
 refine Qr7 (by rw [Qo9]; exact hl) (fun i hi => ?_) (fun i j hi hj e => ?_)
 ·rw [hsw]
  split
  ·exact (Qbp h ha).2
  ·split
   ·exact (Qbp h hb).2
   ·exact (Qbp h (by omega)).2
 ·rw [hsw, hsw] at e
  have key : ∀ x y : Int, 0 ≤ x ∧ x < n → 0 ≤ y ∧ y < n → atN t x = atN t y → x = y := fun x y hx hy e => by
   have h1 : ((x.toNat : Nat) : Int) = x := by omega
   have h2 : ((y.toNat : Nat) : Int) = y := by omega
   have := Qj3 h (i := x.toNat) (j := y.toNat) (by omega) (by omega) (by rw [h1, h2]; exact e)
   omega
  by_cases i1 : (i : Int) = b
  ·rw [if_pos i1] at e
   by_cases j1 : (j : Int) = b
   ·omega
   ·rw [if_neg j1] at e
    by_cases j2 : (j : Int) = a
    ·rw [if_pos j2] at e; have := key _ _ ha hb e; omega
    ·rw [if_neg j2] at e; have := key _ _ ha (by omega) e; omega
  ·rw [if_neg i1] at e
   by_cases i2 : (i : Int) = a
   ·rw [if_pos i2] at e
    by_cases j1 : (j : Int) = b
    ·rw [if_pos j1] at e; have := key _ _ hb ha e; omega
    ·rw [if_neg j1] at e
     by_cases j2 : (j : Int) = a
     ·omega
     ·rw [if_neg j2] at e; have := key _ _ hb (by omega) e; omega
   ·rw [if_neg i2] at e
    by_cases j1 : (j : Int) = b
    ·rw [if_pos j1] at e; have := key _ _ (by omega) ha e; omega
    ·rw [if_neg j1] at e
     by_cases j2 : (j : Int) = a
     ·rw [if_pos j2] at e; have := key _ _ (by omega) hb e; omega
     ·rw [if_neg j2] at e; have := key _ _ (by omega) (by omega) e; omega
def mis (t : List Int) : Nat := (Xj t.length).countP fun (i : Nat) => decide (atN t i ≠ i)
theorem Ql9 {p q : Nat → Bool} : ∀ (l : List Nat), (∀ x ∈ l, q x = true → p x = true) → (∃ x ∈ l, p x = true ∧ q x = false) → l.countP q < l.countP p
 | [], _, h => by obtain ⟨x, hx, _⟩ := h; cases hx
 | y :: l, h1, h2 => by
  have hle : l.countP q ≤ l.countP p := List.countP_mono_left fun x hx => h1 x (by simp [hx])
  obtain ⟨x, hx, h3, h4⟩ := h2
  rw [Je, Je]
  rcases Z5.1 hx with rfl | hx
  ·rw [h3, h4]; simp; omega
  ·have := Ql9 l (fun x hx => h1 x (by simp [hx])) ⟨x, hx, h3, h4⟩
   have := h1 y (by simp)
   cases hq : q y <;> cases hp : p y <;> simp_all <;> omega
theorem Qsr {n : Nat} {t : List Int} (h : IsTak n t) {g : Int} (hg : 0 ≤ g ∧ g < n) (hne : atN t g ≠ g) : mis (Qht t g (atN t g)) < mis t := by
 have hl := h.len
 rw [Qm] at hl
 obtain ⟨o, ho⟩ : ∃ o, o = atN t g := ⟨_, rfl⟩
 have hoi := (Qbp h hg).2
 rw [← ho] at hoi hne ⊢
 have hsw := Qr6 (t := t) (a := g) (b := o) (by omega) (by omega)
 unfold mis
 rw [Qo9]
 have key : ∀ x y : Int, 0 ≤ x ∧ x < n → 0 ≤ y ∧ y < n → atN t x = atN t y → x = y := fun x y hx hy e => by
  have h1 : ((x.toNat : Nat) : Int) = x := by omega
  have h2 : ((y.toNat : Nat) : Int) = y := by omega
  have := Qj3 h (i := x.toNat) (j := y.toNat) (by omega) (by omega) (by rw [h1, h2]; exact e)
  omega
 have hoo : atN t o ≠ o := fun e => by
  have := key o g hoi hg (e.trans ho)
  omega
 have hoN : ((o.toNat : Nat) : Int) = o := by omega
 have hgN : ((g.toNat : Nat) : Int) = g := by omega
 refine Ql9 _ (fun x hx hq => ?_) ⟨o.toNat, Z9.2 (by omega), ?_, ?_⟩
 ·rw [decide_eq_true_eq] at hq ⊢
  rw [hsw] at hq
  by_cases h1 : (x : Int) = o
  ·rw [h1]; exact hoo
  ·rw [if_neg h1] at hq
   by_cases h2 : (x : Int) = g
   ·rw [h2, ← ho]; exact hne
   ·rw [if_neg h2] at hq; exact hq
 ·rw [decide_eq_true_eq, hoN]; exact hoo
 ·rw [decide_eq_false_iff_not, Classical.not_not, hsw, if_pos hoN, ← ho, hoN]
theorem Qsq (t : List Int) : mis t ≤ t.length := by
 unfold mis
 exact Xd List.countP_le_length (by rw [Xe]; exact Zk _)
def fixG : Nat → Int → List Int → List Int × List (List Int)
 | 0, _, t => (t, [])
 | k + 1, g, t => if atN t g = g then (t, []) else ((fixG k g (Qht t g (atN t g))).1, Qgn g (atN t g) :: (fixG k g (Qht t g (atN t g))).2)
theorem Qnd {n : Nat} : ∀ (k : Nat) (g : Int) (t : List Int), IsTak n t → 0 ≤ g ∧ g < n → IsTak n (fixG k g t).1 ∧ (fixG k g t).2.length + mis (fixG k g t).1 ≤ mis t
 | 0, g, t, h, _ => ⟨h, by simp [fixG]⟩
 | k + 1, g, t, h, hg => by
  rw [fixG]
  by_cases e : atN t g = g
  ·rw [if_pos e]; exact ⟨h, by simp⟩
  ·rw [if_neg e]
   obtain ⟨h1, h2⟩ := Qnd k g (Qht t g (atN t g)) (Qoa h hg (Qbp h hg).2) hg
   have := Qsr h hg e
   exact ⟨h1, by simp only [Qg]; omega⟩
def exS (t : List Int) : Nat → List Int × List (List Int)
 | 0 => (t, [])
 | i + 1 => ((fixG t.length i (exS t i).1).1, (exS t i).2 ++ (fixG t.length i (exS t i).1).2)
theorem Qps {t : List Int} (h : IsTak t.length t) : ∀ i : Nat, i ≤ t.length → IsTak t.length (exS t i).1 ∧ (exS t i).2.length + mis (exS t i).1 ≤ mis t
 | 0, _ => ⟨h, by simp [exS]⟩
 | i + 1, hi => by
  obtain ⟨h1, h2⟩ := Qps h i (by omega)
  obtain ⟨h3, h4⟩ := Qnd t.length i _ h1 (by omega)
  rw [exS]
  exact ⟨h3, by simp only [Q0]; omega⟩
def Qeu (t : List Int) : List (List Int) × Int := if takE t = 0 then ((exS t t.length).2, 0) else ([], 1)
theorem Quy (t : List Int)  : HK4 54 [.sl 1 (t.map eI)] = (t.length ≤ 1000000, .i (takE t)) := h54 t
theorem Quz (a : Int) (b : Int)  : HK4 56 [.i a, .i b] = (True, ((fun l => .sl 1 (l.map eI))) (Qgn a b)) := h56 a b
theorem Qo8 (l : List Int) (i : Nat) (x : Int) (h : i < l.length) : putAt i [V.i x] (l.map eI).flatten = ((l.set i x).map eI).flatten := by
 have e : ∀ l : List Int, (l.map eI).flatten = l.map V.i := fun l => by induction l with | nil => rfl | cons a l ih => simp [eI, ih]
 rw [Qqi _ _ _ (by rw [e, Qn]; exact h), e, e, List.map_set]
theorem Qnf (l : List Int) (i : Nat) : (l.map eI).flatten[i]? = (l[i]?).map V.i := by
 have e : ∀ l : List Int, (l.map eI).flatten = l.map V.i := fun l => by induction l with | nil => rfl | cons a l ih => simp [eI, ih]
 rw [e, Qz]
theorem Qie {l : List Int} {i : Nat} {x : Int} (h : l[i]? = some x) : (List.drop i (l.map eI).flatten).headD .u = .i x := by
 have hf := Qnf l i
 rw [h, Q5] at hf
 have hi := Qan hf
 rw [List.drop_eq_getElem_cons hi]
 rw [Ql hi] at hf
 exact Jf.inj hf
set_option maxHeartbeats 2000000 in
theorem W27 (t : List Int) (h : t.length ≤ 1000000) : Qal Try.prog 27 [.sl 1 (t.map eI)] (.tp [.sl 1 ((Qeu t).1.map eCan), .i (Qeu t).2]) := by
 refine Qak Qwq hmix Try.func27 cb27 cc27 cs27 cn27 ?_
 have g1 := Quy t
 by_cases h0 : takE t = 0
 ·have hB : takB t = true := by unfold takE at h0; split at h0 <;> first | assumption | cases h0
  obtain ⟨h7, hT⟩ := (Qkw t).1 hB
  have g2 := h59 t
  simp only [rc27, rs27, g1, h, h0, g2, Qdh _ _ (Qf2 _), Qag, Qa9, Qa8, Qac, Qad, Qa6, Qgq, Qjc, ocV, nidQ, plO, plQ, plB, Qdr, Qe1, shV, shB, Qek, Qae, Qa7, Qa2, Fam.step, Qaf, Qb6, evO, opv, qv, binV, lenV, Qap, Qab, Qa5, flat, Qa1, Qa0, Qa3, ↓reduceIte, Nat.reduceEqDiff, Nat.reduceAdd, Nat.reduceLT, Qa, Qc, Q9, Zd, Qg, Qe, Qy, Qq, Qi, Qd, Qam, zipA, Qh, X3, Za, Zr, Z0, Qo, Q8, Qb, decide_true, true_and, and_self, implies_true, reduceCtorEq]
  refine Qc2 t.length (fun i => ⟨lkp [(5, .rf 0 1 0 t.length 1), (6, .rf 1 (exS t i).2.length 0 (exS t i).2.length 1), (17, .i t.length), (18, .i i)], [.cells 1 ((exS t i).1.map eI).flatten, .cells (exS t i).2.length ((exS t i).2.map eCan).flatten]⟩) ?_ ?_ ?_
  ·have e0 : exS t 0 = (t, []) := rfl
   simp only [Zj, e0, Qt, kp, Qa0, Qa3, ↓reduceIte, Nat.reduceEqDiff, Qa, Qc, Qe]
  ·intro i hi
   have hlt : (i : Int) < t.length := by omega
   obtain ⟨hE, hE2⟩ := Qps hT i (by omega)
   have hml := Qsq t
   obtain ⟨T0, hT0⟩ : ∃ s, s = (exS t i).1 := ⟨_, rfl⟩
   obtain ⟨out, hout⟩ : ∃ s, s = (exS t i).2 := ⟨_, rfl⟩
   obtain ⟨F, hF⟩ : ∃ F, F = fixG t.length i T0 := ⟨_, rfl⟩
   have hst : exS t (i + 1) = (F.1, out ++ F.2) := by rw [exS, ← hT0, ← hout, ← hF]
   rw [← hT0] at hE hE2
   rw [← hout] at hE2
   rw [hst, ← hT0, ← hout]
   have h3 : inI ((i : Int) + 1) := by unfold inI; omega
   have hi1 : i + 1 ≤ t.length := hi
   simp only [hlt, Qag, Qa9, Qa8, Qac, Qad, Qa6, Qae, Qa7, Qa2, Fam.step, Qaf, evO, opv, qv, binV, kp, Qa1, Qa0, Qa3, ↓reduceIte, Nat.reduceEqDiff, Qa, Qc, decide_true, true_and]
   refine Qhd (fun k σ => ∃ (T : List Int) (o2 : List (List Int)) (f : Nat), k = mis T ∧ IsTak t.length T ∧ mis T ≤ f ∧ o2.length + mis T ≤ t.length ∧ (fixG f i T).1 = F.1 ∧ o2 ++ (fixG f i T).2 = out ++ F.2 ∧
    σ = ⟨lkp [(5, .rf 0 1 0 t.length 1), (6, .rf 1 o2.length 0 o2.length 1), (7, .i i), (17, .i t.length), (18, .i i)], [.cells 1 (T.map eI).flatten, .cells o2.length (o2.map eCan).flatten]⟩) ?_ ?_
   ·refine ⟨_, T0, out, t.length, rfl, hE, ?_, by omega, by rw [hF], by rw [hF], ?_⟩
    ·have := Qsq T0
     have hl := hE.len
     rw [Qm] at hl
     omega
    ·simp only [kp, Qa0, Qa3, ↓reduceIte, Nat.reduceEqDiff, Qa, Qc]
   ·rintro k σ ⟨T, o2, f, rfl, hTT, hf, ho2, hF1, hF2, rfl⟩
    have hTl := hTT.len
    rw [Qm] at hTl
    obtain ⟨hat, ha1⟩ := Qbp hTT (x := i) (by omega)
    rw [Qm] at hat
    have hfg := Qnf T i
    rw [hat, Q5] at hfg
    have hTi := Qgj T
    obtain ⟨o, ho⟩ : ∃ o, o = atN T i := ⟨_, rfl⟩
    rw [← ho] at hat ha1 hfg
    by_cases e : o = i
    ·have hfx : fixG f i T = (T, []) := by
      cases f with
      | zero => rfl
      | succ f => rw [fixG, ← ho, if_pos e]
     rw [hfx] at hF1 hF2
     simp only [Qi] at hF1 hF2
     have hdr := Qie hat
     rw [e] at hdr
     simp only [hdr, hTi, hTl, Ze, hi1, hlt, h3, ← hF1, ← hF2, Q2, Q3, Qa9, Qa8, Qac, Qb1, Qa6, Qae, Qaj, Qa7, Qa2, Fam.step, Qaf, evO, opv, qv, binV, ldV, iadV, kp, Qa1, Qa0, Qa3, ↓reduceIte, Nat.reduceEqDiff, Qa, Qc, Qd, Q7, Qh, Q8, Qb, decide_true, and_self, Qm]
    ·have hdr := Qie hat
     have hoi : 0 ≤ o ∧ o < t.length := by omega
     obtain ⟨hat2, ha2⟩ := Qbp hTT (x := o) (by omega)
     have hdr2 := Qie hat2
     have ho1 : o.toNat + 1 ≤ t.length := by omega
     have hs1 := Qo8 T i (atN T o) (by omega)
     have hs2 := Qo8 (T.set i (atN T o)) o.toNat o (by simp; omega)
     unfold putAt at hs1 hs2
     simp only [Qg, Qe, Qh] at hs1 hs2
     have hsw : (T.set i (atN T o)).set o.toNat o = Qht T i o := by unfold Qht; rw [Qm, ← ho]
     rw [hsw] at hs2
     have hTs := Qgj (T.set i (atN T o))
     rw [Jh, hTl] at hTs
     have g3 := Quz i o
     have hne : atN T i ≠ i := by rw [← ho]; exact e
     have hmlt := Qsr hTT (g := i) (by omega) hne
     rw [← ho] at hmlt
     have hsT := Qoa hTT (a := i) (b := o) (by omega) (by omega)
     have hfl : Qax (o2.length + 1) := by unfold Qax; omega
     have ecp : ∀ l : List Int, eCan l = [.sl 1 (l.map eI)] := fun _ => rfl
     have hsn : ((o2 ++ [Qgn i o]).map eCan).flatten = (o2.map eCan).flatten ++ [V.sl 1 ((Qgn i o).map eI)] := by simp [eCan]
     simp only [hdr, hdr2, hTi, hTl, Ze, hi1, ho1, hoi, hlt, e, hs1, hs2, hTs, g3, Qhr, hfl, Zc, Qt, Qag, Qa9, Qbo, Qa8, Qac, Qad, Qa6, Qck, Qba, optL, putB, Qae, Qaj, Qa7, Qa2, Fam.step, Qaf, Qcf, Qb6, runX, eff, Qb8, fpR, fpQ, fpV, Qc3, hits, putB, nv, sv, Qc8, evO, opv, qv, binV, ldV, iadV, Qap, Qas, putAt, Qb7, Qb4, V.cells, Qav, Qbm, Qab, Qa5, flat, kp, Qa1, Qbn, Qa0, Qa3, ↓reduceIte, Nat.reduceEqDiff, Nat.reduceLT, Nat.reduceLeDiff, Qa, Qc, Q9, Zd, Qg, Qe, Qw, Zl, Qk, Qx, Qu, Qy, Qq, Qi, Qd, Qf, Qv, Qj, Z2, Q4, Zg, Q1, Q6, Xk, Xf, vw_i, Qam, Q7, Qh, Qs, Za, Zr, Z0, Qo, Xx, Q8, Zh, Qb, decide_false, true_and, and_self, reduceCtorEq, not_false_eq_true, ne_eq, Xy, X5, Xc, Xg, imp_self, Qm, Qr]
     obtain ⟨f, rfl⟩ : ∃ f', f = f' + 1 := ⟨f - 1, by omega⟩
     rw [fixG, if_neg hne, ← ho] at hF1 hF2
     refine ⟨_, hmlt, Qht T i o, o2 ++ [Qgn i o], f, rfl, hsT, by omega, by rw [Q0, Z6]; omega, hF1, by rw [Zy]; exact hF2, ?_⟩
     rw [hsn]
     simp only [Q0, Qg, Qe, Qh]
  ·have hlt : ¬ ((t.length : Int) < t.length) := by omega
   simp only [hlt, Qhr, Ze, Zk, Qh1, vw_C, Qeu, h0, Qa9, Qa8, Qac, Qb1, Qah, Qa6, Qae, Qaj, Qa7, Qa2, Fam.step, Qaf, evO, opv, qv, binV, ldV, Qa1, Qa0, Qa3, ↓reduceIte, Nat.reduceEqDiff, Qa, Qc, Qd, Qf, endQ, rvs, rv1, resV, vw_i, Qd5, Qe8, Qh, Qb, decide_false, and_self]
 ·have h1 : takE t = 1 := by rcases Qjt t with e | e; exact absurd e h0; exact e
  simp only [rc27, rs27, g1, h, h1, Qeu, Qa9, Qa8, Qac, Qah, Qa6, Qae, Qa7, Qa2, Fam.step, Qaf, evO, opv, qv, binV, ldV, Qap, Qab, Qa5, flat, Qa1, Qa0, Qa3, ↓reduceIte, Nat.reduceEqDiff, Nat.reduceLT, Int.reduceEq, Qa, Qc, Qi, Qv, endQ, rvs, rv1, resV, vw_i, vw_z, Qam, Qd5, zipA, Qo, Zh, Qb, decide_false, and_self, implies_true, reduceCtorEq]
def e27 (a : List Int) : List V := [.sl 1 (a.map eI)]
def d27 : List V → List Int | [.sl _ x0] => (x0.map dI) | _ => ([])
theorem Qxl (a : List Int) : d27 (e27 a) = a := by simp [d27, e27, Function.comp_def, Qd8]
noncomputable def HL1 : Gam := HK4.ext 27 (fnG e27 d27 (fun a => (fun (t : List Int) => t.length ≤ 1000000) a) (fun a => (fun (t : List Int) => Qeu t) a) (fun r => .tp [.sl 1 (r.1.map eCan), .i r.2]))
theorem Qwr : GOk Try.prog HL1 := Qwq.ext (f := 27) (fun a w => Try.call27 a w) (Qb9 (e := e27) (d := d27) (ok := (fun a => (fun (t : List Int) => t.length ≤ 1000000) a)) (g := (fun a => (fun (t : List Int) => Qeu t) a)) (eb := (fun r => .tp [.sl 1 (r.1.map eCan), .i r.2])) fun a h => W27 a h)
theorem h27 (t : List Int) : HL1 27 [.sl 1 (t.map eI)] = (t.length ≤ 1000000, ((fun r => .tp [.sl 1 (r.1.map eCan), .i r.2])) (Qeu t)) :=
 (show HL1 27 _ = fnG e27 d27 (fun a => (fun (t : List Int) => t.length ≤ 1000000) a) (fun a => (fun (t : List Int) => Qeu t) a) (fun r => .tp [.sl 1 (r.1.map eCan), .i r.2]) (e27 (t)) from rfl).trans (Qb5 _ (Qxl _))
theorem W19 (t : List Int) (h : t.length ≤ 1000000) : Qal Try.prog 19 [.sl 1 (t.map eI)] (.tp [.i (Qeu t).1.length, .i (Qeu t).2]) := by
 refine Qak Qwr hmix Try.func19 cb19 cc19 cs19 cn19 ?_
 have g1 := h27 t
 simp only [rc19, rs19, g1, h, Qa9, Qa8, Qah, Qa6, Qae, Qa7, Qa2, Fam.step, Qaf, evO, opv, qv, ldV, lenV, Qap, Qab, Qa5, flat, Qcx, Qa1, Qa0, Qa3, ↓reduceIte, Nat.reduceEqDiff, Nat.reduceAdd, Nat.reduceLT, Qa, Qc, Qg, Qe, Qi, Qd, Qf, Qv, Qj, endQ, rvs, rv1, resV, vw_i, Qam, Qd5, zipA, Qh, Qs, Za, Qo, Qb, and_self, reduceCtorEq, imp_self, Qn]
def e19 (a : List Int) : List V := [.sl 1 (a.map eI)]
def d19 : List V → List Int | [.sl _ x0] => (x0.map dI) | _ => ([])
theorem Qxj (a : List Int) : d19 (e19 a) = a := by simp [d19, e19, Function.comp_def, Qd8]
noncomputable def HL2 : Gam := HL1.ext 19 (fnG e19 d19 (fun a => (fun (t : List Int) => t.length ≤ 1000000) a) (fun a => (fun (t : List Int) => Qeu t) a) (fun r => .tp [.i r.1.length, .i r.2]))
theorem Qrv : GOk Try.prog HL2 := Qwr.ext (f := 19) (fun a w => Try.call19 a w) (Qb9 (e := e19) (d := d19) (ok := (fun a => (fun (t : List Int) => t.length ≤ 1000000) a)) (g := (fun a => (fun (t : List Int) => Qeu t) a)) (eb := (fun r => .tp [.i r.1.length, .i r.2])) fun a h => W19 a h)
theorem h19 (t : List Int) : HL2 19 [.sl 1 (t.map eI)] = (t.length ≤ 1000000, ((fun r => .tp [.i r.1.length, .i r.2])) (Qeu t)) :=
 (show HL2 19 _ = fnG e19 d19 (fun a => (fun (t : List Int) => t.length ≤ 1000000) a) (fun a => (fun (t : List Int) => Qeu t) a) (fun r => .tp [.i r.1.length, .i r.2]) (e19 (t)) from rfl).trans (Qb5 _ (Qxj _))
end Go.C10
set_option linter.unusedSimpArgs false
set_option linter.unusedVariables false
namespace Go.C10
open Go.Fam Go.Proofs
def cutF (n : Nat) (f : Nat → Nat) (i : Nat) : Nat := if f i = n then f n else f i
structure PermF (n : Nat) (f : Nat → Nat) : Prop where
 in_ : ∀ i, i < n → f i < n
 inj : ∀ i j, i < n → j < n → f i = f j → i = j
def Quh (f : Nat → Nat) (a b i : Nat) : Nat := if i = b then f a else if i = a then f b else f i
theorem PermF.cut {n : Nat} {f : Nat → Nat} (h : PermF (n + 1) f) : PermF n (cutF n f) := by
 refine ⟨fun i hi => ?_, fun i j hi hj e => ?_⟩
 ·unfold cutF
  have h1 := h.in_ i (by omega)
  have h2 := h.in_ n (by omega)
  split
  ·rename_i e
   have : f n ≠ n := fun e2 => by have := h.inj i n (by omega) (by omega) (by rw [e, e2]); omega
   omega
  ·omega
 ·unfold cutF at e
  split at e
  ·rename_i e1
   split at e
   ·rename_i e2
    exact h.inj i j (by omega) (by omega) (by rw [e1, e2])
   ·have := h.inj n j (by omega) (by omega) e; omega
  ·split at e
   ·have := h.inj i n (by omega) (by omega) e; omega
   ·exact h.inj i j (by omega) (by omega) e
theorem PermF.hit {n : Nat} {f : Nat → Nat} (h : PermF (n + 1) f) : ∃ c, c < n + 1 ∧ f c = n := by
 refine Classical.byContradiction fun hno => ?_
 have hnd : ((Xj (n + 1)).map f).Nodup := by
  rw [Qp, Z7]
  refine Xm.imp_of_mem ?_ (Qp.1 X2)
  intro a b ha hb hab e
  exact hab (h.inj a b (by simpa using ha) (by simpa using hb) e)
 have := Qf1 hnd (n := n) (fun a ha => by
  obtain ⟨b, hb, rfl⟩ := Zv.1 ha
  rw [Z9] at hb
  have h1 := h.in_ b hb
  have : f b ≠ n := fun e => hno ⟨b, hb, e⟩
  omega)
 simp at this
 omega
theorem PermF.swap {n : Nat} {f : Nat → Nat} (h : PermF n f) {a b : Nat} (ha : a < n) (hb : b < n) : PermF n (Quh f a b) := by
 refine ⟨fun i hi => ?_, fun i j hi hj e => ?_⟩
 ·unfold Quh
  split
  ·exact h.in_ a ha
  ·split
   ·exact h.in_ b hb
   ·exact h.in_ i hi
 ·unfold Quh at e
  by_cases i1 : i = b
  ·rw [if_pos i1] at e
   by_cases j1 : j = b
   ·omega
   ·rw [if_neg j1] at e
    by_cases j2 : j = a
    ·rw [if_pos j2] at e; have := h.inj _ _ ha hb e; omega
    ·rw [if_neg j2] at e; have := h.inj _ _ ha hj e; omega
  ·rw [if_neg i1] at e
   by_cases i2 : i = a
   ·rw [if_pos i2] at e
    by_cases j1 : j = b
    ·rw [if_pos j1] at e; have := h.inj _ _ hb ha e; omega
    ·rw [if_neg j1] at e
     by_cases j2 : j = a
     ·omega
     ·rw [if_neg j2] at e; have := h.inj _ _ hb hj e; omega
   ·rw [if_neg i2] at e
    by_cases j1 : j = b
    ·rw [if_pos j1] at e; have := h.inj _ _ hi ha e; omega
    ·rw [if_neg j1] at e
     by_cases j2 : j = a
     ·rw [if_pos j2] at e; have := h.inj _ _ hi hb e; omega
     ·rw [if_neg j2] at e; exact h.inj _ _ hi hj e
section
variable {n a : Nat} {f : Nat → Nat} (h : PermF (n + 1) f) (ha : a < n)
include h ha
end
end Go.C10
set_option linter.unusedSimpArgs false
set_option linter.unusedVariables false
namespace Go.C10
open Go.Fam Go.Proofs
def fnT (t : List Int) (i : Nat) : Nat := (atN t i).toNat
theorem IsTak.size {n : Nat} {t : List Int} (h : IsTak n t) : t.length = n := by have := h.len; rwa [Qm] at this
theorem IsTak.at {n : Nat} {t : List Int} (h : IsTak n t) {i : Nat} (hi : i < n) : 0 ≤ atN t i ∧ atN t i < n := (Qbp h (by omega)).2
theorem Qrx {n : Nat} {t : List Int} (h : IsTak n t) : PermF n (fnT t) := by
 refine ⟨fun i hi => ?_, fun i j hi hj e => ?_⟩
 ·have := h.at hi; unfold fnT; omega
 ·have h1 := h.at hi
  have h2 := h.at hj
  unfold fnT at e
  exact Qj3 h hi hj (by omega)
def bkN (t : List Int) : Nat → List Int
 | 0 => List.replicate t.length 0
 | i + 1 => (bkN t i).set (atN t i).toNat i
theorem Qpb (t : List Int) : ∀ i, (bkN t i).length = t.length
 | 0 => by simp [bkN]
 | i + 1 => by rw [bkN, Jh, Qpb t i]
theorem Qvj {n : Nat} {t : List Int} (h : IsTak n t) : ∀ (i : Nat), i ≤ n → ∀ j : Nat, j < i → atN (bkN t i) (atN t j) = j
 | 0, _, j, hj => by omega
 | i + 1, hi, j, hj => by
  have hl := Qpb t i
  have hs := h.size
  have h1 := h.at (i := i) (by omega)
  have h2 := h.at (i := j) (by omega)
  rw [bkN]
  unfold atN
  by_cases e : j = i
  ·subst e
   have : (List.set (bkN t j) (t[(j : Int).toNat]?.getD 0).toNat (j : Int))[(t[(j : Int).toNat]?.getD 0).toNat]? = some (j : Int) := Zq (by unfold atN at h1; omega)
   rw [this]; rfl
  ·have hne : (t[(i : Int).toNat]?.getD 0).toNat ≠ (t[(j : Int).toNat]?.getD 0).toNat := fun e2 => by
    have : atN t i = atN t j := by unfold atN at h1 h2 ⊢; omega
    exact e (Qj3 h (by omega) (by omega) this).symm
   rw [Zw hne]
   exact Qvj h i (by omega) j (by omega)
theorem Qpa {n : Nat} {t : List Int} (h : IsTak n t) : ∀ j : Nat, j < n → atN (bkN t n) (atN t j) = j := Qvj h n (Zk _)
theorem Qkx {n : Nat} {t : List Int} (h : IsTak n t) {u : Nat} (hu : u < n) : ∃ i : Nat, i < n ∧ atN t i = u := by
 cases n with
 | zero => omega
 | succ n =>
  refine Classical.byContradiction fun hno => ?_
  have hp := Qrx h
  have hnd : ((u :: (Xj (n + 1)).map (fnT t))).Nodup := by
   rw [Z4]
   refine ⟨fun hm => ?_, ?_⟩
   ·obtain ⟨i, hi, e⟩ := Zv.1 hm
    rw [Z9] at hi
    have := h.at hi
    unfold fnT at e
    exact hno ⟨i, hi, by omega⟩
   ·rw [Qp, Z7]
    refine Xm.imp_of_mem ?_ (Qp.1 X2)
    intro a b ha hb hab e
    exact hab (hp.inj a b (by simpa using ha) (by simpa using hb) e)
  have := Qf1 hnd (n := n + 1) (fun a ha => by
   rcases Z5.1 ha with rfl | ha
   ·exact hu
   ·obtain ⟨b, hb, rfl⟩ := Zv.1 ha
    exact hp.in_ b (by simpa using hb))
  simp at this
  omega
theorem Qsk {n : Nat} {t : List Int} (h : IsTak n t) : IsTak n (bkN t n) := by
 have hb := Qpa h
 refine Qr7 (by rw [Qpb, h.size]) (fun u hu => ?_) (fun u v hu hv e => ?_)
 ·obtain ⟨i, hi, e⟩ := Qkx h hu
  rw [← e, hb i hi]; omega
 ·obtain ⟨i, hi, e1⟩ := Qkx h hu
  obtain ⟨j, hj, e2⟩ := Qkx h hv
  rw [← e1, ← e2, hb i hi, hb j hj] at e
  have : i = j := by omega
  subst this
  omega
end Go.C10
