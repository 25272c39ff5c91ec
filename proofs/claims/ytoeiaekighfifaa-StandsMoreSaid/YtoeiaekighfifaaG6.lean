import Derived.Test.YtoeiaekighfifaaG5
import Derived.Test.YtoeiaekighfifaaG3
import Derived.Test.YtoeiaekighfifaaChecked
set_option linter.all false
open List renaming map_cons → Qa, map_nil → Qc, getElem?_cons_zero → Qd, length_nil → Qe, getElem?_cons_succ → Qf, length_cons → Qg, append_nil → Qi, take_succ_cons → Qk, getElem?_eq_getElem → Ql, length_map → Qn, nil_append → Qp, getD_eq_getElem?_getD → Qq, flatten_nil → Qs, take_nil → Qt, getElem?_nil → Qu, drop_succ_cons → Qv, nodup_iff_pairwise_ne → Qw, take_zero → Qx, cons_append → Qy, getElem?_map → Qz, length_append → Q0, replicate_zero → Q1, set_cons_zero → Q4, replicate_succ → Q6, all_cons → Q9, headD_cons → Zb, flatten_cons → Zc, all_nil → Zd, getElem?_of_mem → Zf, set_cons_succ → Zg, drop_zero → Zi, drop_nil → Zk, mem_filter → Zm, pairwise_iff_getElem → Zn, getElem?_eq_none → Zo, mem_of_getElem? → Zp, mem_singleton → Zs, map_append → Zt, mem_iff_getElem → Zu, append_assoc → Zv, flatten_append → Zw, take_length → Zy, all_eq_true → Z0, getElem?_set_self → Z1, length_singleton → Z2, getElem?_set_ne → Z4, exists_mem_of_ne_nil → Z5, getElem?_append_left → Z6, mem_cons → Z7, nodup_cons → Z8, contains_cons → Z9, mem_map → Xa, length_range → Xc, isEmpty_cons → Xd, contains_nil → Xe, length_filter_le → Xf, isEmpty_nil → Xh, any_eq_true → Xi, mem_append → Xj, length_pos_iff → Xl, getElem?_append_right → Xn, mem_range → Xp, mem_take_iff_getElem → Xq, any_eq_false → Xr, nodup_append → Xs, ext_getElem? → Xt, pairwise_map → Xu, any_cons → Xw, length_filterMap_le → Xx, length_take → Xy, getElem_mem → Xz, range → X1, find?_cons_of_neg → X2, any_nil → X3, flatMap_singleton → X4, filter_sublist → X5, flatMap_append → X6, Pairwise → X7, ne_nil_of_mem → X8, filter_append → X9, find?_eq_none → Ja, countP_cons → Jd, range_succ → Jf
open Nat renaming zero_add → Qh, mul_one → Ze, le_refl → Zl, le_trans → Xb, lt_or_gt_of_ne → Xm, add_zero → X0
open Bool renaming false_eq_true → Qb, or_false → Qo, and_self → Qr, not_true → Q8, and_true → Za, not_false → Zh, true_and → Zq, and_eq_true → Zr, false_and → Zx, not_eq_true → Xg, false_or → Xv, true_eq_false → Jc
open Option renaming getD_some → Qj, map_some → Q5, getD_none → Zz, map_none → Xk, isSome_some → Xo, isSome_none → Jb, some → Je
open Int renaming toNat_natCast → Qm, natCast_add → Q2, natCast_one → Q3, natCast_nonneg → Q7, natCast_zero → Zj, toNat_zero → Z3
set_option linter.unusedSimpArgs false
set_option linter.unusedVariables false
namespace Go.C10
open Go.Fam Go.Proofs
variable {Γ : Gam}
structure IsTak (g : Int) (t : List Int) : Prop where
 len : t.length = g.toNat
 in_ : ∀ x ∈ t, 0 ≤ x ∧ x ≤ g - 1
 nodup : t.Nodup
theorem Qhs {g : Int} : ∀ (r : Nat) (F t : List Int), t ∈ extN g r F ↔ ∃ m, t = F ++ m ∧ m.length = r ∧ (∀ x ∈ m, 0 ≤ x ∧ x ≤ g - 1) ∧ m.Nodup ∧ ∀ x ∈ m, x ∉ F
 | 0, F, t => by
  simp only [extN, Zs]
  constructor
  ·rintro rfl
   exact ⟨[], by simp, rfl, by simp, List.nodup_nil, by simp⟩
  ·rintro ⟨m, rfl, hm, _⟩
   rw [List.eq_nil_of_length_eq_zero hm, Qi]
 | r + 1, F, t => by
  rw [extN, List.mem_flatMap]
  constructor
  ·rintro ⟨u, hu, ht⟩
   rw [Zm, Qhf, decide_eq_true_eq] at hu
   obtain ⟨m, rfl, hm, h1, h2, h3⟩ := (Qhs r (F ++ [u]) t).1 ht
   refine ⟨u :: m, by simp, by simp [hm], ?_, ?_, ?_⟩
   ·intro x hx
    rcases Z7.1 hx with rfl | hx
    ·exact hu.1
    ·exact h1 x hx
   ·rw [Z8]
    exact ⟨fun hum => h3 u hum (by simp), h2⟩
   ·intro x hx
    rcases Z7.1 hx with rfl | hx
    ·exact hu.2
    ·intro hF; exact h3 x hx (by simp [hF])
  ·rintro ⟨m, rfl, hm, h1, h2, h3⟩
   cases m with
   | nil => simp at hm
   | cons u m =>
    rw [Z8] at h2
    refine ⟨u, ?_, (Qhs r (F ++ [u]) _).2 ⟨m, by simp, by simpa using hm, fun x hx => h1 x (by simp [hx]), h2.2, fun x hx hF => ?_⟩⟩
    ·rw [Zm, Qhf, decide_eq_true_eq]
     exact ⟨h1 u (by simp), h3 u (by simp)⟩
    ·rcases Xj.1 hF with h | h
     ·exact h3 x (by simp [hx]) h
     ·rw [Zs] at h
      subst h
      exact h2.1 hx
theorem Qre {g : Int} {t : List Int} : t ∈ extN g g.toNat [] ↔ IsTak g t := by
 rw [Qhs]
 constructor
 ·rintro ⟨m, rfl, h1, h2, h3, _⟩
  exact ⟨by simpa using h1, by simpa using h2, by simpa using h3⟩
 ·rintro ⟨h1, h2, h3⟩
  exact ⟨t, rfl, h1, h2, h3, by simp⟩
theorem Qdq {s : Stand} {t : List Int} : t ∈ Qag s ↔ IsTak s.guests t ∧ Qda s t = true := by
 unfold Qag Qca
 rw [Zm, Qre]
theorem Qj2 {s : Stand} (h : OkS s) (hne : Qag s ≠ []) {g : Int} (hg : Qao s.guests g = true) : OkT (Qag s) g := by
 have hl := Qe1 h
 have hgs := h.guests
 simp only [Qao, Qba, Zr, decide_eq_true_eq] at hg
 exact ⟨hne, by omega, by omega, fun t ht => by have := (Qdq.1 ht).1.len; omega⟩
theorem Qgw : ∀ l : List Int, Qa4 (l.map V.i) = false
 | [] => rfl
 | a :: l => by rw [Qa, Qa4, Qgw l]; rfl
def canR (s : Stand) (g : Int) : List Int × Int := if (Qbo s [g]).2 = 0 then (Qc1 (Qag s) g, 0) else ([], (Qbo s [g]).2)
theorem Qjn {s : Stand} {gs : List Int} (h : (Qbo s gs).2 = 0) : Qb2 s = 0 ∧ (∀ g ∈ gs, Qao s.guests g = true) ∧ Qag s ≠ [] ∧ (Qbo s gs).1 = Qag s := by
 unfold Qbo at h ⊢
 by_cases hc : Qb2 s = 0
 ·rw [if_neg (by simpa using hc)] at h ⊢
  by_cases ha : (gs.any fun n => !Qao s.guests n) = true
  ·rw [if_pos ha] at h; cases h
  ·rw [if_neg ha] at h ⊢
   by_cases ht : Qag s = []
   ·rw [if_pos ht] at h; cases h
   ·rw [if_neg ht]
    refine ⟨hc, fun g hg => ?_, ht, rfl⟩
    simp only [Xg, Xr, Bool.not_eq_eq_eq_not, Q8, Bool.not_eq_false] at ha
    simpa using ha g hg
 ·rw [if_pos hc] at h
  exact absurd h hc
theorem Qsw (s : Stand) (gs : List Int)  : HE2 66 [.ag (Qa7 s), .sl 1 (gs.map eI)] = (Qas s ∧ gs.length ≤ 1000000, ((fun r => .tp [.sl 1 (r.1.map eCan), .i r.2])) (Qbo s gs)) := h66 s gs
theorem W37 (s : Stand) (g : Int) (h : Qas s) : Qal Try.prog 37 [.ag (Qa7 s), .i g] (.tp [.sl 1 ((canR s g).1.map eI), .i (canR s g).2]) := by
 refine Qak Quf hmix Try.func37 cb37 cc37 cs37 cn37 ?_
 have g1 := Qsw s [g]
 simp only [Qa7, eI, Qa, Qc, Qg, Qe] at g1
 by_cases h0 : (Qbo s [g]).2 = 0
 ·obtain ⟨hc, hg, hne, e1⟩ := Qjn h0
  have hT := Qj2 (Qfa hc h) hne (hg g (by simp))
  have g2 := h67 (Qag s) g
  simp only [rc37, rs37, g1, h, h0, e1, g2, hT, canR, Zc, Qs, Qah, Qa9, Qa8, Qab, Qaf, Qa5, Qcl, Qad, Qa6, Qa2, Fam.step, Qae, evO, opv, qv, binV, ldV, Qap, Qar, putAt, Qbd, Qb3, V.cells, Qaw, Qbq, Qaa, Qa4, flat, Qd5, Qa1, Qa0, Qa3, ↓reduceIte, Nat.reduceEqDiff, Nat.reduceAdd, Nat.reduceMul, Nat.reduceLT, Nat.reduceLeDiff, Qa, Qc, Q9, Zd, Qg, Qe, Qv, Zk, Qk, Qx, Qt, Qp, Qi, Qd, Qf, Qu, Qj, Q1, Q6, endQ, rvs, rv1, resV, vw_i, Qan, Qax, Qcu, zipA, Qh, Qr, Za, Qo, Q8, Qb, decide_true, and_self, reduceCtorEq, not_false_eq_true, ne_eq, imp_self, Qa7]
 ·simp only [rc37, rs37, g1, h, h0, canR, Zc, Qs, Qa9, Qa8, Qab, Qaf, Qa5, Qcl, Qad, Qa6, Qa2, Fam.step, Qae, evO, opv, qv, binV, ldV, Qap, Qar, putAt, Qbd, Qb3, V.cells, Qaw, Qbq, Qaa, Qa4, flat, Qd5, Qa1, Qa0, Qa3, ↓reduceIte, Nat.reduceEqDiff, Nat.reduceAdd, Nat.reduceMul, Nat.reduceLT, Nat.reduceLeDiff, Qa, Qc, Q9, Zd, Qg, Qe, Qv, Zk, Qk, Qx, Qt, Qp, Qi, Qd, Qf, Qu, Qj, Q1, Q6, endQ, rvs, rv1, resV, vw_i, vw_z, Qan, Qax, Qcu, zipA, Qh, Qr, Za, Qo, Zh, Qb, decide_false, and_self, reduceCtorEq, not_false_eq_true, ne_eq, imp_self, Qa7]
def e37 (a : Stand × Int) : List V := [.ag (Qa7 a.1), .i a.2]
def d37 : List V → Stand × Int | [.ag x0, .i x1] => (Qav x0, x1) | _ => (Qav [], 0)
theorem Qvo (a : Stand × Int) : d37 (e37 a) = a := by simp [d37, e37, Qbe]
noncomputable def HF1 : Gam := HE2.ext 37 (fnG e37 d37 (fun a => (fun (s : Stand) (g : Int) => Qas s) a.1 a.2) (fun a => (fun (s : Stand) (g : Int) => canR s g) a.1 a.2) (fun r => .tp [.sl 1 (r.1.map eI), .i r.2]))
theorem Qug : GOk Try.prog HF1 := Quf.ext (f := 37) (fun a w => Try.call37 a w) (Qb4 (e := e37) (d := d37) (ok := (fun a => (fun (s : Stand) (g : Int) => Qas s) a.1 a.2)) (g := (fun a => (fun (s : Stand) (g : Int) => canR s g) a.1 a.2)) (eb := (fun r => .tp [.sl 1 (r.1.map eI), .i r.2])) fun a h => W37 a.1 a.2 h)
theorem h37 (s : Stand) (g : Int) : HF1 37 [.ag (Qa7 s), .i g] = (Qas s, ((fun r => .tp [.sl 1 (r.1.map eI), .i r.2])) (canR s g)) :=
 (show HF1 37 _ = fnG e37 d37 (fun a => (fun (s : Stand) (g : Int) => Qas s) a.1 a.2) (fun a => (fun (s : Stand) (g : Int) => canR s g) a.1 a.2) (fun r => .tp [.sl 1 (r.1.map eI), .i r.2]) (e37 (s, g)) from rfl).trans (Qb6 _ (Qvo _))
def oneN (d : List Int) : Int := if (1 : Int) < d.length then -1 else d.headD 0
def Qcw (s : Stand) : List Int := (ints 0 (s.guests - 1)).map fun g => oneN (Qc1 (Qag s) g)
def Qcz (s : Stand) : List Int × Int := if (Qbo s []).2 = 0 then (Qcw s, 0) else ([], (Qbo s []).2)
theorem Qsx (s : Stand) (gs : List Int)  : HF1 66 [.ag (Qa7 s), .sl 1 (gs.map eI)] = (Qas s ∧ gs.length ≤ 1000000, ((fun r => .tp [.sl 1 (r.1.map eCan), .i r.2])) (Qbo s gs)) := h66 s gs
theorem Qrd (l : List (List Int)) (g : Int)  : HF1 1000067 [.sl 1 (l.map eCan), .i g] = (OkT l g, .tp [.rf 0 l.length 0 (Qc1 l g).length 1, .tp [bV (.cells l.length (Qdp l g))]]) := h67o l g
set_option maxHeartbeats 1000000 in
theorem W41 (s : Stand) (h : Qas s) : Qal Try.prog 41 [.ag (Qa7 s)] (.tp [.sl 1 ((Qcz s).1.map eI), .i (Qcz s).2]) := by
 refine Qak Qug hmix Try.func41 cb41 cc41 cs41 cn41 ?_
 have g1 := Qsx s []
 simp only [Qa7, Qc, Qe] at g1
 by_cases h0 : (Qbo s []).2 = 0
 ·obtain ⟨hc, _, hne, e1⟩ := Qjn h0
  have hS := Qfa hc h
  have hgs := hS.guests
  simp only [rc41, rs41, g1, h, h0, e1, Qcz, Qah, Qa9, Qa8, Qab, Qac, Qa5, Qh1, Qad, Qa6, Qa2, Fam.step, Qae, evO, opv, qv, binV, ldV, Qap, V.cells, Qaw, Qaa, Qa4, flat, Qd5, Qa1, Qa0, Qa3, ↓reduceIte, Nat.reduceEqDiff, Nat.reduceAdd, Nat.reduceLT, Nat.reduceLeDiff, Int.reduceNeg, Qa, Qc, Qg, Qe, Zi, Qk, Qt, Zb, Qp, Qi, Qd, Qf, Qj, vw_i, vw_z, Qan, Qax, zipA, Qh, Qr, Za, Qo, Q8, Qb, decide_true, true_and, and_self, imp_self, Qa7]
  refine Qch s.guests.toNat (fun i => ⟨lkp [(4, .sl 1 ((Qag s).map eCan)), (6, .rf 0 i 0 i 1), (18, .i s.guests), (19, .i i)], [.cells i (((Qcw s).take i).map eI).flatten]⟩) ?_ ?_ ?_
  ·simp only [Zj, Qx, Qs, cutH, kp, cutV, cutL, cutB, Qa0, Qa3, ↓reduceIte, Nat.reduceEqDiff, Nat.reduceLT, Qa, Qc, Qk, Qx, Qt]
  ·intro i hi
   have hlt : (i : Int) < s.guests := by omega
   have hnx : ∀ x : Int, Qa4 ((((Qcw s).take i).map eI).flatten ++ [V.i x]) = false := fun x => by rw [Qbx, Qfl]; rfl
   have hg : Qao s.guests i = true := by simp only [Qao, Qba, Zr, decide_eq_true_eq]; omega
   have hT := Qj2 hS hne hg
   have g2 := Qrd (Qag s) i
   obtain ⟨d, hd⟩ : ∃ d, d = Qc1 (Qag s) i := ⟨_, rfl⟩
   have hmem := (Qkj (colN (Qag s) i)).2
   have hdn : d ≠ [] := by
    obtain ⟨t, ht⟩ := Z5 _ hne
    have := (hmem (atN t i)).2 (Xa.2 ⟨t, ht, rfl⟩)
    rw [hd]; exact X8 this
   obtain ⟨a, d', had⟩ : ∃ a d', d = a :: d' := List.exists_cons_of_ne_nil hdn
   obtain ⟨Z, hZ⟩ : ∃ Z, Qdp (Qag s) i = .i a :: Z := by
    refine ⟨(Qdp (Qag s) i).tail, ?_⟩
    unfold Qdp
    rw [← hd, had]; rfl
   rw [hZ, ← hd] at g2
   have hZn : Qa4 Z = false := by
    have : Qa4 (Qdp (Qag s) i) = false := by
     unfold Qdp
     exact Qgw _
    rw [hZ] at this
    simpa [Qa4, Qaa] using this
   have h3 : inI ((i : Int) + 1) := by unfold inI; omega
   have hfl : Qaz (i + 1) := by unfold Qaz; omega
   have hki : (Qcw s)[i]? = some (oneN d) := by
    unfold Qcw
    rw [Qz, Qji (by omega), hd]
    simp
   have hkl : ((Qcw s).take i).length = i := by
    have := Qam hki
    rw [Xy]; omega
   have hs := Qbr hki
   have hpos : (0 : Int) < d.length := by have := Xl.2 hdn; omega
   by_cases h1 : (1 : Int) < d.length
   ·have e2 : oneN d = -1 := by unfold oneN; rw [if_pos h1]
    rw [e2] at hs
    simp only [hlt, g2, hT, Qct _ _ hZn, h1, hpos, hs, Qh6, hkl, Ze, hfl, h3, Zt, Zw, Zc, Qs, Q2, Q3, Qaq _ _ _ (hnx _), Qah, Qa9, Qa8, Qab, Qac, Qa5, Qco, Qcl, ↓Qby, Qif, ocV, nidQ, plO, plQ, plB, Qd6, Qg6, Qd9, shV, shL, shB, Qdb, cutH, putB, Qad, Qaj, Qa6, Qa2, Fam.step, Qae, Qce, Qb7, putB, nv, sv, Qc8, evO, opv, qv, binV, ldV, iadV, lenV, Qar, putAt, Qbd, Qb3, V.cells, Qaw, Qbq, Qaa, Qa4, kp, cutV, cutB, Qa1, Qbw, Qa0, Qa3, ↓reduceIte, Nat.reduceEqDiff, Nat.reduceAdd, Nat.reduceLT, Nat.reduceLeDiff, Int.reduceNeg, Z3, Int.reduceLE, Qa, Qc, Q9, Zd, Qg, Qe, Qv, Zi, Zk, Qk, Qx, Qt, Zb, Qy, Qp, Qi, Qd, Qf, Q4, Zg, Q1, Q6, vw_i, Qan, Qnr, Qe9, Qh, X0, Qr, Za, Zq, Zx, Qo, Qb, decide_true, and_self, reduceCtorEq, not_false_eq_true, ne_eq, eI]
   ·have e2 : oneN d = a := by unfold oneN; rw [if_neg h1, had]; rfl
    rw [e2] at hs
    simp only [hlt, g2, hT, Qct _ _ hZn, h1, hpos, hs, Qh6, hkl, Ze, hfl, h3, Zt, Zw, Zc, Qs, Q2, Q3, Qaq _ _ _ (hnx _), Qah, Qa9, Qa8, Qab, Qac, Qa5, Qco, Qcl, ↓Qby, Qif, ocV, nidQ, plO, plQ, plB, Qd6, Qg6, Qd9, shV, shL, shB, Qdb, cutH, putB, Qad, Qaj, Qa6, Qa2, Fam.step, Qae, Qce, Qb7, putB, nv, sv, Qc8, evO, opv, qv, binV, ldV, iadV, lenV, Qar, putAt, Qbd, Qb3, V.cells, Qaw, Qbq, Qaa, Qa4, kp, cutV, cutB, Qa1, Qa0, Qa3, ↓reduceIte, Nat.reduceEqDiff, Nat.reduceAdd, Nat.reduceLT, Nat.reduceLeDiff, Int.reduceNeg, Z3, Int.reduceLE, Qa, Qc, Q9, Zd, Qg, Qe, Qv, Zi, Zk, Qk, Qx, Qt, Zb, Qy, Qp, Qi, Qd, Qf, Q4, Q1, Q6, vw_i, Qan, Qnr, Qe9, Qh, X0, Qr, Za, Zq, Zx, Qo, Qb, decide_true, decide_false, and_self, reduceCtorEq, not_false_eq_true, ne_eq, eI]
  ·have hlt : ¬ ((s.guests.toNat : Int) < s.guests) := by omega
   have hl : (Qcw s).length = s.guests.toNat := by unfold Qcw; rw [Qn, Qfz]; omega
   have ht : (Qcw s).take s.guests.toNat = Qcw s := by rw [← hl, Zy]
   have hck := Qgh (Qcw s)
   rw [hl] at hck
   simp only [hlt, ht, hl, Qh6, Ze, Zl, hck, vw_I, Qa9, Qa8, Qab, Qb0, Qaf, Qa5, Qad, Qaj, Qa6, Qa2, Fam.step, Qae, evO, opv, qv, binV, ldV, Qa1, Qa0, Qa3, ↓reduceIte, Nat.reduceEqDiff, Int.reduceNeg, Qa, Qc, Qd, endQ, rvs, rv1, resV, vw_i, Qcu, Qe9, Qh, Qb, decide_false, and_self]
 ·simp only [rc41, rs41, g1, h, h0, Qcz, Qa9, Qa8, Qab, Qaf, Qa5, Qad, Qa6, Qa2, Fam.step, Qae, evO, opv, qv, binV, ldV, Qap, V.cells, Qaw, Qaa, Qa4, flat, Qd5, Qa1, Qa0, Qa3, ↓reduceIte, Nat.reduceEqDiff, Nat.reduceAdd, Nat.reduceLT, Nat.reduceLeDiff, Int.reduceNeg, Qa, Qc, Qg, Qe, Qk, Qt, Qi, Qd, Qf, Qu, Qj, endQ, rvs, rv1, resV, vw_i, vw_z, Qan, Qax, Qcu, zipA, Qh, Qr, Za, Qo, Zh, Qb, decide_false, and_self, imp_self, Qa7]
def e41 (a : Stand) : List V := [.ag (Qa7 a)]
def d41 : List V → Stand | [.ag x0] => (Qav x0) | _ => (Qav [])
theorem Qvq (a : Stand) : d41 (e41 a) = a := by simp [d41, e41, Qbe]
noncomputable def HF2 : Gam := HF1.ext 41 (fnG e41 d41 (fun a => (fun (s : Stand) => Qas s) a) (fun a => (fun (s : Stand) => Qcz s) a) (fun r => .tp [.sl 1 (r.1.map eI), .i r.2]))
theorem Quh : GOk Try.prog HF2 := Qug.ext (f := 41) (fun a w => Try.call41 a w) (Qb4 (e := e41) (d := d41) (ok := (fun a => (fun (s : Stand) => Qas s) a)) (g := (fun a => (fun (s : Stand) => Qcz s) a)) (eb := (fun r => .tp [.sl 1 (r.1.map eI), .i r.2])) fun a h => W41 a h)
theorem h41 (s : Stand) : HF2 41 [.ag (Qa7 s)] = (Qas s, ((fun r => .tp [.sl 1 (r.1.map eI), .i r.2])) (Qcz s)) :=
 (show HF2 41 _ = fnG e41 d41 (fun a => (fun (s : Stand) => Qas s) a) (fun a => (fun (s : Stand) => Qcz s) a) (fun r => .tp [.sl 1 (r.1.map eI), .i r.2]) (e41 (s)) from rfl).trans (Qb6 _ (Qvq _))
theorem Qsy (t : List Int) (w : Word)  : HF2 70 [.sl 1 (t.map eI), .ag (eWord w)] = (OkSo w t.length, .b (soB w t)) := h70 t w
theorem W69 (t : List Int) (w : Word) (h : OkSo w t.length) : Qal Try.prog 69 [.sl 1 (t.map eI), .pa (eWord w)] (.b (soB w t)) := by
 refine Qak Quh hmix Try.func69 cb69 cc69 cs69 cn69 ?_
 have g1 := Qsy t w
 simp only [eWord] at g1
 simp only [rc69, rs69, g1, h, Qa9, Qa8, Qaf, Qa5, Qad, Qa6, Qa2, Fam.step, Qae, evO, opv, qv, ldV, Qap, Qaa, Qa4, flat, Qa1, Qa0, Qa3, ↓reduceIte, Nat.reduceEqDiff, Nat.reduceAdd, Nat.reduceLT, Nat.reduceLeDiff, Qa, Qc, Qg, Qe, Qk, Qt, Qi, endQ, rvs, rv1, resV, vw_i, vw_b, Qan, Qax, zipA, Qh, Qo, Qb, and_self, implies_true, reduceCtorEq, eWord]
def e69 (a : List Int × Word) : List V := [.sl 1 (a.1.map eI), .pa (eWord a.2)]
def d69 : List V → List Int × Word | [.sl _ l, .pa s] => (l.map dI, Qe8 s) | _ => ([], Qe8 [])
theorem Qw4 (a : List Int × Word) : d69 (e69 a) = a := by simp [d69, e69, Qed, Function.comp_def, Qd4]
noncomputable def HF3 : Gam := HF2.ext 69 (fnG e69 d69 (fun a => OkSo a.2 a.1.length) (fun a => soB a.2 a.1) .b)
theorem Qui : GOk Try.prog HF3 := Quh.ext (f := 69) (fun a w => Try.call69 a w) (Qb4 (e := e69) (d := d69) (ok := fun a => OkSo a.2 a.1.length) (g := fun a => soB a.2 a.1) (eb := .b) fun a h => W69 a.1 a.2 h)
theorem h69 (t : List Int) (w : Word) : HF3 69 [.sl 1 (t.map eI), .pa (eWord w)] = (OkSo w t.length, .b (soB w t)) :=
 (show HF3 69 _ = fnG e69 d69 (fun a => OkSo a.2 a.1.length) (fun a => soB a.2 a.1) .b (e69 (t, w)) from rfl).trans (Qb6 _ (Qw4 _))
def Qhl (l : List (List Int)) (w : Word) : Prop := l.length ≤ 1000000 ∧ ∀ t ∈ l, OkSo w t.length
theorem W86 (l : List (List Int)) (w : Word) (h : Qhl l w) : Qal Try.prog 86 [.sl 1 (l.map eCan), .fn 69 [.pa (eWord w)]] (.i (idxOf (fun t => soB w t) l)) := by
 refine Qak Qui hmix Try.func86 cb86 cc86 cs86 cn86 ?_
 obtain ⟨hl, hs⟩ := h
 simp only [rc86, rs86, Qa9, Qa8, Qac, Qa5, Qad, Qa6, Qa2, Fam.step, Qae, evO, opv, qv, lenV, Qa1, Qa0, Qa3, ↓reduceIte, Nat.reduceEqDiff, Int.reduceNeg, Qa, Qc, zipA, Qh, true_and, reduceCtorEq, Qn, eWord]
 refine Qbk l.length (fun i => ⟨lkp [(0, .sl 1 (l.map eCan)), (1, .fn 69 [.pa (eWord w)]), (7, .i l.length), (8, .i i)], []⟩) (fun i => ∀ j x, j < i → l[j]? = some x → soB w x = false) ?_ ?_ ?_ ?_
 ·simp only [Zj, kp, Qa0, Qa3, ↓reduceIte, Nat.reduceEqDiff, Qa, Qc, reduceCtorEq, eWord]
 ·intro j x h; omega
 ·intro i hi hc
  obtain ⟨x, hx⟩ : ∃ x, l[i]? = some x := ⟨_, Ql hi⟩
  have hlt : (i : Int) < l.length := by omega
  have h3 : inI ((i : Int) + 1) := by unfold inI; omega
  have hp := h69 x w
  simp only [eWord] at hp
  have hxl := hs x (Zp hx)
  have ec : eCan x = [.sl 1 (x.map eI)] := rfl
  simp only [hx, hlt, Q2, Q3, h3, hp, hxl, Qah, Qa9, Qa8, Qab, Qin, Qac, Qaf, Qa5, Qad, Qaj, Qa6, Qa2, Fam.step, Qae, evO, opv, qv, binV, ldV, iadV, Qap, Qaa, Qa4, flat, kp, Qa1, Qa0, Qa3, ↓reduceIte, Nat.reduceEqDiff, Nat.reduceLT, Nat.reduceLeDiff, Int.reduceNeg, Qa, Qc, Qg, Qe, Zb, Qy, Qp, Qj, endQ, rvs, rv1, resV, vw_i, Qan, Qh9, Q7, Qh, V.i.injEq, Qo, Qb, decide_true, true_and, and_true, and_self, implies_true, reduceCtorEq, Q5, Qn, Qm, Qq, Qz, Xg, eWord, eCan]
  refine ⟨fun e => ?_, fun e => ?_⟩
  ·rw [Qfy hx (by simp [e]) hc]
  ·intro j y hj hy
   by_cases hji : j < i
   ·simpa using hc j y hji hy
   ·have : j = i := by omega
    subst this
    rw [hx] at hy; cases hy; simpa using e
 ·intro hc
  simp only [Qa9, Qa8, Qab, Qb0, Qaf, Qa5, Qad, Qaj, Qa6, Qa2, Fam.step, Qae, evO, opv, qv, binV, Qa1, Qa0, Qa3, ↓reduceIte, Nat.reduceEqDiff, Int.reduceNeg, Qa, Qc, endQ, rvs, rv1, resV, vw_i, Int.lt_irrefl, V.i.injEq, Qb, decide_false, true_and, and_self, reduceCtorEq, eWord]
  exact (Qdh fun x hx => by
   obtain ⟨j, hj⟩ := Zf hx
   exact hc j x (by have := Qam hj; exact this) hj).symm
def e86 (a : List (List Int) × Word) : List V := [.sl 1 (a.1.map eCan), .fn 69 [.pa (eWord a.2)]]
def d86 : List V → List (List Int) × Word | [.sl _ l, .fn _ [.pa s]] => (l.map dCan, Qe8 s) | _ => ([], Qe8 [])
theorem Qtq (a : List (List Int) × Word) : d86 (e86 a) = a := by simp [d86, e86, Function.comp_def, Qed, Qki]
noncomputable def HF4 : Gam := HF3.ext 86 (fnG e86 d86 (fun a => Qhl a.1 a.2) (fun a => idxOf (fun t => soB a.2 t) a.1) .i)
theorem Quj : GOk Try.prog HF4 := Qui.ext (f := 86) (fun a w => Try.call86 a w) (Qb4 (e := e86) (d := d86) (ok := fun a => Qhl a.1 a.2) (g := fun a => idxOf (fun t => soB a.2 t) a.1) (eb := .i) fun a h => W86 a.1 a.2 h)
theorem h86 (l : List (List Int)) (w : Word) : HF4 86 [.sl 1 (l.map eCan), .fn 69 [.pa (eWord w)]] = (Qhl l w, .i (idxOf (fun t => soB w t) l)) :=
 (show HF4 86 _ = fnG e86 d86 (fun a => Qhl a.1 a.2) (fun a => idxOf (fun t => soB a.2 t) a.1) .i (e86 (l, w)) from rfl).trans (Qb6 _ (Qtq _))
theorem W68 (l : List (List Int)) (w : Word) (h : Qhl l w) : Qal Try.prog 68 [.sl 1 (l.map eCan), .fn 69 [.pa (eWord w)]] (.b (l.any fun t => soB w t)) := by
 refine Qak Quj hmix Try.func68 cb68 cc68 cs68 cn68 ?_
 have g1 := h86 l w
 simp only [eWord] at g1
 simp only [rc68, rs68, g1, Qa9, Qa8, Qaf, Qa5, Qad, Qa6, Qa2, Fam.step, Qae, evO, opv, qv, binV, Qap, Qaa, Qa4, flat, Qa1, Qa0, Qa3, ↓reduceIte, Nat.reduceEqDiff, Nat.reduceLT, Qa, Qc, Qi, endQ, rvs, rv1, resV, vw_b, Qan, Qh9, Qij, zipA, Qh, V.b.injEq, Qo, Qb, true_and, and_true, and_self, implies_true, reduceCtorEq, eWord]
 exact ⟨h, by rw [Qeh]⟩
noncomputable def HF5 : Gam := HF4.ext 68 (fnG e86 d86 (fun a => Qhl a.1 a.2) (fun a => a.1.any fun t => soB a.2 t) .b)
theorem Quk : GOk Try.prog HF5 := Quj.ext (f := 68) (fun a w => Try.call68 a w) (Qb4 (e := e86) (d := d86) (ok := fun a => Qhl a.1 a.2) (g := fun a => a.1.any fun t => soB a.2 t) (eb := .b) fun a h => W68 a.1 a.2 h)
theorem h68 (l : List (List Int)) (w : Word) : HF5 68 [.sl 1 (l.map eCan), .fn 69 [.pa (eWord w)]] = (Qhl l w, .b (l.any fun t => soB w t)) :=
 (show HF5 68 _ = fnG e86 d86 (fun a => Qhl a.1 a.2) (fun a => a.1.any fun t => soB a.2 t) .b (e86 (l, w)) from rfl).trans (Qb6 _ (Qtq _))
def Qd7 (s : Stand) (n : Nat) : List Int := ((X1 n).filter fun i => match s.words[i]? with | some w => !((Qag s).any fun t => soB w t) | none => false).map Int.ofNat
def Qiy (s : Stand) : List Int × Int := if (Qbo s []).2 = 0 then (Qd7 s s.words.length, 0) else ([], (Qbo s []).2)
theorem Qnm {s : Stand} (hS : OkS s) {w : Word} (hw : w ∈ s.words) : Qhl (Qag s) w := by
 refine ⟨by have := Qe1 hS; omega, fun t ht => ?_⟩
 have := Qoy (hS.word w hw) (hS.short w hw)
 rwa [(Qdq.1 ht).1.len]
theorem Qsz (s : Stand) (gs : List Int)  : HF5 66 [.ag (Qa7 s), .sl 1 (gs.map eI)] = (Qas s ∧ gs.length ≤ 1000000, ((fun r => .tp [.sl 1 (r.1.map eCan), .i r.2])) (Qbo s gs)) := h66 s gs
set_option maxHeartbeats 1000000 in
theorem W42 (s : Stand) (h : Qas s) : Qal Try.prog 42 [.ag (Qa7 s)] (.tp [.sl 1 ((Qiy s).1.map eI), .i (Qiy s).2]) := by
 refine Qak Quk hmix Try.func42 cb42 cc42 cs42 cn42 ?_
 have g1 := Qsz s []
 simp only [Qa7, Qc, Qe] at g1
 by_cases h0 : (Qbo s []).2 = 0
 ·obtain ⟨hc, _, hne, e1⟩ := Qjn h0
  have hS := Qfa hc h
  have hw20 := hS.words
  simp only [rc42, rs42, g1, h, h0, e1, Qiy, Qah, Qa9, Qa8, Qab, Qac, Qa5, Qh1, Qad, Qa6, Qa2, Fam.step, Qae, evO, opv, qv, binV, ldV, lenV, Qap, V.cells, Qaw, Qaa, Qa4, flat, Qd5, Qa1, Qa0, Qa3, ↓reduceIte, Nat.reduceEqDiff, Nat.reduceAdd, Nat.reduceLT, Nat.reduceLeDiff, Qa, Qc, Qg, Qe, Qv, Zi, Qk, Qt, Zb, Qp, Qi, Qd, Qf, Qj, vw_i, vw_z, Qan, Qax, zipA, Qh, Qr, Za, Qo, Q8, Qb, decide_true, true_and, and_self, imp_self, Qn, Qa7]
  refine Qch s.words.length (fun i => ⟨lkp [(4, .sl 1 ((Qag s).map eCan)), (6, .rf 0 (Qd7 s i).length 0 (Qd7 s i).length 1), (18, .sl 4 (s.words.map eWord)), (19, .i s.words.length), (20, .i i)], [.cells (Qd7 s i).length ((Qd7 s i).map eI).flatten]⟩) ?_ ?_ ?_
  ·have e0 : Qd7 s 0 = [] := rfl
   simp only [Zj, e0, Qs, cutH, kp, cutV, cutL, cutB, Qa0, Qa3, ↓reduceIte, Nat.reduceEqDiff, Nat.reduceLT, Qa, Qc, Qe, Qk, Qt]
  ·intro i hi
   have hlt : (i : Int) < s.words.length := by omega
   obtain ⟨w, hw⟩ : ∃ x, s.words[i]? = some x := ⟨_, Ql hi⟩
   have hL := Qnm hS (Zp hw)
   have g2 := h68 (Qag s) w
   simp only [eWord] at g2
   have h3 : inI ((i : Int) + 1) := by unfold inI; omega
   have hll : (Qd7 s i).length ≤ i := by
    unfold Qd7
    rw [Qn]
    refine Xb (Xf _ _) ?_
    rw [Xc]; exact Zl _
   have hfl : Qaz ((Qd7 s i).length + 1) := by unfold Qaz; omega
   have hs : Qd7 s (i + 1) = if ((Qag s).any fun t => soB w t) = true then Qd7 s i else Qd7 s i ++ [(i : Int)] := by
    unfold Qd7
    rw [Jf, X9]
    by_cases ha : ((Qag s).any fun t => soB w t) = true
    ·rw [if_pos ha]; simp [hw, ha]
    ·rw [if_neg ha]; simp [hw, ha]
   by_cases ha : ((Qag s).any fun t => soB w t) = true
   ·rw [if_pos ha] at hs
    simp only [hlt, hw, g2, hL, ha, hs, h3, Qaq _ _ _ (Qfl _), Q2, Q3, Qah, Qa9, Qa8, Qab, Qac, Qa5, Qco, ↓Qby, cutH, putB, Qad, Qaj, Qa6, Qa2, Fam.step, Qae, Qce, Qb7, putB, nv, sv, evO, opv, qv, binV, ldV, iadV, Qap, putAt, V.cells, Qaw, Qbq, Qaa, Qa4, flat, kp, cutV, cutB, Qa1, Qbw, Qa0, Qa3, ↓reduceIte, Nat.reduceEqDiff, Nat.reduceAdd, Nat.reduceLT, Nat.reduceLeDiff, Qa, Qc, Q9, Zd, Qg, Qe, Qv, Zi, Zk, Qk, Qx, Qt, Qy, Qp, Qi, Qd, Qf, Qj, Q4, Zg, vw_i, Qan, Qij, Qnr, Q7, Qh, Qr, Qo, Bool.or_true, Q8, Qb, decide_true, and_self, forall_const, Q5, Qn, Qm, Qq, Qz, eWord]
   ·rw [if_neg ha] at hs
    have hnx : Qa4 (((Qd7 s i).map eI).flatten ++ [V.i (i : Int)]) = false := by rw [Qbx, Qfl]; rfl
    simp only [hlt, hw, g2, hL, ha, hs, h3, Qh6, Ze, hfl, Q0, Zt, Zw, Zc, Qs, Qaq _ _ _ hnx, Q2, Q3, Qah, Qa9, Qa8, Qab, Qac, Qa5, Qco, Qcl, ↓Qby, cutH, putB, Qad, Qaj, Qa6, Qa2, Fam.step, Qae, Qce, Qb7, putB, nv, sv, Qc8, evO, opv, qv, binV, ldV, iadV, Qap, Qar, putAt, Qbd, Qb3, V.cells, Qaw, Qbq, Qaa, Qa4, flat, kp, cutV, cutB, Qa1, Qbw, Qa0, Qa3, ↓reduceIte, Nat.reduceEqDiff, Nat.reduceAdd, Nat.reduceLT, Nat.reduceLeDiff, Qa, Qc, Q9, Zd, Qg, Qe, Qv, Zi, Zk, Qk, Qx, Qt, Qy, Qp, Qi, Qd, Qf, Qj, Q4, Zg, Q1, Q6, vw_i, Qan, Qij, Qnr, Q7, Qh, Qr, Qo, Bool.or_true, Zh, decide_true, and_self, forall_const, reduceCtorEq, not_false_eq_true, ne_eq, Q5, Qn, Qm, Qq, Qz, eWord, eI]
  ·have hlt : ¬ ((s.words.length : Int) < s.words.length) := by omega
   simp only [hlt, Qh6, Ze, Zl, Qgh, vw_I, Qa9, Qa8, Qab, Qb0, Qaf, Qa5, Qad, Qaj, Qa6, Qa2, Fam.step, Qae, evO, opv, qv, binV, ldV, Qa1, Qa0, Qa3, ↓reduceIte, Nat.reduceEqDiff, Qa, Qc, Qd, endQ, rvs, rv1, resV, vw_i, Qcu, Qe9, Qh, Qb, decide_false, and_self]
 ·simp only [rc42, rs42, g1, h, h0, Qiy, Qa9, Qa8, Qab, Qaf, Qa5, Qad, Qa6, Qa2, Fam.step, Qae, evO, opv, qv, binV, ldV, Qap, V.cells, Qaw, Qaa, Qa4, flat, Qd5, Qa1, Qa0, Qa3, ↓reduceIte, Nat.reduceEqDiff, Nat.reduceAdd, Nat.reduceLT, Nat.reduceLeDiff, Qa, Qc, Qg, Qe, Qk, Qt, Qi, Qd, Qf, Qu, Qj, endQ, rvs, rv1, resV, vw_i, vw_z, Qan, Qax, Qcu, zipA, Qh, Qr, Za, Qo, Zh, Qb, decide_false, and_self, imp_self, Qa7]
def e42 (a : Stand) : List V := [.ag (Qa7 a)]
def d42 : List V → Stand | [.ag x0] => (Qav x0) | _ => (Qav [])
noncomputable def HF6 : Gam := HF5.ext 42 (fnG e42 d42 (fun a => (fun (s : Stand) => Qas s) a) (fun a => (fun (s : Stand) => Qiy s) a) (fun r => .tp [.sl 1 (r.1.map eI), .i r.2]))
theorem Qs5 : GOk Try.prog HF6 := Quk.ext (f := 42) (fun a w => Try.call42 a w) (Qb4 (e := e42) (d := d42) (ok := (fun a => (fun (s : Stand) => Qas s) a)) (g := (fun a => (fun (s : Stand) => Qiy s) a)) (eb := (fun r => .tp [.sl 1 (r.1.map eI), .i r.2])) fun a h => W42 a h)
end Go.C10
set_option maxRecDepth 8000
namespace Go.C10
open Go.Fam Go.Proofs
def rc78 : RC := (.seq (.reg false [(cI 4 0), (cQ 5 [] (.mv (kB false)))]) (.keep [0,1] (.scp (.seq (.seq (.reg false [(cMv 14 0), (cLn 15 14), (cC 16 .eql 15 1)]) (.keep [0,1,16] (.cond (.t 16) (.seq (.reg false [(cQ 4 [] (.mv (.k (.i (-1))))), (cQ 5 [] (.mv (kB true)))]) .ret) .skip))) (.keep [0,1] (.seq (.seq (.reg false [(cMv 17 1), (cC 18 .eql 17 0)]) (.keep [0,1,18] (.cond (.t 18) (.seq (.reg false [(cQ 4 [] (.mv (.k (.i (-1))))), (cQ 5 [] (.mv (kB false)))]) .ret) .skip))) (.keep [0,1] (.seq .skip (.keep [0,1] (.seq (.seq (.reg false [(cMv 19 0), (cQ 20 [19] (.iad 1 (.t 19) (kI 0))), (cLd 21 20 false 1), (cLn 22 21), (cI 23 0)]) (.keep [0,1,22,23] (.block 0 (.loop [0,1,22,23] (some 0) (.seq (.reg false [(cB 24 .lss 23 22)]) (.keep [0,1,22,23,24] (.seq (.cond (.t 24) .skip (.exit 0)) (.keep [0,1,22,23] (.seq (.block 1 (.seq (.reg false [(cMv 25 23), (cMv 6 25)]) (.keep [0,1,6,22,23] (.seq (.reg false [⟨(some 26), none, [], none, .w (.mkm false)⟩, (cMv 7 26)]) (.keep [0,1,6,7,22,23] (.seq (.seq (.reg false [(cMv 27 0), (cLn 28 27), (cI 29 0)]) (.keep [0,1,6,7,22,23,27,28,29] (.block 2 (.loop [0,1,6,7,22,23,27,28,29] none (.seq (.reg false [(cB 30 .lss 29 28)]) (.keep [0,1,6,7,22,23,27,28,29,30] (.seq (.cond (.t 30) .skip (.exit 2)) (.keep [0,1,6,7,22,23,27,28,29] (.seq (.block 3 (.seq (.reg false [(cA 31 1 27 29), (cLd 32 31 false 1), (cMv 9 32)]) (.keep [0,1,6,7,9,22,23,27,28,29] (.any false 1 [⟨(cMv 33 7), [], []⟩, ⟨(cMv 34 9), [], []⟩, ⟨(cMv 35 6), [], []⟩, ⟨(cA 36 1 34 35), [], [1,2]⟩, ⟨(cLd 37 36 false 1), [], [3,1,2]⟩, ⟨(cMv 38 7), [], []⟩, ⟨(cMv 39 9), [], []⟩, ⟨(cMv 40 6), [], []⟩, ⟨(cA 41 1 39 40), [], [6,7]⟩, ⟨(cLd 42 41 false 1), [], [8,6,7]⟩, ⟨(cQ 43 [38,42] (.lkp (.z 1) false 3 false (.t 38) (.t 42))), [], [5,9,8,6,7]⟩, ⟨(cMv 44 9), [], []⟩, ⟨(cQ 45 [44] (.bsl 1 1 [(.z 1)] [(0,1, (.t 44))])), [], [11]⟩, ⟨⟨(some 46), none, [43,45], (some 0), .w (.app 1 (.t 43) (.t 45))⟩, [0,1,2,3,4], [10,5,9,8,6,7,12,11]⟩, ⟨⟨none, none, [33,37,46], none, .w (.mup 3 false (.t 33) (.t 37) (.t 46))⟩, [], [0,4,3,1,2,13,10,5,9,8,6,7,12,11]⟩])))) (.keep [0,1,6,7,22,23,27,28,29] (.reg false [(cC 47 .add 29 1), (cMv 29 47)]))))))))))) (.keep [0,1,6,7,22,23] (.seq (.seq (.drp 1 (.reg false [(cMv 48 7), (cQ 49 [48] (.mlen (.t 48))), (cC 50 .eql 49 1)])) (.keep [0,1,6,7,22,23,50] (.cond (.t 50) (.exit 1) .skip))) (.keep [0,1,6,7,22,23] (.seq (.seq (.reg false [(cMv 51 7), ⟨(some 52), none, [51], none, .w (.rng (.t 51))⟩]) (.keep [0,1,6,22,23,52] (.block 4 (.loop [0,1,6,22,23,52] none (.seq (.nxt 53 54 52) (.keep [0,1,6,22,23,52,54] (.seq (.cond (.t 54) .skip (.exit 4)) (.keep [0,1,6,22,23,52] (.block 5 (.seq (.reg false [(cQ 55 [52] (.ent (.t 52))), (cEx 56 55 1), (cMv 11 56)]) (.keep [0,1,6,11,22,23,52] (.seq (.reg false [(cMv 58 11), (cMv 59 1), (cC 60 .sub 59 1), (cQ 61 [58,60] (.call (kF 78) [(.t 58), (.t 60)])), (cMv 57 61), (cEx 62 57 0), (cEx 63 57 1), (cMv 12 62), (cMv 13 63)]) (.keep [0,1,6,13,22,23,52] (.seq (.reg false [(cMv 64 13), (cN 65 64)]) (.keep [0,1,6,22,23,52,65] (.cond (.t 65) (.exit 1) .skip)))))))))))))))) (.keep [6] (.seq (.reg false [(cMv 66 6), (cMv 4 66), (cQ 5 [] (.mv (kB true)))]) .ret)))))))))))) (.drp 0 (.keep [0,1,22,23] (.reg false [(cC 67 .add 23 1), (cMv 23 67)])))))))))))) (.keep [] (.seq (.reg false [(cQ 4 [] (.mv (.k (.i (-1))))), (cQ 5 [] (.mv (kB false)))]) .ret))))))))))))
def pu78 : List Nat := [45]
def rs78 : List RV := [.t 4, .t 5]
theorem cc78 : CCx Try.prog Try.f78 pu78 rc78 := by unfold CCx; kernel_rfl
theorem cb78 : CBx Try.f78 := by unfold CBx; kernel_rfl
theorem cs78 : CSx Try.prog Try.f78 rs78 := by unfold CSx; kernel_rfl
theorem cn78 : 2 ≤ Try.f78.ntmps := by decide
def rc51 : RC := (.seq (.reg false [(cX 1 0), (cI 2 0), (cI 3 0), (cI 4 0)]) (.keep [1] (.seq (.reg false [(cLd 10 1 true 3), (cQ 11 [10] (.call (kF 66) [(.t 10), (.k (.z 1))])), (cMv 9 11), (cEx 12 9 0), (cEx 13 9 1), (cMv 5 12), (cMv 4 13)]) (.keep [4,5] (.seq (.seq (.reg false [(cMv 14 4), (cC 15 .neq 14 0)]) (.keep [4,5,15] (.cond (.t 15) (.seq (.reg false [(cMv 16 4), (cI 2 0), (cI 3 0), (cMv 4 16)]) .ret) .skip))) (.keep [5] (.seq (.reg false [(cI 6 0)]) (.keep [5,6] (.block 0 (.loop [5,6] none (.seq (.block 1 (.seq (.reg false [(cMv 20 5), (cMv 21 6), (cQ 22 [20,21] (.call (kF 78) [(.t 20), (.t 21)])), (cMv 19 22), (cEx 23 19 0), (cEx 24 19 1), (cMv 7 23), (cMv 8 24)]) (.keep [5,6,7,8] (.seq (.reg false [(cMv 25 8)]) (.keep [5,6,7,25] (.cond (.t 25) (.seq (.reg false [(cMv 26 6), (cMv 27 7), (cMv 2 26), (cMv 3 27), (cI 4 0)]) .ret) .skip)))))) (.keep [5,6] (.reg false [(cMv 17 6), (cC 18 .add 17 1), (cMv 6 18)])))))))))))))
def pu51 : List Nat := [1]
def rs51 : List RV := [.t 2, .t 3, .t 4]
theorem cc51 : CCx Try.prog Try.f51 pu51 rc51 := by unfold CCx; kernel_rfl
theorem cb51 : CBx Try.f51 := by unfold CBx; kernel_rfl
theorem cs51 : CSx Try.prog Try.f51 rs51 := by unfold CSx; kernel_rfl
theorem cn51 : 1 ≤ Try.f51.ntmps := by decide
def rc17 : RC := (.seq (.reg false [(cX 1 0), (cI 2 0), (cI 3 0)]) (.keep [1] (.seq (.reg false [(cLd 8 1 true 3), (cQ 9 [8] (.call (kF 51) [(.t 8)])), (cMv 7 9), (cEx 10 7 0), (cEx 11 7 1), (cEx 12 7 2), (cMv 4 10), (cMv 5 11), (cMv 6 12)]) (.keep [4,6] (.seq (.reg false [(cMv 13 4), (cMv 14 6), (cMv 2 13), (cMv 3 14)]) .ret)))))
def pu17 : List Nat := [1]
def rs17 : List RV := [.t 2, .t 3]
theorem cc17 : CCx Try.prog Try.f17 pu17 rc17 := by unfold CCx; kernel_rfl
theorem cb17 : CBx Try.f17 := by unfold CBx; kernel_rfl
theorem cs17 : CSx Try.prog Try.f17 rs17 := by unfold CSx; kernel_rfl
theorem cn17 : 1 ≤ Try.f17.ntmps := by decide
def rc32 : RC := (.seq (.reg false [(cX 1 0), (cI 2 0), (cI 3 0)]) (.keep [1] (.seq (.reg false [(cLd 8 1 true 3), (cQ 9 [8] (.call (kF 51) [(.t 8)])), (cMv 7 9), (cEx 10 7 0), (cEx 11 7 1), (cEx 12 7 2), (cMv 4 10), (cMv 5 11), (cMv 6 12)]) (.keep [5,6] (.seq (.reg false [(cMv 13 5), (cMv 14 6), (cMv 2 13), (cMv 3 14)]) .ret)))))
def pu32 : List Nat := [1]
def rs32 : List RV := [.t 2, .t 3]
theorem cc32 : CCx Try.prog Try.f32 pu32 rc32 := by unfold CCx; kernel_rfl
theorem cb32 : CBx Try.f32 := by unfold CBx; kernel_rfl
theorem cs32 : CSx Try.prog Try.f32 rs32 := by unfold CSx; kernel_rfl
theorem cn32 : 1 ≤ Try.f32.ntmps := by decide
end Go.C10
set_option linter.unusedSimpArgs false
set_option linter.unusedVariables false
namespace Go.C10
open Go.Fam Go.Proofs
variable {Γ : Gam}
def Qcv (l : List (List Int)) (g u : Int) : List (List Int) := l.filter fun t => decide (atN t g = u)
def Qe7 (l : List (List Int)) (g : Int) : Bool := l.any fun t => decide (atN t g ≠ atN (l.headD []) g)
def askN : Nat → List (List Int) → Option Int
 | 0, l => if l.length = 1 then some (-1) else none
 | q + 1, l => if l.length = 1 then some (-1) else (ints 0 ((l.headD []).length - 1)).find? fun g => Qe7 l g && l.all fun t => (askN q (Qcv l g (atN t g))).isSome
abbrev Grp := AM (Nat × List (List Int))
def encG (p : Nat × List (List Int)) : V := .rf (p.1 + 1) (p.2.length - 1) 0 p.2.length 1
def encP (p : Nat × List (List Int)) : V := .sl 1 (p.2.map eCan)
def bAt (m : Grp) (j : Nat) : Blk := match m.find? fun e => decide (e.2.1 = j) with
 | some e => .cells (e.2.2.length - 1) (e.2.2.map eCan).flatten
 | none => .hole
def blkN (m : Grp) (i : Nat) : List Blk := (X1 i).map (bAt m)
theorem Qcf (m : Grp) (i : Nat) : (blkN m i).length = i := by simp [blkN]
structure GInv (l : List (List Int)) (g : Int) (i : Nat) (m : Grp) : Prop where
 nd : (aks m).Nodup
 js : (m.map fun e => e.2.1).Nodup
 one : ∀ k ∈ aks m, ∃ u : Int, k = [u]
 is : ∀ u p, aget m [u] = some p → p.2 = Qcv (l.take i) g u ∧ p.2 ≠ [] ∧ p.1 < i
 no : ∀ u, aget m [u] = none → Qcv (l.take i) g u = []
theorem Qm1 {m : Grp} (hj : (m.map fun e => e.2.1).Nodup) {k : List Int} {p : Nat × List (List Int)} (h : (k, p) ∈ m) : bAt m p.1 = .cells (p.2.length - 1) (p.2.map eCan).flatten := by
 unfold bAt
 have : m.find? (fun e => decide (e.2.1 = p.1)) = some (k, p) := by
  induction m with
  | nil => cases h
  | cons e m ih =>
   rw [Qa, Z8] at hj
   rcases Z7.1 h with rfl | h
   ·simp
   ·have hne : e.2.1 ≠ p.1 := fun e1 => hj.1 (e1 ▸ Xa.2 ⟨(k, p), h, rfl⟩)
    rw [X2 (by simpa using hne)]
    exact ih hj.2 h
 rw [this]
theorem Qix {α : Type} {p q : α → Bool} : ∀ {l : List α}, (∀ x ∈ l, p x = q x) → l.find? p = l.find? q
 | [], _ => rfl
 | x :: l, h => by
  simp only [List.find?_cons]
  rw [h x (by simp), Qix (l := l) fun y hy => h y (by simp [hy])]
theorem Qtk {m : Grp} {j : Nat} (h : ∀ e ∈ m, e.2.1 ≠ j) : bAt m j = .hole := by
 unfold bAt
 rw [Ja.2 fun e he => by simpa using h e he]
theorem Qep {m : Grp} {i j : Nat} (h : j < i) : (blkN m i)[j]? = some (bAt m j) := by simp [blkN, h]
theorem Qf2 {l : List (List Int)} {g u : Int} {t : List Int} : Qcv (l ++ [t]) g u = Qcv l g u ++ if atN t g = u then [t] else [] := by
 unfold Qcv
 rw [X9]
 by_cases h : atN t g = u <;> simp [h]
theorem Qq7 {l : List (List Int)} {g : Int} {i : Nat} {m : Grp} (h : GInv l g i m) {t : List Int} (ht : l[i]? = some t) (hg : aget m [atN t g] = none) :
  GInv l g (i + 1) (aput m [atN t g] (i, [t])) ∧ (blkN m i ++ [Blk.hole]).set i (.cells 0 [.sl 1 (t.map eI)]) = blkN (aput m [atN t g] (i, [t])) (i + 1) := by
 have hno := Qk8.1 hg
 have he : aput m [atN t g] (i, [t]) = m ++ [([atN t g], (i, [t]))] := by unfold aput; rw [if_neg hno]
 have hlt : ∀ e ∈ m, e.2.1 < i := by
  rintro ⟨k, p⟩ hm
  obtain ⟨j, hj⟩ := Zf hm
  have h1 := Qfd h.nd hj
  obtain ⟨u, rfl⟩ := h.one k (Qdf.2 (by rw [h1]; rfl))
  exact (h.is u p h1).2.2
 have hnj : i ∉ m.map fun e => e.2.1 := fun hi => by
  obtain ⟨e, he, e1⟩ := Xa.1 hi
  have := hlt e he
  omega
 refine ⟨⟨Qk9 h.nd _ _, ?_, ?_, ?_, ?_⟩, ?_⟩
 ·rw [he, Zt, Xs]
  refine ⟨h.js, by simp, fun a ha b hb => ?_⟩
  simp at hb
  subst hb
  rintro rfl
  exact hnj ha
 ·intro k hk
  rw [Qhn, Qjv] at hk
  rcases hk with hk | rfl
  ·exact h.one k hk
  ·exact ⟨_, rfl⟩
 ·intro u p hp
  rw [Qha] at hp
  rw [Qbr ht, Qf2]
  split at hp
  ·rename_i e
   cases hp
   have e2 : u = atN t g := by simpa using e
   subst e2
   rw [h.no _ hg, if_pos rfl]
   exact ⟨rfl, by simp, by simp⟩
  ·rename_i e
   obtain ⟨h1, h2, h3⟩ := h.is u p hp
   rw [if_neg (fun e1 => e (by rw [e1])), Qi]
   exact ⟨h1, h2, by omega⟩
 ·intro u hu
  rw [Qha] at hu
  split at hu
  ·cases hu
  ·rename_i e
   rw [Qbr ht, Qf2, h.no u hu, if_neg (fun e1 => e (by rw [e1]))]
   rfl
 ·apply Xt
  intro j
  by_cases hj : j < i + 1
  ·rw [Qep hj]
   by_cases hji : j = i
   ·subst hji
    rw [Z1 (by simp [Qcf])]
    have := Qm1 (m := aput m [atN t g] (j, [t])) (k := [atN t g]) (p := (j, [t])) (by
     rw [he, Zt, Xs]
     refine ⟨h.js, by simp, fun a ha b hb => ?_⟩
     simp at hb
     subst hb
     rintro rfl
     exact hnj ha) (by rw [he]; simp)
    rw [this]; rfl
   ·rw [Z4 (by omega), Z6 (by rw [Qcf]; omega), Qep (by omega)]
    unfold bAt
    rw [he, List.find?_append]
    cases hf : m.find? fun e => decide (e.2.1 = j) with
    | some e => simp
    | none => rw [X2 (by simp; omega)]; rfl
  ·rw [Zo (by simp [Qcf]; omega), Zo (by simp [Qcf]; omega)]
theorem Qq8 {l : List (List Int)} {g : Int} {i : Nat} {m : Grp} (h : GInv l g i m) {t : List Int} (ht : l[i]? = some t) {j : Nat} {ts : List (List Int)} (hg : aget m [atN t g] = some (j, ts)) :
  GInv l g (i + 1) (aput m [atN t g] (j, ts ++ [t])) ∧ j < i ∧ ts ≠ [] ∧ (blkN m i ++ [Blk.hole])[j]? = some (.cells (ts.length - 1) (ts.map eCan).flatten) ∧
   (blkN m i ++ [Blk.hole]).set j (.cells ts.length ((ts.map eCan).flatten ++ [.sl 1 (t.map eI)])) = blkN (aput m [atN t g] (j, ts ++ [t])) (i + 1) := by
 obtain ⟨h1, h2, h3⟩ := h.is _ _ hg
 simp only at h1 h2 h3
 have hyes : [atN t g] ∈ aks m := Qdf.2 (by rw [hg]; rfl)
 have he : aput m [atN t g] (j, ts ++ [t]) = m.map (fun e => if e.1 = [atN t g] then ([atN t g], (j, ts ++ [t])) else e) := by unfold aput; rw [if_pos hyes]
 have hmem := Qm0 hg
 have hjj : ∀ e ∈ m, e.2.1 = j → e = ([atN t g], (j, ts)) := by
  intro e he1 e2
  obtain ⟨a, ha, ha2⟩ := Zu.1 he1
  obtain ⟨b, hb, hb2⟩ := Zu.1 hmem
  by_cases hab : a = b
  ·subst hab; rw [← ha2, hb2]
  ·have := Zn.1 h.js
   rcases Xm hab with hlt | hlt
   ·have := this a b (by simpa using ha) (by simpa using hb) hlt
    simp [ha2, hb2, e2] at this
   ·have := this b a (by simpa using hb) (by simpa using ha) hlt
    simp [ha2, hb2, e2] at this
 have hmj : (m.map fun e => if e.1 = [atN t g] then ([atN t g], (j, ts ++ [t])) else e).map (fun e => e.2.1) = m.map fun e => e.2.1 := by
  rw [List.map_map]
  apply List.map_congr_left
  rintro ⟨k, p⟩ hk
  simp only [Function.comp]
  by_cases e : k = [atN t g]
  ·rw [if_pos e]
   obtain ⟨a, ha⟩ := Zf hk
   have := Qfd h.nd ha
   rw [e, hg] at this
   cases this
   rfl
  ·rw [if_neg e]
 refine ⟨⟨Qk9 h.nd _ _, by rw [he, hmj]; exact h.js, ?_, ?_, ?_⟩, h3, h2, ?_, ?_⟩
 ·intro k hk
  rw [Qhn, Qjv] at hk
  rcases hk with hk | rfl
  ·exact h.one k hk
  ·exact ⟨_, rfl⟩
 ·intro u p hp
  rw [Qha] at hp
  rw [Qbr ht, Qf2]
  split at hp
  ·rename_i e
   cases hp
   have e2 : u = atN t g := by simpa using e
   subst e2
   rw [if_pos rfl, ← h1]
   exact ⟨rfl, by simp, by simp; omega⟩
  ·rename_i e
   obtain ⟨k1, k2, k3⟩ := h.is u p hp
   rw [if_neg (fun e1 => e (by rw [e1])), Qi]
   exact ⟨k1, k2, by omega⟩
 ·intro u hu
  rw [Qha] at hu
  split at hu
  ·cases hu
  ·rename_i e
   rw [Qbr ht, Qf2, h.no u hu, if_neg (fun e1 => e (by rw [e1]))]
   rfl
 ·rw [Z6 (by rw [Qcf]; omega), Qep h3, Qm1 h.js hmem]
 ·apply Xt
  intro k
  by_cases hk : k < i + 1
  ·rw [Qep hk]
   by_cases hkj : k = j
   ·subst hkj
    rw [Z1 (by simp [Qcf]; omega)]
    have := Qm1 (m := aput m [atN t g] (k, ts ++ [t])) (k := [atN t g]) (p := (k, ts ++ [t])) (by rw [he, hmj]; exact h.js) (by
     rw [he, Xa]
     exact ⟨_, hmem, by simp⟩)
    rw [this]
    simp [eCan]
   ·rw [Z4 (by omega)]
    have hb : bAt (aput m [atN t g] (j, ts ++ [t])) k = bAt m k := by
     unfold bAt
     rw [he, List.find?_map]
     have : (m.find? ((fun e => decide (e.2.1 = k)) ∘ fun e => if e.1 = [atN t g] then ([atN t g], (j, ts ++ [t])) else e)) = m.find? fun e => decide (e.2.1 = k) := by
      apply Qix
      rintro ⟨k2, p⟩ hk2
      by_cases e : k2 = [atN t g]
      ·obtain ⟨a, ha⟩ := Zf hk2
       have := Qfd h.nd ha
       rw [e, hg] at this
       have h9 : (j, ts) = p := Je.inj this
       simp [Function.comp, e, ← h9]
      ·simp [Function.comp, e]
     rw [this]
     cases hf : m.find? fun e => decide (e.2.1 = k) with
     | none => rfl
     | some e =>
      have he2 := List.find?_some hf
      rw [decide_eq_true_eq] at he2
      have hem := List.mem_of_find?_eq_some hf
      by_cases e1 : e.1 = [atN t g]
      ·obtain ⟨a, ha⟩ := Zf hem
       have := Qfd h.nd (show m[a]? = some (e.1, e.2) from ha)
       rw [e1, hg] at this
       have h9 : (j, ts) = e.2 := Je.inj this
       rw [← h9] at he2
       exact absurd he2.symm hkj
      ·simp [e1]
    rw [hb]
    by_cases hki : k < i
    ·rw [Z6 (by rw [Qcf]; omega), Qep hki]
    ·have : k = i := by omega
     subst this
     rw [Xn (by rw [Qcf]; omega), Qcf, Nat.sub_self]
     rw [Qtk]
     ·rfl
     ·rintro ⟨k2, p⟩ hk2 e
      obtain ⟨a, ha⟩ := Zf hk2
      have h5 := Qfd h.nd ha
      obtain ⟨u, rfl⟩ := h.one k2 (Qdf.2 (by rw [h5]; rfl))
      have := (h.is u p h5).2.2
      simp only at e
      omega
  ·rw [Zo (by simp [Qcf]; omega), Zo (by simp [Qcf]; omega)]
theorem Qrj {l : List (List Int)} {g : Int} {i : Nat} {m : Grp} (h : GInv l g i m) : cutL (Blk.map false (aks m) (avs encG m) :: blkN m i) 1 (avs encG m) = avs encP m := by
 have key : ∀ e ∈ m, cutV (Blk.map false (aks m) (avs encG m) :: blkN m i) 1 (encG e.2) = encP e.2 := by
  rintro ⟨k, j, ts⟩ he
  obtain ⟨a, ha⟩ := Zf he
  have h1 := Qfd h.nd ha
  obtain ⟨u, rfl⟩ := h.one k (Qdf.2 (by rw [h1]; rfl))
  obtain ⟨_, h2, h3⟩ := h.is u _ h1
  have hb : (blkN m i)[j]? = some (.cells (ts.length - 1) (ts.map eCan).flatten) := by rw [Qep h3, Qm1 h.js he]
  have hup := Qds 1 _ (Qc3 ts)
  have hmap : ((blkN m i).map (upB 1))[j]? = some (.cells (ts.length - 1) (ts.map eCan).flatten) := by
   rw [Qz, hb, Q5, upB, hup]
  have h0 : ¬ j + 1 < 1 := by omega
  have hd : (Blk.map false (aks m) (avs encG m) :: blkN m i).drop 1 = blkN m i := rfl
  simp only [encG, encP]
  simp only [h0, hpF, hmap, Qh5, Ze, Zl, Qgg, vw_C, cutV, ↓reduceIte, Qa, Qc, Qv, Zi, Qk, Qx, Qy, Qp, Qf, Qe9, Qh, and_self]
 have gen : ∀ m' : Grp, (∀ e ∈ m', e ∈ m) → cutL (Blk.map false (aks m) (avs encG m) :: blkN m i) 1 (avs encG m') = avs encP m' := by
  intro m'
  induction m' with
  | nil => intro _; rfl
  | cons e m' ih =>
   intro hs
   show cutL _ 1 (encG e.2 :: avs encG m') = encP e.2 :: avs encP m'
   rw [cutL, key e (hs e (by simp)), ih fun x hx => hs x (by simp [hx])]
 exact gen m fun _ h => h
structure OkA (l : List (List Int)) (q : Nat) : Prop where
 ne : l ≠ []
 len : l.length ≤ 1000000
 q : q ≤ 100
 at_ : ∀ t ∈ l, t.length = (l.headD []).length
 n : (l.headD []).length ≤ 100
def eA78 (a : List (List Int) × Nat) : List V := [.sl 1 (a.1.map eCan), .i a.2]
def dA78 : List V → List (List Int) × Nat | [.sl _ l, .i q] => (l.map dCan, q.toNat) | _ => ([], 0)
theorem Qqw (a : List (List Int) × Nat) : dA78 (eA78 a) = a := by simp [dA78, eA78, Function.comp_def, Qki]
def askV (o : Option Int) : V := .tp [.i (o.getD (-1)), .b o.isSome]
noncomputable def G78 (k : Nat) : Gam := HF6.ext 78 (fnG eA78 dA78 (fun a => OkA a.1 a.2 ∧ a.2 = k) (fun a => askN a.2 a.1) askV)
theorem q78 (k : Nat) (l : List (List Int)) (q : Nat) : G78 k 78 [.sl 1 (l.map eCan), .i q] = (OkA l q ∧ q = k, askV (askN q l)) :=
 (show G78 k 78 _ = fnG eA78 dA78 (fun a => OkA a.1 a.2 ∧ a.2 = k) (fun a => askN a.2 a.1) askV (eA78 (l, q)) from rfl).trans (Qb6 _ (Qqw _))
theorem W78z (l : List (List Int)) (h : OkA l 0) : Qal Try.prog 78 [.sl 1 (l.map eCan), .i 0] (askV (askN 0 l)) := by
 refine Qak Qs5 hmix Try.func78 cb78 cc78 cs78 cn78 ?_
 by_cases h1 : (l.length : Int) = 1
 ·have e : askN 0 l = some (-1) := by unfold askN; rw [if_pos (by omega)]
  simp only [rc78, rs78, h1, e, askV, Xo, Qa9, Qa8, Qab, Qaf, Qa5, Qmy, noGo, Qad, Qa6, Qa2, Fam.step, Qae, evO, opv, qv, binV, ldV, lenV, Qa1, Qa0, Qa3, ↓reduceIte, Nat.reduceEqDiff, Int.reduceNeg, Qa, Qc, Qu, Qj, endQ, rvs, rv1, resV, vw_i, vw_b, Qcu, zipA, Qh, decide_true, and_self, reduceCtorEq, Qn]
 ·have e : askN 0 l = none := by unfold askN; rw [if_neg (by omega)]
  simp only [rc78, rs78, h1, e, askV, Jb, Qah, Qa9, Qa8, Qab, Qaf, Qa5, Qmy, noGo, Qad, Qa6, Qa2, Fam.step, Qae, evO, opv, qv, binV, ldV, lenV, Qa1, Qa0, Qa3, ↓reduceIte, Nat.reduceEqDiff, Int.reduceNeg, Qa, Qc, Qu, Zz, endQ, rvs, rv1, resV, vw_i, vw_b, Qcu, zipA, Qh, Qb, decide_true, decide_false, and_self, reduceCtorEq, Qn]
def Qhz (q : Nat) (l : List (List Int)) (g : Int) : Bool := Qe7 l g && l.all fun t => (askN q (Qcv l g (atN t g))).isSome
theorem Qrz {l : List (List Int)} {g : Int} {m : Grp} (h : GInv l g l.length m) (hne : l ≠ []) : (aks m).length = 1 ↔ Qe7 l g = false := by
 have hk : ∀ t ∈ l, ∃ p, aget m [atN t g] = some p := fun t ht => by
  cases hg : aget m [atN t g] with
  | some p => exact ⟨p, rfl⟩
  | none =>
   have h1 := h.no _ hg
   rw [Zy] at h1
   have : t ∈ Qcv l g (atN t g) := Zm.2 ⟨ht, by simp⟩
   rw [h1] at this; cases this
 have hl0 : l.headD [] ∈ l := by cases l with | nil => exact absurd rfl hne | cons a l => simp
 constructor
 ·intro h1
  obtain ⟨k, hk1⟩ := List.length_eq_one_iff.1 h1
  unfold Qe7
  rw [Xr]
  intro t ht
  obtain ⟨p, hp⟩ := hk t ht
  obtain ⟨p0, hp0⟩ := hk _ hl0
  have a1 := Qdf.2 (show (aget m [atN t g]).isSome = true by rw [hp]; rfl)
  have a2 := Qdf.2 (show (aget m [atN (l.headD []) g]).isSome = true by rw [hp0]; rfl)
  rw [hk1, Zs] at a1 a2
  rw [← a2, List.cons.injEq] at a1
  simp only [a1.1, ne_eq, not_true_eq_false, decide_false, Qb, not_false_eq_true]
 ·intro h1
  unfold Qe7 at h1
  rw [Xr] at h1
  obtain ⟨p0, hp0⟩ := hk _ hl0
  have a2 := Qdf.2 (show (aget m [atN (l.headD []) g]).isSome = true by rw [hp0]; rfl)
  have hall : ∀ k ∈ aks m, k = [atN (l.headD []) g] := by
   intro k hk2
   obtain ⟨u, rfl⟩ := h.one k hk2
   have := Qdf.1 hk2
   obtain ⟨p, hp⟩ := Option.isSome_iff_exists.1 this
   obtain ⟨b1, b2, _⟩ := h.is u p hp
   rw [Zy] at b1
   obtain ⟨t, ht⟩ := Z5 _ b2
   rw [b1] at ht
   obtain ⟨c1, c2⟩ := Zm.1 ht
   rw [decide_eq_true_eq] at c2
   have := h1 t c1
   rw [decide_eq_true_eq, Classical.not_not] at this
   rw [← c2, this]
  cases hm : aks m with
  | nil => rw [hm] at a2; cases a2
  | cons a t =>
   cases ht : t with
   | nil => rfl
   | cons b t2 =>
    have e1 := hall a (by rw [hm]; simp)
    have e2 := hall b (by rw [hm, ht]; simp)
    have := h.nd
    rw [hm, ht, e1, e2] at this
    simp at this
theorem Qrr {α : Type} {p : α → Bool} {l : List α} {i : Nat} {x : α} (hx : l[i]? = some x) (hp : p x = true) (h : ∀ j y, j < i → l[j]? = some y → p y = false) : l.find? p = some x := by
 rw [List.find?_eq_some_iff_getElem]
 obtain ⟨hl, he⟩ := List.getElem?_eq_some_iff.1 hx
 refine ⟨hp, i, hl, he, fun j hj => ?_⟩
 have := h j l[j] hj (Ql (by omega))
 simp [this]
set_option maxHeartbeats 4000000 in
theorem W78s (q : Nat) (hok : GOk Try.prog (G78 q)) (l : List (List Int)) (h : OkA l (q + 1)) : Qal Try.prog 78 [.sl 1 (l.map eCan), .i ((q + 1 : Nat) : Int)] (askV (askN (q + 1) l)) := by
 refine Qak hok hmix Try.func78 cb78 cc78 cs78 cn78 ?_
 obtain ⟨hne, hl, hq, hat, hn⟩ := h
 by_cases h1 : (l.length : Int) = 1
 ·have e : askN (q + 1) l = some (-1) := by unfold askN; rw [if_pos (by omega)]
  simp only [rc78, rs78, h1, e, askV, Xo, Qa9, Qa8, Qab, Qaf, Qa5, Qmy, noGo, Qad, Qa6, Qa2, Fam.step, Qae, evO, opv, qv, binV, ldV, lenV, Qa1, Qa0, Qa3, ↓reduceIte, Nat.reduceEqDiff, Int.reduceNeg, Qa, Qc, Qu, Qj, endQ, rvs, rv1, resV, vw_i, vw_b, Qcu, zipA, Qh, decide_true, and_self, reduceCtorEq, Qn]
 ·have hq0 : ¬ ((q + 1 : Nat) : Int) = 0 := by omega
  obtain ⟨t0, hl0⟩ : ∃ t0, t0 = l.headD [] := ⟨_, rfl⟩
  have hg0 : l[0]? = some t0 := by cases l with | nil => exact absurd rfl hne | cons a l => rw [hl0]; rfl
  have hlp : (0 : Int) < l.length := by have := Xl.2 hne; omega
  have ec : eCan t0 = [.sl 1 (t0.map eI)] := rfl
  have hnn : t0.length ≤ 100 := by rw [hl0]; exact hn
  have easkn : askN (q + 1) l = (ints 0 (t0.length - 1)).find? (Qhz q l) := by
   unfold askN Qhz
   rw [if_neg (by omega), hl0]
  simp only [rc78, rs78, h1, hq0, hlp, hg0, easkn, Qah, Qa9, Qa8, Qab, Qac, Qa5, Qmy, Qad, Qa6, Qa2, Fam.step, Qae, evO, opv, qv, binV, ldV, iadV, lenV, Qa1, Qa0, Qa3, ↓reduceIte, Nat.reduceEqDiff, Nat.reduceLeDiff, Int.reduceNeg, Z3, Int.reduceLE, Qa, Qc, Qg, Qe, Zb, Qj, zipA, Qh, Qb, decide_false, true_and, and_self, reduceCtorEq, Q5, Qn, Qq, Qz, eCan]
  refine Qbk t0.length (fun i => ⟨lkp [(0, .sl 1 (l.map eCan)), (1, .i ((q + 1 : Nat) : Int)), (22, .i t0.length), (23, .i i)], []⟩) (fun i => ∀ j x, j < i → (ints 0 (t0.length - 1))[j]? = some x → Qhz q l x = false) ?_ ?_ ?_ ?_
  ·simp only [Zj, cutH, kp, cutV, Qa0, Qa3, ↓reduceIte, Nat.reduceEqDiff, Qa, Qc, Qt, reduceCtorEq]
  ·intro j x hj; omega
  ·intro i hi hc
   have hlt : (i : Int) < t0.length := by omega
   have hx : (ints 0 (t0.length - 1))[i]? = some (i : Int) := by rw [Qji (by omega)]; simp
   have hi1 : inI ((i : Int) + 1) := by unfold inI; omega
   have a0 : aks ([] : Grp) = [] := rfl
   have a1 : avs encG ([] : Grp) = [] := rfl
   simp only [hlt, Qah, Qa9, Qa8, Qab, Qac, Qa5, cutH, Qad, Qa6, Qa2, Fam.step, Qae, Qce, Qb7, nv, evO, opv, qv, binV, lenV, kp, Qa1, Qa0, Qa3, ↓reduceIte, Nat.reduceEqDiff, Int.reduceNeg, Qa, Qc, Qe, Qx, Qp, decide_true, true_and, and_self, reduceCtorEq, Qn]
   refine Qpe l.length (fun k m => ⟨lkp [(0, .sl 1 (l.map eCan)), (1, .i ((q + 1 : Nat) : Int)), (6, .i i), (7, .mp 0 0), (22, .i t0.length), (23, .i i), (27, .sl 1 (l.map eCan)), (28, .i l.length), (29, .i k)], Blk.map false (aks m) (avs encG m) :: blkN m k⟩) (fun k m => GInv l i k m) [] ?_ ?_ ?_ ?_
   ·simp only [Zj, a0, a1, blkN, List.range_zero, kp, Qa0, Qa3, ↓reduceIte, Nat.reduceEqDiff, Qa, Qc, reduceCtorEq]
   ·exact ⟨by simp [aks], by simp, by simp [aks], fun u p hp => by simp [aget] at hp, fun u _ => by simp [Qcv]⟩
   ·intro k m hk hM
    obtain ⟨t, ht⟩ : ∃ x, l[k]? = some x := ⟨_, Ql hk⟩
    have hkl : (k : Int) < l.length := by omega
    have htl := hat t (Zp ht)
    rw [← hl0] at htl
    obtain ⟨u, hu⟩ : ∃ u, t[i]? = some u := ⟨_, Ql (by omega)⟩
    have hatn : atN t i = u := by unfold atN; rw [Qm, hu]; rfl
    have hit : (i : Int) < t.length := by omega
    have ect : eCan t = [.sl 1 (t.map eI)] := rfl
    have hk1 : inI ((k : Int) + 1) := by unfold inI; omega
    have hget := Qrg encG m [u]
    have hbl := Qcf m k
    cases hg : aget m [u] with
    | none =>
     rw [hg, Xk] at hget
     have hno := Qk8.1 hg
     rw [← hatn] at hg
     obtain ⟨n1, n2⟩ := Qq7 hM ht hg
     rw [hatn] at n1 n2
     have hh : (blkN m k ++ [Blk.hole])[k]? = some .hole := by rw [Xn (by omega), hbl, Nat.sub_self]; rfl
     have hv : Qg4 (aks m) (avs encG m) [u] (.rf (k + 1) 0 0 1 1) = avs encG (aput m [u] (k, [t])) := Qny hM.nd encG [u] (k, [t])
     have hkk : putK (aks m) [u] = aks (aput m [u] (k, [t])) := (Qhn m [u] (k, [t])).symm
     have hf1 : Qaz 1 := by unfold Qaz; omega
     simp only [hkl, ht, hu, hit, hget, hbl, hk1, hh, hv, hkk, hf1, Zc, Qs, n2, Q2, Q3, Qah, Qa9, Qbv, Qa8, Qab, Qac, Qa5, Qcl, Qbb, optL, lkpV, keyL, Qdx, Qad, Qaj, Qa6, Qa2, Fam.step, Qae, Qb7, runX, eff, Qb9, fpR, fpQ, fpV, Qc4, hits, nv, sv, Qc8, evO, opv, qv, binV, ldV, iadV, Qar, putAt, Qbd, Qb3, V.cells, Qaw, Qbq, Qaa, Qa4, kp, Qa1, Qbw, Qa0, Qa3, ↓reduceIte, Nat.reduceEqDiff, Nat.reduceMul, Nat.reduceLeDiff, Int.reduceNeg, Qa, Qc, Q9, Zd, Qg, Qe, Qv, Zk, Qk, Qx, Qt, Zb, Qy, Qp, Qi, Qd, Qf, Qu, Qj, Zz, Q4, Zg, Q1, Q6, Xh, Xd, Qan, Q7, Qh, X0, Qr, Za, Zq, Zx, Qo, Xv, Q8, Zh, Qb, decide_true, true_and, and_self, false_implies, reduceCtorEq, not_false_eq_true, ne_eq, Q5, Xw, X3, Z9, Xe, Qn, Qm, Qq, Qz, eI, eCan]
     exact ⟨_, n1, rfl⟩
    | some p =>
     obtain ⟨j, ts⟩ := p
     rw [hg, Q5] at hget
     have hyes := Qdf.2 (show (aget m [u]).isSome = true by rw [hg]; rfl)
     rw [← hatn] at hg
     obtain ⟨n1, n2, n3, n4, n5⟩ := Qq8 hM ht hg
     rw [hatn] at n1 n5
     have e1 : ts.length - 1 + 1 = ts.length := by have := Xl.2 n3; omega
     have htsl : ts.length ≤ l.length := by
      obtain ⟨b1, _, _⟩ := hM.is _ _ hg
      simp only at b1
      rw [b1]
      exact Xb (Xf _ _) (by rw [Xy]; omega)
     have hf1 : Qaz (ts.length + 1) := by unfold Qaz; omega
     have hv : Qg4 (aks m) (avs encG m) [u] (.rf (j + 1) ts.length 0 (ts.length + 1) 1) = avs encG (aput m [u] (j, ts ++ [t])) := by
      have := Qny hM.nd encG [u] (j, ts ++ [t])
      simpa [encG] using this
     have hkk : putK (aks m) [u] = aks (aput m [u] (j, ts ++ [t])) := (Qhn m [u] (j, ts ++ [t])).symm
     simp only [hkl, ht, hu, hit, hget, hk1, encG, n4, e1, Qh5, Ze, hf1, hv, hkk, Zc, Qs, n5, Q2, Q3, Qah, Qa9, Qbv, Qa8, Qab, Qac, Qa5, Qcl, Qbb, optL, lkpV, keyL, Qdx, Qad, Qaj, Qa6, Qa2, Fam.step, Qae, Qb7, runX, eff, Qb9, fpR, fpQ, fpV, Qc4, hits, nv, sv, Qc8, evO, opv, qv, binV, ldV, iadV, Qar, putAt, Qbd, Qb3, V.cells, Qaw, Qbq, Qaa, Qa4, kp, Qa1, Qbw, Qa0, Qa3, ↓reduceIte, Nat.reduceEqDiff, Nat.reduceLeDiff, Int.reduceNeg, Qa, Qc, Q9, Zd, Qg, Qe, Qv, Zk, Qk, Qx, Qt, Zb, Qy, Qp, Qi, Qd, Qf, Qu, Qj, Zz, Q4, Zg, Q1, Q6, Xh, Xd, Qan, Q7, Qh, Qr, Za, Zq, Zx, Qo, Xv, Q8, Zh, Qb, decide_true, true_and, and_self, false_implies, reduceCtorEq, not_false_eq_true, ne_eq, Q5, Xw, X3, Z9, Xe, Qn, Qm, Qq, Qz, eI, eCan]
     exact ⟨_, n1, rfl⟩
   ·intro m hM
    have hkl : ¬ ((l.length : Int) < l.length) := by omega
    have hcut := Qrj hM
    have hmo := Qrz hM hne
    have hnext : Qhz q l i = false → ∀ (j : Nat) (x : Int), j < i + 1 → (ints 0 (t0.length - 1))[j]? = some x → Qhz q l x = false := fun he j x hj hjx => by
     by_cases e : j < i
     ·exact hc j x e hjx
     ·have : j = i := by omega
      subst this
      rw [hx] at hjx; cases hjx; exact he
    by_cases hmu : Qe7 l i = true
    ·have hm1 : ¬ ((aks m).length : Int) = 1 := by
      have : ¬ (aks m).length = 1 := fun e => by rw [hmo, hmu] at e; cases e
      omega
     simp only [hkl, hcut, hm1, Qah, Qa9, Qa8, Qab, Qac, Qb0, Qa5, Qco, ↓Qby, cutH, Qov, Qad, Qaj, Qa6, Qa2, Fam.step, Qae, Qce, Qb7, nv, evO, opv, qv, binV, cutV, cutB, Qa1, Qa0, Qa3, ↓reduceIte, Nat.reduceEqDiff, Nat.reduceLT, Int.reduceNeg, Qa, Qc, Qg, Qe, Qk, Qx, Qy, Qp, Qd, Qh, Qb, decide_false, true_and, and_self, reduceCtorEq]
     refine Qpg (aks m).length (fun pre (_ : Unit) => ⟨lkp [(0, .sl 1 (l.map eCan)), (1, .i ((q + 1 : Nat) : Int)), (6, .i i), (22, .i t0.length), (23, .i i), (52, .it 1 0)], [.map false (aks m) (avs encP m), .iter 0 (aks m).length (Qio (aks m).length pre) pre.getLast?]⟩)
      (fun pre _ => ∀ z ∈ pre, ∀ key p, m[z]? = some (key, p) → (askN q p.2).isSome = true) () ?_ ?_ ?_
     ·simp only [Qot, List.getLast?_nil, kp, Qa0, Qa3, ↓reduceIte, Nat.reduceEqDiff, Qa, Qc, reduceCtorEq]
     ·intro z hz; cases hz
     ·rintro pre _ hnd hlt2 hC2
      simp only [Qah, Qa9, Qa8, Qab, Qin, Qac, Qb0, Qaf, Qa5, Qco, Qv5, noGo, ↓Qby, cutH, entV, keyV, Qad, Qaj, Qa6, Qa2, Fam.step, Qae, evO, opv, qv, binV, ldV, Qap, Qaa, Qa4, kp, cutV, Qa1, Qa0, Qa3, ↓reduceIte, Nat.reduceEqDiff, Nat.reduceAdd, Nat.reduceLT, Int.reduceNeg, Qa, Qc, Qg, Qe, Qx, Qi, Qd, Qf, Qj, Q4, Zg, endQ, rvs, rv1, resV, vw_i, vw_b, Qcu, Qh, Qo, Qb, true_and, and_self, reduceCtorEq, Qq, Xg]
      refine ⟨fun hnil => ?_, fun z hz => ?_⟩
      ·have hall : ∀ z, z < (aks m).length → z ∈ pre := fun z hz => Classical.byContradiction fun hn => by
        have := Qi3.2 ⟨hz, hn⟩
        rw [hnil] at this; cases this
       have hgood : Qhz q l i = true := by
        unfold Qhz
        rw [hmu, Zq, Z0]
        intro t ht
        cases hg : aget m [atN t i] with
        | none =>
         have h1 := hM.no _ hg
         rw [Zy] at h1
         have : t ∈ Qcv l i (atN t i) := Zm.2 ⟨ht, by simp⟩
         rw [h1] at this; cases this
        | some p =>
         obtain ⟨b1, _, _⟩ := hM.is _ _ hg
         rw [Zy] at b1
         obtain ⟨z, hz⟩ := Zf (Qm0 hg)
         have := hC2 z (hall z (by have := Qam hz; simpa [aks] using this)) _ _ hz
         rw [b1] at this
         exact this
       have hf : (ints 0 (t0.length - 1)).find? (Qhz q l) = some (i : Int) := Qrr hx hgood fun j y hj hy => hc j y hj hy
       simp only [hf, askV, Xo, Int.reduceNeg, Qj]
      ·obtain ⟨hqn, hqp⟩ := Qi3.1 hz
       obtain ⟨k, p, hk0, hk1, hk2⟩ := Qtj hqn
       have hag := Qfd hM.nd hk0
       obtain ⟨u, rfl⟩ := hM.one k (Zp hk1)
       obtain ⟨b1, b2, _⟩ := hM.is u p hag
       rw [Zy] at b1
       have hk2' := hk2 encP
       have g1 := q78 q p.2 q
       have hsub : ∀ t ∈ p.2, t ∈ l := fun t ht => by rw [b1] at ht; exact (Zm.1 ht).1
       have hOk : OkA p.2 q := by
        have hd : p.2.headD [] ∈ l := hsub _ (by cases hp : p.2 with | nil => exact absurd hp b2 | cons a b => simp)
        refine ⟨b2, ?_, by omega, fun t ht => ?_, ?_⟩
        ·rw [b1]; exact Xb (Xf _ _) hl
        ·rw [hat t (hsub t ht), hat _ hd]
        ·rw [hat _ hd]; exact hn
       have e1 : ((q + 1 : Nat) : Int) - 1 = q := by omega
       have i2 : inI (q : Int) := by unfold inI; omega
       cases hs : (askN q p.2).isSome with
       | false =>
        simp only [hk2', Qi2 hz, encP, g1, hOk, i2, askV, hs, hi1, Q2, Q3, Qaa, flat, Qd5, Nat.reduceAdd, Nat.reduceLT, Int.reduceNeg, Int.add_sub_cancel, Qg, Qe, Qd, Qf, Qj, Qan, Qh, Qr, Zh, Qb, Jc, true_and, and_true, and_self, forall_const, false_implies, implies_true]
        refine hnext ?_
        ·unfold Qhz
         rw [Bool.and_eq_false_iff]; right
         rw [List.all_eq_false]
         obtain ⟨t, ht⟩ := Z5 _ b2
         refine ⟨t, hsub t ht, ?_⟩
         rw [b1] at ht
         have := (Zm.1 ht).2
         rw [decide_eq_true_eq] at this
         rw [this, ← b1, hs]; simp
       | true =>
        simp only [hk2', Qi2 hz, encP, g1, hOk, e1, i2, askV, hs, Qaa, flat, Qd5, Nat.reduceAdd, Nat.reduceLT, Int.reduceNeg, Qg, Qe, Qd, Qf, Qj, Qan, Qh, Qr, Q8, Qb, true_and, and_self, forall_const, false_implies, implies_true]
        refine ⟨z, (), hz, fun z' hz' key p' hp' => ?_, ?_⟩
        ·rcases Xj.1 hz' with h2 | h2
         ·exact hC2 z' h2 key p' hp'
         ·rw [Zs] at h2
          subst h2
          rw [hk0] at hp'
          cases hp'
          exact hs
        ·simp only [List.getLast?_concat]
    ·have hmu' : Qe7 l i = false := by simpa using hmu
     have hm1 : ((aks m).length : Int) = 1 := by have := hmo.2 hmu'; omega
     simp only [hkl, hcut, hm1, hi1, Q2, Q3, Qa9, Qa8, Qab, Qb0, Qa5, Qco, ↓Qby, cutH, Qov, Qad, Qaj, Qa6, Qa2, Fam.step, Qae, evO, opv, qv, binV, cutV, cutB, Qa1, Qa0, Qa3, ↓reduceIte, Nat.reduceEqDiff, Nat.reduceLT, Int.reduceNeg, Qa, Qc, Qk, Qx, Qd, Qb, decide_true, decide_false, true_and, and_true, reduceCtorEq]
     exact hnext (by unfold Qhz; rw [hmu']; rfl)
  ·intro hc
   have hlt : ¬ ((t0.length : Int) < t0.length) := by omega
   have hf : (ints 0 (t0.length - 1)).find? (Qhz q l) = none := by
    rw [Ja]
    intro x hx
    obtain ⟨j, hj⟩ := Zf hx
    have hjl := Qam hj
    rw [Qfz] at hjl
    rw [hc j x (by omega) hj]; simp
   simp only [hlt, hf, askV, Jb, Qa9, Qa8, Qab, Qb0, Qaf, Qa5, noGo, Qad, Qaj, Qa6, Qa2, Fam.step, Qae, evO, opv, qv, binV, ldV, Qa1, Qa0, Qa3, ↓reduceIte, Nat.reduceEqDiff, Int.reduceNeg, Qa, Qc, Qu, Zz, endQ, rvs, rv1, resV, vw_i, vw_b, Qcu, Qb, decide_false, and_self, reduceCtorEq]
theorem W78 : ∀ (q : Nat) (l : List (List Int)), OkA l q → Qal Try.prog 78 [.sl 1 (l.map eCan), .i q] (askV (askN q l)) := by
 intro q
 induction q with
 | zero => intro l h; exact W78z l h
 | succ q ih =>
  intro l h
  have hok : GOk Try.prog (G78 q) := Qs5.ext (f := 78) (fun a w => Try.call78 a w) (Qb4 (e := eA78) (d := dA78) (ok := fun a => OkA a.1 a.2 ∧ a.2 = q) (g := fun a => askN a.2 a.1) (eb := askV) fun a h => by
   obtain ⟨l, q'⟩ := a
   obtain ⟨h1, h2⟩ := h
   simp only at h2
   subst h2
   exact ih l h1)
  exact W78s q hok l h
noncomputable def HG1 : Gam := HF6.ext 78 (fnG eA78 dA78 (fun a => OkA a.1 a.2) (fun a => askN a.2 a.1) askV)
theorem Qul : GOk Try.prog HG1 := Qs5.ext (f := 78) (fun a w => Try.call78 a w) (Qb4 (e := eA78) (d := dA78) (ok := fun a => OkA a.1 a.2) (g := fun a => askN a.2 a.1) (eb := askV) fun a h => W78 a.2 a.1 h)
theorem h78 (l : List (List Int)) (q : Nat) : HG1 78 [.sl 1 (l.map eCan), .i q] = (OkA l q, askV (askN q l)) :=
 (show HG1 78 _ = fnG eA78 dA78 (fun a => OkA a.1 a.2) (fun a => askN a.2 a.1) askV (eA78 (l, q)) from rfl).trans (Qb6 _ (Qqw _))
end Go.C10
set_option linter.unusedSimpArgs false
set_option linter.unusedVariables false
namespace Go.C10
open Go.Fam Go.Proofs
variable {Γ : Gam}
def canB (q : Nat) (l : List (List Int)) : Bool := (askN q l).isSome
theorem Qho {q : Nat} {l : List (List Int)} (h : l.length = 1) : canB q l = true := by
 unfold canB
 cases q with
 | zero => unfold askN; rw [if_pos h]; rfl
 | succ q => unfold askN; rw [if_pos h]; rfl
theorem Qm3 {q : Nat} {l : List (List Int)} (h : ¬ l.length = 1) : canB (q + 1) l = (ints 0 ((l.headD []).length - 1)).any fun g => Qe7 l g && l.all fun t => canB q (Qcv l g (atN t g)) := by
 unfold canB
 rw [askN, if_neg h, Bool.eq_iff_iff, List.find?_isSome, Xi]
theorem Qq1 {l : List (List Int)} : canB 0 l = true ↔ l.length = 1 := by
 unfold canB askN
 by_cases h : l.length = 1
 ·rw [if_pos h]; simp [h]
 ·rw [if_neg h]; simp [h]
theorem Qm2 : ∀ {q : Nat} {l : List (List Int)}, canB q l = true → canB (q + 1) l = true
 | 0, l, h => Qho (Qq1.1 h)
 | q + 1, l, h => by
  by_cases h1 : l.length = 1
  ·exact Qho h1
  ·rw [Qm3 h1, Xi] at h ⊢
   obtain ⟨g, hg, h2⟩ := h
   refine ⟨g, hg, ?_⟩
   rw [Zr, Z0] at h2 ⊢
   exact ⟨h2.1, fun t ht => Qm2 (h2.2 t ht)⟩
structure Taks (n : Nat) (l : List (List Int)) : Prop where
 nd : l.Nodup
 tak : ∀ t ∈ l, IsTak n t
theorem Taks.where_ {n : Nat} {l : List (List Int)} (h : Taks n l) (g u : Int) : Taks n (Qcv l g u) :=
 ⟨h.nd.sublist X5, fun t ht => h.tak t (Zm.1 ht).1⟩
theorem Taks.head {n : Nat} {l : List (List Int)} (h : Taks n l) (hne : l ≠ []) : (l.headD []).length = n := by
 cases l with
 | nil => exact absurd rfl hne
 | cons a l => have := (h.tak a (by simp)).len; simpa using this
theorem Ql4 {l : List (List Int)} {g u : Int} {t : List Int} : t ∈ Qcv l g u ↔ t ∈ l ∧ atN t g = u := by
 unfold Qcv
 rw [Zm, decide_eq_true_eq]
theorem Qow {l : List (List Int)} {g : Int} (hne : l ≠ []) : Qe7 l g = true ↔ ∃ t ∈ l, ∃ t' ∈ l, atN t g ≠ atN t' g := by
 have hl0 : l.headD [] ∈ l := by cases l with | nil => exact absurd rfl hne | cons a l => simp
 unfold Qe7
 rw [Xi]
 constructor
 ·rintro ⟨t, ht, h⟩
  exact ⟨t, ht, _, hl0, by simpa using h⟩
 ·rintro ⟨t, ht, t', ht', h⟩
  by_cases e : atN t g = atN (l.headD []) g
  ·exact ⟨t', ht', by rw [decide_eq_true_eq]; intro e2; exact h (e.trans e2.symm)⟩
  ·exact ⟨t, ht, by simpa using e⟩
theorem Qso {n : Nat} {t t' : List Int} (h : IsTak n t) (h' : IsTak n t') (he : ∀ i : Nat, i < n → atN t i = atN t' i) : t = t' := by
 have l1 := h.len
 have l2 := h'.len
 rw [Qm] at l1 l2
 apply Xt
 intro i
 by_cases hi : i < n
 ·have := he i hi
  unfold atN at this
  rw [Qm] at this
  rw [Ql (by omega), Ql (by omega)] at this ⊢
  simpa using this
 ·rw [Zo (by omega), Zo (by omega)]
theorem Qqp {n : Nat} {t t' : List Int} (h : IsTak n t) (h' : IsTak n t') (he : ∀ i : Nat, i + 1 < n → atN t i = atN t' i) : t = t' := by
 refine Qso h h' fun i hi => ?_
 by_cases hi2 : i + 1 < n
 ·exact he i hi2
 ·have hin : i = n - 1 := by omega
  have l1 := h.len
  have l2 := h'.len
  rw [Qm] at l1 l2
  refine Classical.byContradiction fun hne => ?_
  have get : ∀ {t : List Int} {k : Nat} (hk : k < t.length), atN t (k : Int) = t[k] := fun {t k} hk => by
   unfold atN; rw [Qm, Ql hk]; rfl
  have hnot : ∀ k (hk : k < t'.length), t'[k] ≠ t[i] := by
   intro k hk e
   by_cases hki : k = i
   ·subst hki
    exact hne (by rw [get (by omega), get (by omega), e])
   ·have h3 := he k (by omega)
    rw [get (by omega), get hk, e] at h3
    have := (Qw.1 h.nodup)
    rw [Zn] at this
    rcases Xm hki with hlt | hlt
    ·exact this k i (by omega) (by omega) hlt h3
    ·exact this i k (by omega) (by omega) hlt h3.symm
  have hin2 := h.in_ t[i] (Xz (by omega))
  have hsub : (t[i] :: t').length ≤ n := by
   have hnd : (t[i] :: t').Nodup := by
    rw [Z8]
    refine ⟨fun hm => ?_, h'.nodup⟩
    obtain ⟨k, hk, e⟩ := Zu.1 hm
    exact hnot k hk e
   have h5 : ((t[i] :: t').map Int.toNat).Nodup := by
    rw [Qw, Xu]
    refine X7.imp_of_mem ?_ (Qw.1 hnd)
    intro a b ha hb hab e
    have h6 : ∀ a ∈ t[i] :: t', 0 ≤ a := fun a ha => by
     rcases Z7.1 ha with rfl | ha
     ·exact hin2.1
     ·exact (h'.in_ a ha).1
    have := h6 a ha
    have := h6 b hb
    exact hab (by omega)
   have := Qi5 h5 (n := n) (fun a ha => by
    obtain ⟨b, hb, rfl⟩ := Xa.1 ha
    rcases Z7.1 hb with rfl | hb
    ·omega
    ·have := h'.in_ b hb; omega)
   simpa using this
  simp at hsub
  omega
theorem Qn5 {n : Nat} {l : List (List Int)} (h : Taks n l) (hne : l ≠ []) (he : ∀ t ∈ l, ∀ t' ∈ l, t = t') : l.length = 1 := by
 cases l with
 | nil => exact absurd rfl hne
 | cons a l =>
  cases l with
  | nil => rfl
  | cons b l =>
   have := h.nd
   rw [Z8] at this
   exact absurd (by rw [he a (by simp) b (by simp)]; simp) this.1
theorem Qkc {n q : Nat} {l : List (List Int)} (hT : Taks n l) (hne : l ≠ []) {i : Nat} (hi : i < n) (hm : Qe7 l i = true) (h : ∀ t ∈ l, canB q (Qcv l i (atN t i)) = true) : canB (q + 1) l = true := by
 by_cases h1 : l.length = 1
 ·exact Qho h1
 ·rw [Qm3 h1, Xi, hT.head hne]
  exact ⟨i, Qhf.2 (by omega), by rw [hm, Zq, Z0]; exact h⟩
theorem Qgf {n : Nat} : ∀ (k j : Nat) (l : List (List Int)), j + k + 1 = n → Taks n l → l ≠ [] → (∀ t ∈ l, ∀ t' ∈ l, ∀ i : Nat, i < j → atN t i = atN t' i) → canB k l = true
 | 0, j, l, hj, hT, hne, he => Qho (Qn5 hT hne fun t ht t' ht' => Qqp (hT.tak t ht) (hT.tak t' ht') fun i hi => he t ht t' ht' i (by omega))
 | k + 1, j, l, hj, hT, hne, he => by
  cases hm : Qe7 l j with
  | true =>
   refine Qkc hT hne (by omega) hm fun t ht => ?_
   refine Qgf k (j + 1) _ (by omega) (hT.where_ _ _) (X8 (Ql4.2 ⟨ht, rfl⟩)) fun a ha b hb i hi => ?_
   rw [Ql4] at ha hb
   by_cases hij : i = j
   ·subst hij; rw [ha.2, hb.2]
   ·exact he a ha.1 b hb.1 i (by omega)
  | false =>
   refine Qm2 (Qgf k (j + 1) l (by omega) hT hne fun a ha b hb i hi => ?_)
   by_cases hij : i = j
   ·subst hij
    refine Classical.byContradiction fun hab => ?_
    have := (Qow hne).2 ⟨a, ha, b, hb, hab⟩
    rw [hm] at this; cases this
   ·exact he a ha b hb i (by omega)
theorem Qo0 {n : Nat} {l : List (List Int)} (hT : Taks n l) (hne : l ≠ []) : canB (n - 1) l = true := by
 cases n with
 | zero =>
  refine Qho (Qn5 hT hne fun t ht t' ht' => ?_)
  have h1 := (hT.tak t ht).len
  have h2 := (hT.tak t' ht').len
  simp at h1 h2
  rw [h1, h2]
 | succ n => exact Qgf n 0 l (by omega) hT hne fun _ _ _ _ i hi => by omega
noncomputable def Qe6 (l : List (List Int)) : Nat := Ql1 fun q => canB q l = true
theorem Qfj {n : Nat} {l : List (List Int)} (hT : Taks n l) (hne : l ≠ []) : canB (Qe6 l) l = true ∧ ∀ q, canB q l = true → Qe6 l ≤ q := Qfi (p := fun q => canB q l = true) ⟨_, Qo0 hT hne⟩
theorem Qd3 {s : Stand} (hS : OkS s) : Taks s.guests.toNat (Qag s) := by
 have hg := hS.guests
 have e : ((s.guests.toNat : Nat) : Int) = s.guests := by omega
 refine ⟨?_, fun t ht => by rw [e]; exact (Qdq.1 ht).1⟩
 unfold Qag Qca
 refine List.Nodup.sublist X5 ?_
 have key : ∀ (r : Nat) (F : List Int), (extN s.guests r F).Nodup := by
  intro r
  induction r with
  | zero => intro F; simp [extN]
  | succ r ih =>
   intro F
   rw [extN, Qw, List.pairwise_flatMap]
   refine ⟨fun u _ => Qw.1 (ih _), ?_⟩
   have hnd : ((ints 0 (s.guests - 1)).filter fun u => decide (u ∉ F)).Pairwise (· ≠ ·) := by
    refine X7.filter _ ?_
    unfold ints
    rw [Xu]
    refine (Qw.1 List.nodup_range).imp ?_
    intro a b hab e; exact hab (by omega)
   refine hnd.imp ?_
   intro u v huv t ht t' ht' e
   obtain ⟨m, rfl, _⟩ := (Qhs r (F ++ [u]) t).1 ht
   obtain ⟨m', rfl, _⟩ := (Qhs r (F ++ [v]) t').1 ht'
   simp at e
   exact huv e.1
 exact key _ _
end Go.C10
set_option linter.unusedSimpArgs false
set_option linter.unusedVariables false
namespace Go.C10
open Go.Fam Go.Proofs
variable {Γ : Gam}
noncomputable def Qcd (s : Stand) : Int × Int × Int := if (Qbo s []).2 = 0 then (Qe6 (Qag s), (askN (Qe6 (Qag s)) (Qag s)).getD (-1), 0) else (0, 0, (Qbo s []).2)
theorem Qj1 {s : Stand} (hS : OkS s) (hne : Qag s ≠ []) {q : Nat} (hq : q ≤ 100) : OkA (Qag s) q := by
 have hT := Qd3 hS
 have hg := hS.guests
 have hh := hT.head hne
 refine ⟨hne, by have := Qe1 hS; omega, hq, fun t ht => ?_, by omega⟩
 rw [hh]
 have := (hT.tak t ht).len
 omega
theorem Qos {s : Stand} (hS : OkS s) (hne : Qag s ≠ []) : Qe6 (Qag s) ≤ 6 := by
 have h := (Qfj (Qd3 hS) hne).2 _ (Qo0 (Qd3 hS) hne)
 have hg := hS.guests
 omega
theorem Qt0 (s : Stand) (gs : List Int)  : HG1 66 [.ag (Qa7 s), .sl 1 (gs.map eI)] = (Qas s ∧ gs.length ≤ 1000000, ((fun r => .tp [.sl 1 (r.1.map eCan), .i r.2])) (Qbo s gs)) := h66 s gs
def qV (r : Int × Int × Int) : V := .tp [.i r.1, .i r.2.1, .i r.2.2]
theorem W51 (s : Stand) (h : Qas s) : Qal Try.prog 51 [.ag (Qa7 s)] (qV (Qcd s)) := by
 refine Qak Qul hmix Try.func51 cb51 cc51 cs51 cn51 ?_
 have g1 := Qt0 s []
 simp only [Qa7, Qc, Qe] at g1
 by_cases h0 : (Qbo s []).2 = 0
 ·obtain ⟨hc, _, hne, e1⟩ := Qjn h0
  have hS := Qfa hc h
  have hT := Qd3 hS
  obtain ⟨q1, q2⟩ := Qfj hT hne
  have q3 := Qos hS hne
  simp only [rc51, rs51, g1, h, h0, e1, qV, Qah, Qa9, Qa8, Qab, Qac, Qa5, Qad, Qa6, Qa2, Fam.step, Qae, evO, opv, qv, binV, ldV, Qap, V.cells, Qaw, Qaa, Qa4, flat, Qd5, Qa1, Qa0, Qa3, ↓reduceIte, Nat.reduceEqDiff, Nat.reduceAdd, Nat.reduceLT, Nat.reduceLeDiff, Qa, Qc, Qg, Qe, Qk, Qt, Qi, Qd, Qf, Qj, vw_i, vw_z, Qan, Qax, zipA, Qh, Qr, Za, Qo, Q8, Qb, decide_true, true_and, and_self, imp_self, Qa7]
  refine Qbk (Qe6 (Qag s)) (fun i => ⟨lkp [(5, .sl 1 ((Qag s).map eCan)), (6, .i i)], []⟩) (fun i => True) ?_ ?_ ?_ ?_
  ·simp only [Zj, kp, Qa0, Qa3, ↓reduceIte, Nat.reduceEqDiff, Qa, Qc]
  ·trivial
  ·intro i hi _
   have hno : (askN i (Qag s)).isSome = false := by
    cases hs : (askN i (Qag s)).isSome with
    | false => rfl
    | true => have := q2 i hs; omega
   have g2 := h78 (Qag s) i
   have hA := Qj1 hS hne (q := i) (by omega)
   have hi1 : inI ((i : Int) + 1) := by unfold inI; omega
   simp only [g2, hA, askV, hno, hi1, Q2, Q3, Qah, Qa9, Qa8, Qab, Qac, Qa5, Qad, Qaj, Qa6, Qa2, Fam.step, Qae, evO, opv, qv, binV, Qap, Qaa, Qa4, flat, Qd5, kp, Qa1, Qa0, Qa3, ↓reduceIte, Nat.reduceEqDiff, Nat.reduceAdd, Nat.reduceLT, Int.reduceNeg, Qa, Qc, Qg, Qe, Qi, Qd, Qf, Qj, vw_i, Qan, Qh, Qr, Qo, Qb, true_and, and_self, implies_true]
  ·intro _
   have g2 := h78 (Qag s) (Qe6 (Qag s))
   have hA := Qj1 hS hne (q := Qe6 (Qag s)) (by omega)
   have hs : (askN (Qe6 (Qag s)) (Qag s)).isSome = true := q1
   simp only [g2, hA, askV, hs, Qcd, h0, Qa9, Qa8, Qab, Qac, Qaf, Qa5, Qad, Qaj, Qa6, Qa2, Fam.step, Qae, evO, opv, qv, ldV, Qap, Qaa, Qa4, flat, Qd5, Qa1, Qa0, Qa3, ↓reduceIte, Nat.reduceEqDiff, Nat.reduceAdd, Nat.reduceLT, Int.reduceNeg, Qa, Qc, Qg, Qe, Qi, Qd, Qf, Qu, Qj, endQ, rvs, rv1, resV, vw_i, Qan, Qcu, Qh, Qr, Qo, Qb, and_self, implies_true]
 ·simp only [rc51, rs51, g1, h, h0, Qcd, qV, Qa9, Qa8, Qab, Qaf, Qa5, Qad, Qa6, Qa2, Fam.step, Qae, evO, opv, qv, binV, ldV, Qap, V.cells, Qaw, Qaa, Qa4, flat, Qd5, Qa1, Qa0, Qa3, ↓reduceIte, Nat.reduceEqDiff, Nat.reduceAdd, Nat.reduceLT, Nat.reduceLeDiff, Qa, Qc, Qg, Qe, Qk, Qt, Qi, Qd, Qf, Qu, Qj, endQ, rvs, rv1, resV, vw_i, vw_z, Qan, Qax, Qcu, zipA, Qh, Qr, Za, Qo, Zh, Qb, decide_false, and_self, imp_self, Qa7]
def e51 (a : Stand) : List V := [.ag (Qa7 a)]
def d51 : List V → Stand | [.ag x0] => (Qav x0) | _ => (Qav [])
theorem Qvt (a : Stand) : d51 (e51 a) = a := by simp [d51, e51, Qbe]
noncomputable def HI1 : Gam := HG1.ext 51 (fnG e51 d51 (fun a => (fun (s : Stand) => Qas s) a) (fun a => (fun (s : Stand) => Qcd s) a) qV)
theorem Qs6 : GOk Try.prog HI1 := Qul.ext (f := 51) (fun a w => Try.call51 a w) (Qb4 (e := e51) (d := d51) (ok := (fun a => (fun (s : Stand) => Qas s) a)) (g := (fun a => (fun (s : Stand) => Qcd s) a)) (eb := qV) fun a h => W51 a h)
theorem h51 (s : Stand) : HI1 51 [.ag (Qa7 s)] = (Qas s, qV (Qcd s)) :=
 (show HI1 51 _ = fnG e51 d51 (fun a => (fun (s : Stand) => Qas s) a) (fun a => (fun (s : Stand) => Qcd s) a) qV (e51 (s)) from rfl).trans (Qb6 _ (Qvt _))
theorem W17 (s : Stand) (h : Qas s) : Qal Try.prog 17 [.ag (Qa7 s)] (.tp [.i (Qcd s).1, .i (Qcd s).2.2]) := by
 refine Qak Qs6 hmix Try.func17 cb17 cc17 cs17 cn17 ?_
 have g1 := h51 s
 simp only [Qa7] at g1
 simp only [rc17, rs17, g1, h, qV, Qa9, Qa8, Qaf, Qa5, Qad, Qa6, Qa2, Fam.step, Qae, evO, opv, qv, ldV, Qap, V.cells, Qaw, Qaa, Qa4, flat, Qd5, Qa1, Qa0, Qa3, ↓reduceIte, Nat.reduceEqDiff, Nat.reduceAdd, Nat.reduceLT, Nat.reduceLeDiff, Qa, Qc, Qg, Qe, Qk, Qt, Qi, Qd, Qf, Qu, Qj, endQ, rvs, rv1, resV, vw_i, Qan, Qax, Qcu, zipA, Qh, Qr, Qo, Qb, and_self, implies_true, Qa7]
theorem W32 (s : Stand) (h : Qas s) : Qal Try.prog 32 [.ag (Qa7 s)] (.tp [.i (Qcd s).2.1, .i (Qcd s).2.2]) := by
 refine Qak Qs6 hmix Try.func32 cb32 cc32 cs32 cn32 ?_
 have g1 := h51 s
 simp only [Qa7] at g1
 simp only [rc32, rs32, g1, h, qV, Qa9, Qa8, Qaf, Qa5, Qad, Qa6, Qa2, Fam.step, Qae, evO, opv, qv, ldV, Qap, V.cells, Qaw, Qaa, Qa4, flat, Qd5, Qa1, Qa0, Qa3, ↓reduceIte, Nat.reduceEqDiff, Nat.reduceAdd, Nat.reduceLT, Nat.reduceLeDiff, Qa, Qc, Qg, Qe, Qk, Qt, Qi, Qd, Qf, Qu, Qj, endQ, rvs, rv1, resV, vw_i, Qan, Qax, Qcu, zipA, Qh, Qr, Qo, Qb, and_self, implies_true, Qa7]
def e17 (a : Stand) : List V := [.ag (Qa7 a)]
def d17 : List V → Stand | [.ag x0] => (Qav x0) | _ => (Qav [])
theorem Qvg (a : Stand) : d17 (e17 a) = a := by simp [d17, e17, Qbe]
noncomputable def HI2 : Gam := HI1.ext 17 (fnG e17 d17 (fun a => (fun (s : Stand) => Qas s) a) (fun a => (fun (s : Stand) => Qcd s) a) (fun r => .tp [.i r.1, .i r.2.2]))
theorem Qwj : GOk Try.prog HI2 := Qs6.ext (f := 17) (fun a w => Try.call17 a w) (Qb4 (e := e17) (d := d17) (ok := (fun a => (fun (s : Stand) => Qas s) a)) (g := (fun a => (fun (s : Stand) => Qcd s) a)) (eb := (fun r => .tp [.i r.1, .i r.2.2])) fun a h => W17 a h)
theorem h17 (s : Stand) : HI2 17 [.ag (Qa7 s)] = (Qas s, ((fun r => .tp [.i r.1, .i r.2.2])) (Qcd s)) :=
 (show HI2 17 _ = fnG e17 d17 (fun a => (fun (s : Stand) => Qas s) a) (fun a => (fun (s : Stand) => Qcd s) a) (fun r => .tp [.i r.1, .i r.2.2]) (e17 (s)) from rfl).trans (Qb6 _ (Qvg _))
def e32 (a : Stand) : List V := [.ag (Qa7 a)]
def d32 : List V → Stand | [.ag x0] => (Qav x0) | _ => (Qav [])
noncomputable def HI3 : Gam := HI2.ext 32 (fnG e32 d32 (fun a => (fun (s : Stand) => Qas s) a) (fun a => (fun (s : Stand) => Qcd s) a) (fun r => .tp [.i r.2.1, .i r.2.2]))
theorem Qum : GOk Try.prog HI3 := Qwj.ext (f := 32) (fun a w => Try.call32 a w) (Qb4 (e := e32) (d := d32) (ok := (fun a => (fun (s : Stand) => Qas s) a)) (g := (fun a => (fun (s : Stand) => Qcd s) a)) (eb := (fun r => .tp [.i r.2.1, .i r.2.2])) fun a h => W32 a h)
end Go.C10
set_option maxRecDepth 8000
namespace Go.C10
open Go.Fam Go.Proofs
def rc54 : RC := (.seq (.reg false [(cI 2 0)]) (.keep [0] (.seq (.seq (.reg false [(cMv 5 0), (cLn 6 5), (cC 7 .gtr 6 7)]) (.keep [0,7] (.cond (.t 7) (.seq (.reg false [(cI 2 1)]) .ret) .skip))) (.keep [0] (.seq (.seq (.reg false [(cMv 8 0), (cLn 9 8), (cI 10 0)]) (.keep [0,8,9,10] (.block 0 (.loop [0,8,9,10] none (.seq (.reg false [(cB 11 .lss 10 9)]) (.keep [0,8,9,10,11] (.seq (.cond (.t 11) .skip (.exit 0)) (.keep [0,8,9,10] (.seq (.block 1 (.seq (.reg false [(cMv 12 10), (cA 13 1 8 10), (cLd 14 13 false 1), (cMv 3 12), (cMv 4 14)]) (.keep [0,3,4,8,9,10] (.seq (.reg true [(cMv 15 4), (cMv 16 0), (cLn 17 16), (cC 18 .sub 17 1), (cQ 19 [15,18] (.call (kF 71) [(.t 15), (kI 0), (.t 18)])), (cN 20 19), (cMv 21 20), (gMv 22 21 false 0), (gMv 23 21 false 3), (gQ 24 21 false [22,23] (.slc 1 (.t 22) none (some (.t 23)))), (gMv 25 21 false 4), (gQ 26 21 false [24,25] (.call (kF 79) [(.t 24), (.t 25)])), (cQ 27 [21,26] (.pick (.t 21) (kB true) (.t 26)))]) (.keep [0,8,9,10,27] (.cond (.t 27) (.seq (.reg false [(cI 2 1)]) .ret) .skip)))))) (.keep [0,8,9,10] (.reg false [(cC 28 .add 10 1), (cMv 10 28)]))))))))))) (.keep [] (.seq (.reg false [(cI 2 0)]) .ret)))))))
def pu54 : List Nat := []
def rs54 : List RV := [.t 2]
theorem cc54 : CCx Try.prog Try.f54 pu54 rc54 := by unfold CCx; kernel_rfl
theorem cb54 : CBx Try.f54 := by unfold CBx; kernel_rfl
theorem cs54 : CSx Try.prog Try.f54 rs54 := by unfold CSx; kernel_rfl
theorem cn54 : 1 ≤ Try.f54.ntmps := by decide
def rc56 : RC := (.seq (.reg false [(cQ 4 [] (.mv (.k (.z 1))))]) (.keep [0,1] (.seq (.reg false [(cMv 5 0), (cMv 6 1), (cQ 7 [5,6] (.mn (.t 5) (.t 6))), (cMv 8 0), (cMv 9 1), (cQ 10 [8,9] (.mx (.t 8) (.t 9))), (cQ 11 [7,10] (.bsl 1 2 [(.i 0)] [(0,1, (.t 7)), (1,1, (.t 10))])), (cMv 4 11)]) .ret)))
def pu56 : List Nat := [11]
def rs56 : List RV := [.t 4]
theorem cc56 : CCx Try.prog Try.f56 pu56 rc56 := by unfold CCx; kernel_rfl
theorem cb56 : CBx Try.f56 := by unfold CBx; kernel_rfl
theorem cs56 : CSx Try.prog Try.f56 rs56 := by unfold CSx; kernel_rfl
theorem cn56 : 2 ≤ Try.f56.ntmps := by decide
def rc19 : RC := (.seq (.reg false [(cI 2 0), (cI 3 0)]) (.keep [0] (.seq (.reg false [(cMv 7 0), (cQ 8 [7] (.call (kF 27) [(.t 7)])), (cMv 6 8), (cEx 9 6 0), (cEx 10 6 1), (cMv 4 9), (cMv 5 10)]) (.keep [4,5] (.seq (.reg false [(cMv 11 4), (cLn 12 11), (cMv 13 5), (cMv 2 12), (cMv 3 13)]) .ret)))))
def pu19 : List Nat := []
def rs19 : List RV := [.t 2, .t 3]
theorem cc19 : CCx Try.prog Try.f19 pu19 rc19 := by unfold CCx; kernel_rfl
theorem cb19 : CBx Try.f19 := by unfold CBx; kernel_rfl
theorem cs19 : CSx Try.prog Try.f19 rs19 := by unfold CSx; kernel_rfl
theorem cn19 : 1 ≤ Try.f19.ntmps := by decide
def rc57 : RC := (.seq (.reg false [(cQ 2 [] (.mv (.k (.z 1))))]) (.keep [0] (.seq (.reg false [(cQ 3 [] (.mv (.k (.z 1))))]) (.keep [0,3] (.seq (.reg false [⟨(some 8), none, [], none, .w (.mkm false)⟩, (cMv 4 8)]) (.keep [0,3,4] (.seq (.seq (.reg false [(cMv 9 0), (cLn 10 9), (cI 11 0)]) (.keep [0,3,4,10,11] (.block 0 (.own 3 1 (.loop [0,3,4,10,11] none (.seq (.reg false [(cB 12 .lss 11 10)]) (.keep [0,3,4,10,11,12] (.seq (.cond (.t 12) .skip (.exit 0)) (.keep [0,3,4,10,11] (.seq (.block 1 (.seq (.reg false [(cMv 13 11), (cMv 5 13)]) (.keep [0,3,4,5,10,11] (.seq (.reg false [(cQ 6 [] (.mv (.k (.z 1))))]) (.keep [0,3,4,5,6,10,11] (.seq (.seq (.reg false [(cMv 14 5), (cMv 7 14)]) (.keep [0,3,4,6,7,10,11] (.block 2 (.own 6 1 (.loop [0,3,4,6,7,10,11] none (.seq (.seq (.reg false [(cMv 15 4), (cMv 16 7), (cQ 17 [15,16] (.lkp (.i 0) false 3 false (.t 15) (.t 16))), (cC 18 .eql 17 0)]) (.keep [0,3,4,6,7,10,11,18] (.cond (.t 18) .skip (.exit 2)))) (.keep [0,3,4,6,7,10,11] (.seq (.block 3 (.seq (.reg false [(cMv 23 4), (cMv 24 7), (cQ 25 [23,24] (.lkp (.i 0) false 3 false (.t 23) (.t 24))), (cC 26 .add 25 1), ⟨none, none, [23,24,26], none, .w (.mup 3 false (.t 23) (.t 24) (.t 26))⟩]) (.keep [0,3,4,6,7,10,11] (.reg false [(cMv 27 6), (cMv 28 7), (cQ 29 [28] (.bsl 1 1 [(.i 0)] [(0,1, (.t 28))])), ⟨(some 30), none, [27,29], none, .w (.app 1 (.t 27) (.t 29))⟩, (cMv 6 30)])))) (.keep [0,3,4,6,7,10,11] (.reg false [(cMv 19 0), (cMv 20 7), (cA 21 1 19 20), (cLd 22 21 false 1), (cMv 7 22)])))))))))) (.keep [0,3,4,6,10,11] (.seq (.drp 2 (.reg false [(cMv 31 6), (cLn 32 31), (cC 33 .gtr 32 1)])) (.keep [0,3,4,6,10,11,33] (.cond (.t 33) (.reg false [(cMv 34 3), (cMv 35 6), (cQ 36 [35] (.bsl 1 1 [(.z 1)] [(0,1, (.t 35))])), ⟨(some 37), none, [34,36], none, .w (.app 1 (.t 34) (.t 36))⟩, (cMv 3 37)]) .skip)))))))))) (.keep [0,3,4,10,11] (.reg false [(cC 38 .add 11 1), (cMv 11 38)])))))))))))) (.keep [3] (.seq (.reg false [(cMv 39 3), (cMv 2 39)]) .ret)))))))))
def pu57 : List Nat := [29,36]
def rs57 : List RV := [.t 2]
theorem cc57 : CCx Try.prog Try.f57 pu57 rc57 := by unfold CCx; kernel_rfl
theorem cb57 : CBx Try.f57 := by unfold CBx; kernel_rfl
theorem cs57 : CSx Try.prog Try.f57 rs57 := by unfold CSx; kernel_rfl
theorem cn57 : 1 ≤ Try.f57.ntmps := by decide
def rc55 : RC := (.seq (.reg false [(cQ 4 [] (.mv (.k (.z 1))))]) (.keep [0,1,4] (.seq (.seq (.reg false [(cMv 7 0), (cLn 8 7), (cI 9 0)]) (.keep [0,1,4,8,9] (.block 0 (.own 4 1 (.loop [0,1,4,8,9] (some 1) (.seq (.reg false [(cB 10 .lss 9 8)]) (.keep [0,1,4,8,9,10] (.seq (.cond (.t 10) .skip (.exit 0)) (.keep [0,1,4,8,9] (.seq (.block 1 (.seq (.reg false [(cMv 11 9), (cMv 5 11)]) (.keep [0,1,4,5,8,9] (.seq (.reg false [(cMv 12 1), (cMv 13 5), (cB 14 .sub 12 13), (cMv 15 0), (cLn 16 15), (cB 17 .add 14 16), (cMv 18 0), (cLn 19 18), (cB 20 .rem 17 19), (cMv 6 20)]) (.keep [0,1,4,5,6,8,9] (.seq (.reg false [(cMv 21 5), (cMv 22 6), (cB 23 .lss 21 22)]) (.keep [0,1,4,5,6,8,9,23] (.cond (.t 23) (.any false 1 [⟨(cMv 24 4), [], []⟩, ⟨(cMv 25 0), [], []⟩, ⟨(cMv 26 5), [], []⟩, ⟨(cA 27 1 25 26), [], [1,2]⟩, ⟨(cLd 28 27 false 1), [], [3,1,2]⟩, ⟨(cMv 29 0), [], []⟩, ⟨(cMv 30 6), [], []⟩, ⟨(cA 31 1 29 30), [], [5,6]⟩, ⟨(cLd 32 31 false 1), [], [7,5,6]⟩, ⟨(cQ 33 [28,32] (.call (kF 56) [(.t 28), (.t 32)])), [], [4,3,1,2,8,7,5,6]⟩, ⟨(cQ 34 [33] (.bsl 1 1 [(.z 1)] [(0,1, (.t 33))])), [], [9,4,3,1,2,8,7,5,6]⟩, ⟨⟨(some 35), none, [24,34], (some 0), .w (.app 1 (.t 24) (.t 34))⟩, [], [0,10,9,4,3,1,2,8,7,5,6]⟩, ⟨(cMv 4 35), [], [11,0,10,9,4,3,1,2,8,7,5,6]⟩]) .skip)))))))) (.drp 1 (.keep [0,1,4,8,9] (.reg false [(cC 36 .add 9 1), (cMv 9 36)]))))))))))))) (.keep [4] (.seq (.reg false [(cMv 37 4), (cMv 4 37)]) .ret)))))
def pu55 : List Nat := [34]
def rs55 : List RV := [.t 4]
theorem cc55 : CCx Try.prog Try.f55 pu55 rc55 := by unfold CCx; kernel_rfl
theorem cb55 : CBx Try.f55 := by unfold CBx; kernel_rfl
theorem cs55 : CSx Try.prog Try.f55 rs55 := by unfold CSx; kernel_rfl
theorem cn55 : 2 ≤ Try.f55.ntmps := by decide
def rc24 : RC := (.seq (.reg false [(cQ 2 [] (.mv (.k (.z 1)))), (cQ 3 [] (.mv (.k (.z 1)))), (cI 4 0)]) (.keep [0,2,3] (.seq (.seq (.reg false [(cMv 9 0), (cQ 10 [9] (.call (kF 54) [(.t 9)])), (cMv 5 10)]) (.keep [0,2,3,5] (.seq (.reg false [(cMv 11 5), (cC 12 .neq 11 0)]) (.keep [0,2,3,5,12] (.cond (.t 12) (.seq (.reg false [(cMv 13 5), (cQ 2 [] (.mv (.k (.z 1)))), (cQ 3 [] (.mv (.k (.z 1)))), (cMv 4 13)]) .ret) .skip))))) (.keep [0,2,3] (.seq (.reg false [(cQ 6 [] (.mv (kF 55)))]) (.keep [0,2,3,6] (.seq (.seq (.reg false [(cMv 14 0), (cQ 15 [14] (.call (kF 57) [(.t 14)])), (cLn 16 15), (cI 17 0)]) (.keep [2,3,6,15,16,17] (.block 0 (.own 2 1 (.own 3 1 (.loop [2,3,6,15,16,17] none (.seq (.reg false [(cB 18 .lss 17 16)]) (.keep [2,3,6,15,16,17,18] (.seq (.cond (.t 18) .skip (.exit 0)) (.keep [2,3,6,15,16,17] (.seq (.block 1 (.seq (.reg false [(cA 19 1 15 17), (cLd 20 19 false 1), (cMv 8 20)]) (.keep [2,3,6,8,15,16,17] (.seq (.reg false [(cMv 21 2), (cMv 22 6), (cMv 23 8), (cQ 24 [22,23] (.call (.t 22) [(.t 23), (kI 0)])), ⟨(some 25), none, [21,24], none, .w (.app 1 (.t 21) (.t 24))⟩, (cMv 2 25)]) (.keep [2,3,6,8,15,16,17] (.reg false [(cMv 26 3), (cMv 27 6), (cMv 28 8), (cQ 29 [27,28] (.call (.t 27) [(.t 28), (kI 1)])), ⟨(some 30), none, [26,29], none, .w (.app 1 (.t 26) (.t 29))⟩, (cMv 3 30)])))))) (.keep [2,3,6,15,16,17] (.reg false [(cC 31 .add 17 1), (cMv 17 31)]))))))))))))) (.keep [2,3] (.seq (.reg false [(cMv 32 2), (cMv 33 3), (cMv 2 32), (cMv 3 33), (cI 4 0)]) .ret)))))))))
def pu24 : List Nat := []
def rs24 : List RV := [.t 2, .t 3, .t 4]
theorem cc24 : CCx Try.prog Try.f24 pu24 rc24 := by unfold CCx; kernel_rfl
theorem cb24 : CBx Try.f24 := by unfold CBx; kernel_rfl
theorem cs24 : CSx Try.prog Try.f24 rs24 := by unfold CSx; kernel_rfl
theorem cn24 : 1 ≤ Try.f24.ntmps := by decide
def rc27 : RC := (.seq (.reg false [(cQ 2 [] (.mv (.k (.z 1)))), (cI 3 0)]) (.keep [0] (.seq (.seq (.reg false [(cMv 9 0), (cQ 10 [9] (.call (kF 54) [(.t 9)])), (cMv 4 10)]) (.keep [0,4] (.seq (.reg false [(cMv 11 4), (cC 12 .neq 11 0)]) (.keep [0,4,12] (.cond (.t 12) (.seq (.reg false [(cMv 13 4), (cQ 2 [] (.mv (.k (.z 1)))), (cMv 3 13)]) .ret) .skip))))) (.keep [0] (.seq (.reg false [(cMv 14 0), ⟨(some 15), none, [14], none, .o (kF 59) [(.t 14)]⟩, (cMv 5 15)]) (.keep [5] (.seq (.reg false [(cQ 6 [] (.mv (.k (.z 1))))]) (.keep [5,6] (.seq (.seq (.reg false [(cMv 16 5), (cLn 17 16), (cI 18 0)]) (.keep [5,6,17,18] (.block 0 (.own 6 1 (.loop [5,6,17,18] none (.seq (.reg false [(cB 19 .lss 18 17)]) (.keep [5,6,17,18,19] (.seq (.cond (.t 19) .skip (.exit 0)) (.keep [5,6,17,18] (.seq (.block 1 (.seq (.reg false [(cMv 20 18), (cMv 7 20)]) (.keep [5,6,7,17,18] (.block 2 (.loop [5,6,7,17,18] none (.seq (.seq (.reg false [(cMv 21 5), (cMv 22 7), (cA 23 1 21 22), (cLd 24 23 false 1), (cMv 25 7), (cB 26 .neq 24 25)]) (.keep [5,6,7,17,18,26] (.cond (.t 26) .skip (.exit 2)))) (.keep [5,6,7,17,18] (.block 3 (.seq (.reg false [(cMv 27 5), (cMv 28 7), (cA 29 1 27 28), (cLd 30 29 false 1), (cMv 8 30)]) (.keep [5,6,7,8,17,18] (.seq (.any false 0 [⟨(cMv 31 5), [], []⟩, ⟨(cMv 32 7), [], []⟩, ⟨(cMv 33 5), [], []⟩, ⟨(cMv 34 8), [], []⟩, ⟨(cMv 35 5), [], []⟩, ⟨(cMv 36 8), [], []⟩, ⟨(cA 37 1 35 36), [], [4,5]⟩, ⟨(cLd 38 37 false 1), [], [6,4,5]⟩, ⟨(cMv 39 5), [], []⟩, ⟨(cMv 40 7), [], []⟩, ⟨(cA 41 1 39 40), [], [8,9]⟩, ⟨(cLd 42 41 false 1), [], [10,8,9]⟩, ⟨(cA 43 1 31 32), [], [0,1,4,5,6,7,11,10,8,9]⟩, ⟨⟨none, none, [43,38], none, .w (.st 1 (.t 43) (.t 38))⟩, [2,3], [12,0,1,4,5,6,7,11,10,8,9]⟩, ⟨(cA 44 1 33 34), [], [2,3,0,1,4,5,6,7,8,9,10,11,12,13]⟩, ⟨⟨none, none, [44,42], none, .w (.st 1 (.t 44) (.t 42))⟩, [], [14,2,3,0,1,4,5,6,7,8,9,10,11,12,13]⟩]) (.keep [5,6,7,8,17,18] (.reg false [(cMv 45 6), (cMv 46 7), (cMv 47 8), (cQ 48 [46,47] (.call (kF 56) [(.t 46), (.t 47)])), (cQ 49 [48] (.bsl 1 1 [(.z 1)] [(0,1, (.t 48))])), ⟨(some 50), none, [45,49], none, .w (.app 1 (.t 45) (.t 49))⟩, (cMv 6 50)]))))))))))))) (.keep [5,6,17,18] (.reg false [(cC 51 .add 18 1), (cMv 18 51)])))))))))))) (.keep [6] (.seq (.reg false [(cMv 52 6), (cMv 2 52), (cI 3 0)]) .ret)))))))))))
def pu27 : List Nat := [1000015,49]
def rs27 : List RV := [.t 2, .t 3]
theorem cc27 : CCx Try.prog Try.f27 pu27 rc27 := by unfold CCx; kernel_rfl
theorem cb27 : CBx Try.f27 := by unfold CBx; kernel_rfl
theorem cs27 : CSx Try.prog Try.f27 rs27 := by unfold CSx; kernel_rfl
theorem cn27 : 1 ≤ Try.f27.ntmps := by decide
def rc59 : RC := (.seq (.reg false [(cQ 2 [] (.mv (.k (.z 1))))]) (.keep [0] (.seq (.seq (.rnl false [(cMv 3 0)] (cLn 4 3) []) (.keep [0,4] (.cond (.t 4) (.seq (.reg false [(cQ 2 [] (.mv (.k (.z 1))))]) (.owng 2 1 1 .ret)) .skip))) (.keep [0] (.seq (.reg false [⟨(some 5), none, [], none, .w (.bso 1 0 [(.i 0)] [])⟩, (cMv 6 0), ⟨(some 7), none, [5,6], none, .w (.app 1 (.t 5) (.t 6))⟩, (cMv 2 7)]) .ret)))))
def pu59 : List Nat := []
def rs59 : List RV := [.t 2]
theorem cc59 : CCx Try.prog Try.f59 pu59 rc59 := by unfold CCx; kernel_rfl
theorem cb59 : CBx Try.f59 := by unfold CBx; kernel_rfl
theorem cs59 : CSx Try.prog Try.f59 rs59 := by unfold CSx; kernel_rfl
theorem cn59 : 1 ≤ Try.f59.ntmps := by decide
end Go.C10
set_option linter.unusedSimpArgs false
set_option linter.unusedVariables false
namespace Go.C10
open Go.Fam Go.Proofs
variable {Γ : Gam}
theorem Qt1 (n : Int) (lo : Int) (hi : Int)  : HI3 71 [.i n, .i lo, .i hi] = (True, .b (Qba n lo hi)) := h71 n lo hi
theorem Qt2 (l : List Int) (n : Int)  : HI3 79 [.sl 1 (l.map eI), .i n] = (l.length ≤ 1000000, .b (decide (n ∈ l))) := h79 l n
def takB (t : List Int) : Bool := decide (t.length ≤ 7) && (X1 t.length).all fun i => Qba (t[i]?.getD 0) 0 (t.length - 1) && !decide (t[i]?.getD 0 ∈ t.take i)
def takE (t : List Int) : Int := if takB t = true then 0 else 1
theorem Qiz {t : List Int} : (∀ i : Nat, i < t.length → t[i]?.getD 0 ∉ t.take i) ↔ t.Nodup := by
 rw [Qw, Zn]
 constructor
 ·intro h i j hi hj hij e
  refine h j hj ?_
  rw [Ql hj, Qj, ← e]
  exact Xq.2 ⟨i, by omega, rfl⟩
 ·intro h j hj hm
  rw [Ql hj, Qj] at hm
  obtain ⟨i, hi, e⟩ := Xq.1 hm
  exact h i j (by omega) hj (by omega) e
theorem Qn4 (t : List Int) : takB t = true ↔ t.length ≤ 7 ∧ IsTak t.length t := by
 unfold takB Qba
 simp only [Zr, decide_eq_true_eq, Z0, Xp, Bool.not_eq_true', decide_eq_false_iff_not]
 constructor
 ·rintro ⟨h1, h2⟩
  refine ⟨h1, by simp, fun x hx => ?_, Qiz.1 fun i hi => (h2 i hi).2⟩
  obtain ⟨i, hi, rfl⟩ := Zu.1 hx
  have := (h2 i hi).1
  rw [Ql hi] at this
  exact this
 ·rintro ⟨h1, h2, h3, h4⟩
  refine ⟨h1, fun i hi => ⟨?_, Qiz.2 h4 i hi⟩⟩
  rw [Ql hi]
  exact h3 _ (Xz hi)
theorem W54 (t : List Int) (h : t.length ≤ 1000000) : Qal Try.prog 54 [.sl 1 (t.map eI)] (.i (takE t)) := by
 refine Qak Qum hmix Try.func54 cb54 cc54 cs54 cn54 ?_
 by_cases h7 : (7 : Int) < t.length
 ·have e : takE t = 1 := by
   unfold takE takB
   rw [if_neg]
   simp only [Zr, decide_eq_true_eq, not_and]
   intro h2; omega
  simp only [rc54, rs54, h7, e, Qa9, Qa8, Qab, Qaf, Qa5, Qad, Qa6, Qa2, Fam.step, Qae, evO, opv, qv, binV, lenV, Qa1, Qa0, Qa3, ↓reduceIte, Qa, Qc, endQ, rvs, rv1, resV, vw_i, zipA, decide_true, and_self, reduceCtorEq, Qn]
 ·simp only [rc54, rs54, h7, Qah, Qa9, Qa8, Qab, Qac, Qa5, Qad, Qa6, Qa2, Fam.step, Qae, evO, opv, qv, binV, lenV, Qa1, Qa0, Qa3, ↓reduceIte, Nat.reduceEqDiff, Qa, Qc, zipA, Qb, decide_false, true_and, reduceCtorEq, Qn]
  refine Qbk t.length (fun i => ⟨lkp [(0, .sl 1 (t.map eI)), (8, .sl 1 (t.map eI)), (9, .i t.length), (10, .i i)], []⟩) (fun i => ∀ j : Nat, j < i → (Qba (t[j]?.getD 0) 0 (t.length - 1) && !decide (t[j]?.getD 0 ∈ t.take j)) = true) ?_ ?_ ?_ ?_
  ·simp only [Zj, kp, Qa0, Qa3, ↓reduceIte, Nat.reduceEqDiff, Qa, Qc, reduceCtorEq]
  ·intro j hj; omega
  ·intro i hi hc
   obtain ⟨x, hx⟩ : ∃ x, t[i]? = some x := ⟨_, Ql hi⟩
   have hlt : (i : Int) < t.length := by omega
   have h3 : inI ((i : Int) + 1) ∧ inI ((t.length : Int) - 1) := by unfold inI; omega
   have hle : (i : Int) ≤ t.length := by omega
   have g1 := Qt1 x 0 (t.length - 1)
   have g2 := Qt2 (t.take i) x
   have htl : (t.take i).length ≤ 1000000 := by rw [Xy]; omega
   have hmt : List.take i (t.map eI) = (t.take i).map eI := by rw [List.map_take]
   have bad : (Qba x 0 (t.length - 1) && !decide (x ∈ t.take i)) = false → takE t = 1 := fun e => by
    unfold takE
    rw [if_neg]
    unfold takB
    rw [Zr, Z0]
    rintro ⟨_, h⟩
    have := h i (Xp.2 hi)
    rw [hx, Qj, e] at this
    cases this
   have good : (Qba x 0 (t.length - 1) && !decide (x ∈ t.take i)) = true → ∀ j : Nat, j < i + 1 → (Qba (t[j]?.getD 0) 0 (t.length - 1) && !decide (t[j]?.getD 0 ∈ t.take j)) = true := fun e j hj => by
    by_cases hji : j < i
    ·exact hc j hji
    ·have : j = i := by omega
     subst this
     rw [hx, Qj]; exact e
   by_cases hw : Qba x 0 (t.length - 1) = true
   ·by_cases hm : x ∈ t.take i
    ·simp only [hx, hlt, h3, hle, g1, g2, htl, hmt, hw, hm, Qah, Qa9, Qa8, Qab, Qac, Qaf, Qa5, Qad, Qaj, Qa6, Qa2, Fam.step, Qae, Qb1, Qat, ug, evO, opv, qv, Qai, binV, ldV, iadV, lenV, slcV, Qgm, Qap, Qaa, Qa4, flat, kp, Qa1, Qa0, Qa3, ↓reduceIte, Nat.reduceEqDiff, Nat.reduceLT, Nat.reduceLeDiff, Z3, Int.reduceLE, Qa, Qc, Q9, Zd, Qg, Qe, Zi, Zb, Qi, Qj, endQ, rvs, rv1, resV, vw_i, Qan, Q7, beq_self_eq_true, Qh, V.i.injEq, Qr, Qo, Q8, Qb, decide_true, true_and, and_self, forall_const, implies_true, reduceCtorEq, Q5, Xk, Qn, Qm, Qq, Qz, eI]
     exact (bad (by simp [hm])).symm
    ·simp only [hx, hlt, h3, hle, g1, g2, htl, hmt, hw, hm, Q2, Q3, Qah, Qa9, Qa8, Qab, Qac, Qa5, Qad, Qaj, Qa6, Qa2, Fam.step, Qae, Qb1, Qat, ug, evO, opv, qv, Qai, binV, ldV, iadV, lenV, slcV, Qgm, Qap, Qaa, Qa4, flat, kp, Qa1, Qa0, Qa3, ↓reduceIte, Nat.reduceEqDiff, Nat.reduceLT, Nat.reduceLeDiff, Z3, Int.reduceLE, Qa, Qc, Q9, Zd, Qg, Qe, Zi, Zb, Qi, Qj, vw_i, Qan, Q7, beq_self_eq_true, Qh, Qr, Qo, Q8, Qb, decide_true, decide_false, true_and, and_true, and_self, forall_const, implies_true, reduceCtorEq, Q5, Xk, Qn, Qm, Qq, Qz, eI]
     exact good (by simp [hw, hm])
   ·simp only [hx, hlt, h3, hle, g1, hw, Qah, Qa9, Qa8, Qab, Qac, Qaf, Qa5, Qad, Qaj, Qa6, Qa2, Fam.step, Qae, Qb1, Qat, ug, evO, opv, qv, Qek, binV, ldV, iadV, lenV, slcV, Qgm, Qap, Qaa, Qa4, flat, kp, Qa1, Qa0, Qa3, ↓reduceIte, Nat.reduceEqDiff, Nat.reduceLT, Nat.reduceLeDiff, Z3, Int.reduceLE, Qa, Qc, Q9, Zd, Qg, Qe, Zi, Zb, Qi, Qj, endQ, rvs, rv1, resV, vw_i, Qan, Q7, Qh, V.i.injEq, Qr, Za, Qo, Q8, Zh, Qb, Jc, decide_true, true_and, and_true, and_self, false_and, forall_const, false_implies, implies_true, reduceCtorEq, Q5, Xk, beq_false, imp_self, Qn, Qm, Qq, Qz, eI]
    exact (bad (by simp [hw])).symm
  ·intro hc
   have hlt : ¬ ((t.length : Int) < t.length) := by omega
   have e : takE t = 0 := by
    unfold takE
    rw [if_pos]
    unfold takB
    rw [Zr, Z0, decide_eq_true_eq]
    exact ⟨by omega, fun i hi => hc i (Xp.1 hi)⟩
   simp only [hlt, e, Qa9, Qa8, Qab, Qb0, Qaf, Qa5, Qad, Qaj, Qa6, Qa2, Fam.step, Qae, evO, opv, qv, binV, Qa1, Qa0, Qa3, ↓reduceIte, Nat.reduceEqDiff, Qa, Qc, endQ, rvs, rv1, resV, vw_i, Qb, decide_false, and_self, reduceCtorEq]
def e54 (a : List Int) : List V := [.sl 1 (a.map eI)]
def d54 : List V → List Int | [.sl _ x0] => (x0.map dI) | _ => ([])
theorem Qvv (a : List Int) : d54 (e54 a) = a := by simp [d54, e54, Function.comp_def, Qd4]
noncomputable def HJ1 : Gam := HI3.ext 54 (fnG e54 d54 (fun a => (fun (t : List Int) => t.length ≤ 1000000) a) (fun a => (fun (t : List Int) => takE t) a) .i)
theorem Qun : GOk Try.prog HJ1 := Qum.ext (f := 54) (fun a w => Try.call54 a w) (Qb4 (e := e54) (d := d54) (ok := (fun a => (fun (t : List Int) => t.length ≤ 1000000) a)) (g := (fun a => (fun (t : List Int) => takE t) a)) (eb := .i) fun a h => W54 a h)
theorem h54 (t : List Int) : HJ1 54 [.sl 1 (t.map eI)] = (t.length ≤ 1000000, .i (takE t)) :=
 (show HJ1 54 _ = fnG e54 d54 (fun a => (fun (t : List Int) => t.length ≤ 1000000) a) (fun a => (fun (t : List Int) => takE t) a) .i (e54 (t)) from rfl).trans (Qb6 _ (Qvv _))
def Qg3 (a b : Int) : List Int := [min a b, max a b]
theorem W56 (a b : Int) : Qal Try.prog 56 [.i a, .i b] (.sl 1 ((Qg3 a b).map eI)) := by
 refine Qak Qun hmix Try.func56 cb56 cc56 cs56 cn56 ?_
 have hck : ∀ x y : V, Qc5 1 [x, y] 0 2 = [[x], [y]] := fun _ _ => rfl
 simp only [rc56, rs56, Qg3, Zc, Qs, hck, Qa9, Qa8, Qaf, Qa5, Qad, Qa6, Qa2, Fam.step, Qae, evO, opv, qv, Qar, putAt, Qbd, Qb3, V.cells, Qaw, Qbq, Qaa, Qa4, Qa1, Qa0, Qa3, ↓reduceIte, Nat.reduceEqDiff, Nat.reduceAdd, Nat.reduceMul, Nat.reduceLeDiff, Qa, Qc, Q9, Zd, Qg, Qe, Qv, Zi, Zk, Qk, Qx, Qy, Qp, Qi, Q1, Q6, endQ, rvs, rv1, resV, vw_i, Qan, zipA, Qh, Qr, Qo, and_self, reduceCtorEq, not_false_eq_true, ne_eq, eI]
def e56 (a : Int × Int) : List V := [.i a.1, .i a.2]
def d56 : List V → Int × Int | [.i x0, .i x1] => (x0, x1) | _ => (0, 0)
theorem Qvx (a : Int × Int) : d56 (e56 a) = a := by simp [d56, e56]
noncomputable def HJ2 : Gam := HJ1.ext 56 (fnG e56 d56 (fun a => (fun (a : Int) (b : Int) => True) a.1 a.2) (fun a => (fun (a : Int) (b : Int) => Qg3 a b) a.1 a.2) (fun l => .sl 1 (l.map eI)))
theorem Qs7 : GOk Try.prog HJ2 := Qun.ext (f := 56) (fun a w => Try.call56 a w) (Qb4 (e := e56) (d := d56) (ok := (fun a => (fun (a : Int) (b : Int) => True) a.1 a.2)) (g := (fun a => (fun (a : Int) (b : Int) => Qg3 a b) a.1 a.2)) (eb := (fun l => .sl 1 (l.map eI))) fun a h => W56 a.1 a.2)
theorem h56 (a : Int) (b : Int) : HJ2 56 [.i a, .i b] = (True, ((fun l => .sl 1 (l.map eI))) (Qg3 a b)) :=
 (show HJ2 56 _ = fnG e56 d56 (fun a => (fun (a : Int) (b : Int) => True) a.1 a.2) (fun a => (fun (a : Int) (b : Int) => Qg3 a b) a.1 a.2) (fun l => .sl 1 (l.map eI)) (e56 (a, b)) from rfl).trans (Qb6 _ (Qvx _))
def mirN (l : List Int) (sum : Int) (n : Nat) : List (List Int) := (X1 n).filterMap fun (i : Nat) =>
 let k : Int := (sum - (i : Int) + l.length).tmod l.length
 if (i : Int) < k then some (Qg3 (l[i]?.getD 0) (atN l k)) else none
theorem W55 (l : List Int) (sum : Int) (h : l.length ≤ 1000 ∧ 0 ≤ sum ∧ sum ≤ 1) : Qal Try.prog 55 [.sl 1 (l.map eI), .i sum] (.sl 1 ((mirN l sum l.length).map eCan)) := by
 refine Qak Qs7 hmix Try.func55 cb55 cc55 cs55 cn55 ?_
 obtain ⟨hl, hs⟩ := h
 simp only [rc55, rs55, Qa9, Qa8, Qac, Qa5, Qh1, Qad, Qa6, Qa2, Fam.step, Qae, evO, opv, qv, lenV, Qa1, Qa0, Qa3, ↓reduceIte, Nat.reduceEqDiff, Qa, Qc, Qe, Qp, zipA, Qh, true_and, reduceCtorEq, Qn]
 refine Qch l.length (fun i => ⟨lkp [(0, .sl 1 (l.map eI)), (1, .i sum), (4, .rf 0 (mirN l sum i).length 0 (mirN l sum i).length 1), (8, .i l.length), (9, .i i)], [.cells (mirN l sum i).length ((mirN l sum i).map eCan).flatten]⟩) ?_ ?_ ?_
 ·have e0 : mirN l sum 0 = [] := rfl
  simp only [Zj, e0, Qs, cutH, kp, cutV, cutL, cutB, Qa0, Qa3, ↓reduceIte, Nat.reduceEqDiff, Nat.reduceLT, Qa, Qc, Qe, Qk, Qt, reduceCtorEq]
 ·intro i hi
  obtain ⟨x, hx⟩ : ∃ x, l[i]? = some x := ⟨_, Ql hi⟩
  have hlt : (i : Int) < l.length := by omega
  obtain ⟨k, hk⟩ : ∃ k, k = (sum - i + l.length).tmod l.length := ⟨_, rfl⟩
  have hk0 : 0 ≤ k ∧ k < l.length := by
   rw [hk, Int.tmod_eq_emod_of_nonneg (by omega)]
   exact ⟨Int.emod_nonneg _ (by omega), Int.emod_lt_of_pos _ (by omega)⟩
  have h3 : inI ((i : Int) + 1) ∧ inI (sum - i) ∧ inI (sum - i + l.length) ∧ inI k := by unfold inI; omega
  have hn0 : ¬ (l.length : Int) = 0 := by omega
  have hst : mirN l sum (i + 1) = mirN l sum i ++ if (i : Int) < k then [Qg3 x (atN l k)] else [] := by
   unfold mirN
   rw [Jf, List.filterMap_append]
   congr 1
   simp only [List.filterMap_cons, List.filterMap_nil, ← hk, hx, Qj]
   by_cases h : (i : Int) < k <;> simp [h]
  have hml : (mirN l sum i).length ≤ i := by
   unfold mirN
   refine Xb (Xx _ _) ?_
   rw [Xc]; exact Zl _
  have hfl : Qaz ((mirN l sum i).length + 1) := by unfold Qaz; omega
  by_cases hik : (i : Int) < k
  ·rw [if_pos hik] at hst
   obtain ⟨y, hy⟩ : ∃ y, l[k.toNat]? = some y := ⟨_, Ql (by omega)⟩
   have hay : atN l k = y := by unfold atN; rw [hy]; rfl
   rw [hay] at hst
   have g1 := h56 x y
   have hnx : Qa4 (((mirN l sum i).map eCan).flatten ++ [V.sl 1 ((Qg3 x y).map eI)]) = false := by rw [Qbx, Qc3]; rfl
   have ecp : ∀ l : List Int, eCan l = [.sl 1 (l.map eI)] := fun _ => rfl
   simp only [hx, hlt, ← hk, hk0, h3, hn0, hik, hy, g1, hst, Qh5, Ze, hfl, Q0, Zt, Zw, Zc, Qs, Qaq _ _ _ hnx, Q2, Q3, Qah, Qa9, Qbv, Qa8, Qab, Qac, Qa5, Qco, Qcl, ↓Qby, Qbb, optL, cutH, Qad, Qaj, Qa6, Qa2, Fam.step, Qae, Qb7, runX, eff, Qb9, fpR, fpQ, fpV, Qc4, hits, nv, sv, Qc8, evO, opv, qv, binV, ldV, iadV, lenV, Qap, Qar, putAt, Qbd, Qb3, V.cells, Qaw, Qbq, Qaa, Qa4, flat, kp, cutV, cutB, Qa1, Qa0, Qa3, ↓reduceIte, Nat.reduceEqDiff, Nat.reduceLT, Nat.reduceLeDiff, Qa, Qc, Q9, Zd, Qg, Qe, Qv, Zk, Qk, Qx, Qt, Zb, Qy, Qp, Qi, Qd, Qu, Qj, Zz, Q4, Q1, Q6, Xh, Xd, vw_i, Qan, Q7, Qh, Qr, Za, Zq, Zx, Qo, Xv, Q8, Zh, Qb, decide_true, and_self, reduceCtorEq, not_false_eq_true, ne_eq, Q5, Xw, X3, Z9, Xe, imp_self, Qn, Qm, Qq, Qz, eI, eCan]
  ·rw [if_neg hik, Qi] at hst
   simp only [hlt, ← hk, h3, hn0, hik, hst, Qaq _ _ _ (Qc3 _), Q2, Q3, Qah, Qa9, Qa8, Qab, Qac, Qa5, Qco, ↓Qby, cutH, Qad, Qaj, Qa6, Qa2, Fam.step, Qae, evO, opv, qv, binV, lenV, kp, cutV, cutB, Qa1, Qa0, Qa3, ↓reduceIte, Nat.reduceEqDiff, Nat.reduceLT, Qa, Qc, Qk, Qt, Qb, decide_true, decide_false, and_self, reduceCtorEq, not_false_eq_true, ne_eq, Qn]
 ·have hlt : ¬ ((l.length : Int) < l.length) := by omega
  simp only [hlt, Qh5, Ze, Zl, Qgg, vw_C, Qa9, Qa8, Qab, Qb0, Qaf, Qa5, Qad, Qaj, Qa6, Qa2, Fam.step, Qae, evO, opv, qv, binV, Qa1, Qa0, Qa3, ↓reduceIte, Nat.reduceEqDiff, Qa, Qc, Qd, endQ, rvs, rv1, resV, Qe9, Qh, Qb, decide_false, and_self, reduceCtorEq]
end Go.C10
set_option linter.unusedSimpArgs false
set_option linter.unusedVariables false
namespace Go.C10
open Go.Fam Go.Proofs
variable {Γ : Gam}
def orbN (t : List Int) : Nat → List Int → Int → List Int
 | 0, _, _ => []
 | k + 1, seen, n => if n ∈ seen then [] else n :: orbN t k (seen ++ [n]) (atN t n)
def Qcb (t : List Int) : Nat → List Int × List (List Int)
 | 0 => ([], [])
 | i + 1 => ((Qcb t i).1 ++ orbN t (t.length - (Qcb t i).1.length) (Qcb t i).1 i,
   if 1 < (orbN t (t.length - (Qcb t i).1.length) (Qcb t i).1 i).length then (Qcb t i).2 ++ [orbN t (t.length - (Qcb t i).1.length) (Qcb t i).1 i] else (Qcb t i).2)
def Qdv (t : List Int) : List (List Int) := (Qcb t t.length).2
structure Below (n : Nat) (l : List Int) : Prop where
 nd : l.Nodup
 in_ : ∀ x ∈ l, 0 ≤ x ∧ x < n
theorem Below.len {n : Nat} {l : List Int} (h : Below n l) : l.length ≤ n := by
 have h5 : (l.map Int.toNat).Nodup := by
  rw [Qw, Xu]
  refine X7.imp_of_mem ?_ (Qw.1 h.nd)
  intro a b ha hb hab e
  have := h.in_ a ha
  have := h.in_ b hb
  exact hab (by omega)
 have := Qi5 h5 (n := n) (fun a ha => by
  obtain ⟨b, hb, rfl⟩ := Xa.1 ha
  have := h.in_ b hb; omega)
 simpa using this
theorem Below.snoc {n : Nat} {l : List Int} (h : Below n l) {x : Int} (hx : 0 ≤ x ∧ x < n) (hn : x ∉ l) : Below n (l ++ [x]) := by
 refine ⟨?_, fun y hy => ?_⟩
 ·rw [Xs]
  exact ⟨h.nd, by simp, fun a ha b hb => by simp at hb; subst hb; rintro rfl; exact hn ha⟩
 ·rcases Xj.1 hy with hy | hy
  ·exact h.in_ y hy
  ·rw [Zs] at hy; subst hy; exact hx
theorem Qeb {n : Nat} {t : List Int} (h : IsTak n t) {x : Int} (hx : 0 ≤ x ∧ x < n) : t[x.toNat]? = some (atN t x) ∧ 0 ≤ atN t x ∧ atN t x < n := by
 have hl := h.len
 rw [Qm] at hl
 have hlt : x.toNat < t.length := by omega
 have e : atN t x = t[x.toNat] := by unfold atN; rw [Ql hlt]; rfl
 have := h.in_ _ (Xz hlt)
 rw [e]
 exact ⟨Ql hlt, by omega⟩
theorem Qi8 {n : Nat} {t : List Int} (h : IsTak n t) : ∀ (k : Nat) (seen : List Int) (x : Int), Below n seen → 0 ≤ x ∧ x < n → Below n (seen ++ orbN t k seen x)
 | 0, seen, x, hs, _ => by simpa [orbN] using hs
 | k + 1, seen, x, hs, hx => by
  rw [orbN]
  by_cases hm : x ∈ seen
  ·rw [if_pos hm]; simpa using hs
  ·rw [if_neg hm]
   have := Qi8 h k (seen ++ [x]) (atN t x) (hs.snoc hx hm) (Qeb h hx).2
   simpa using this
theorem Qgi {n : Nat} {t : List Int} (h : IsTak n t) : ∀ i : Nat, i ≤ n → Below n (Qcb t i).1
 | 0, _ => ⟨by simp [Qcb], by simp [Qcb]⟩
 | i + 1, hi => by
  rw [Qcb]
  exact Qi8 h _ _ _ (Qgi h i (by omega)) (by omega)
theorem Qj9 (t : List Int) : ∀ i : Nat, (Qcb t i).2.length ≤ i
 | 0 => by simp [Qcb]
 | i + 1 => by
  have := Qj9 t i
  rw [Qcb]
  split
  ·simp; omega
  ·exact Nat.le_succ_of_le this
set_option maxHeartbeats 2000000 in
theorem W57 (t : List Int) (h : IsTak t.length t ∧ t.length ≤ 1000) : Qal Try.prog 57 [.sl 1 (t.map eI)] (.sl 1 ((Qdv t).map eCan)) := by
 refine Qak Qs7 hmix Try.func57 cb57 cc57 cs57 cn57 ?_
 obtain ⟨hT, hl⟩ := h
 simp only [rc57, rs57, Qa9, Qa8, Qac, Qa5, Qh1, Qad, Qa6, Qa2, Fam.step, Qae, Qce, Qb7, nv, evO, opv, qv, lenV, Qa1, Qa0, Qa3, ↓reduceIte, Nat.reduceEqDiff, Qa, Qc, Qg, Qe, Qy, Qp, zipA, Qh, true_and, and_self, reduceCtorEq, Qn]
 refine Qch t.length (fun i => ⟨lkp [(0, .sl 1 (t.map eI)), (3, .rf 1 (Qcb t i).2.length 0 (Qcb t i).2.length 1), (4, .mp 0 0), (10, .i t.length), (11, .i i)], [.map false (cmKs (Qcb t i).1) (cmVs (Qcb t i).1), .cells (Qcb t i).2.length ((Qcb t i).2.map eCan).flatten]⟩) ?_ ?_ ?_
 ·have e0 : Qcb t 0 = ([], []) := rfl
  have e1 : cmKs [] = [] := rfl
  have e2 : cmVs [] = [] := rfl
  simp only [Zj, e0, e1, e2, Qs, kp, Qa0, Qa3, ↓reduceIte, Nat.reduceEqDiff, Qa, Qc, Qe, reduceCtorEq]
 ·intro i hi
  have hlt : (i : Int) < t.length := by omega
  obtain ⟨seen, hseen⟩ : ∃ s, s = (Qcb t i).1 := ⟨_, rfl⟩
  obtain ⟨out, hout⟩ : ∃ s, s = (Qcb t i).2 := ⟨_, rfl⟩
  obtain ⟨O, hO⟩ : ∃ O, O = orbN t (t.length - seen.length) seen i := ⟨_, rfl⟩
  have hS := Qgi hT i (by omega)
  have ho := Qj9 t i
  have hst : Qcb t (i + 1) = (seen ++ O, if 1 < O.length then out ++ [O] else out) := by rw [Qcb, ← hseen, ← hout, ← hO]
  rw [← hseen] at hS
  rw [hst, ← hseen, ← hout]
  rw [← hout] at ho
  have h3 : inI ((i : Int) + 1) := by unfold inI; omega
  have hnc := Qqc
  simp only [hlt, Qah, Qa9, Qa8, Qab, Qac, Qa5, Qh1, Qad, Qa6, Qa2, Fam.step, Qae, evO, opv, qv, binV, kp, Qa1, Qa0, Qa3, ↓reduceIte, Nat.reduceEqDiff, Nat.reduceAdd, Qa, Qc, Qg, Qe, Qy, Qp, Qh, decide_true, true_and, reduceCtorEq]
  refine Qgs (fun k σ => ∃ (own : List Int) (n : Int), k = t.length - (seen ++ own).length ∧ Below t.length (seen ++ own) ∧ (0 ≤ n ∧ n < t.length) ∧ own ++ orbN t (t.length - (seen ++ own).length) (seen ++ own) n = O ∧
   σ = ⟨lkp [(0, .sl 1 (t.map eI)), (3, .rf 1 out.length 0 out.length 1), (4, .mp 0 0), (6, .rf 2 own.length 0 own.length 1), (7, .i n), (10, .i t.length), (11, .i i)], [.map false (cmKs (seen ++ own)) (cmVs (seen ++ own)), .cells out.length (out.map eCan).flatten, .cells own.length (own.map eI).flatten]⟩) ?_ ?_
  ·refine ⟨_, [], i, rfl, by simpa using hS, by omega, by simpa using hO.symm, ?_⟩
   simp only [Qi, Qs, kp, Qa0, Qa3, ↓reduceIte, Nat.reduceEqDiff, Qa, Qc, Qe, Qi, reduceCtorEq]
  ·rintro k σ ⟨own, n, rfl, hB, hn, hOO, rfl⟩
   obtain ⟨xs, hxs⟩ : ∃ xs, xs = seen ++ own := ⟨_, rfl⟩
   rw [← hxs] at hB hOO
   rw [← hxs]
   have hget := Qtm xs n
   have hks : ∀ k ∈ cmKs xs, k.length = 1 := fun k hk => by
    obtain ⟨x, _, rfl⟩ := (Qju xs k).1 hk; rfl
   obtain ⟨hat, ha1⟩ := Qeb hT hn
   by_cases hm : n ∈ xs
   ·have hcnt : xs.count n ≠ 0 := by
     have := List.count_pos_iff.2 hm; omega
    have hc0 : ¬ (xs.count n : Int) = 0 := by omega
    have hend : own = O := by
     rw [← hOO]
     have : orbN t (t.length - xs.length) xs n = [] := by
      cases hk : t.length - xs.length with
      | zero => rfl
      | succ k => rw [orbN, if_pos hm]
     rw [this, Qi]
    rw [hend] at hxs
    have hfl : Qaz (out.length + 1) := by unfold Qaz; omega
    by_cases hO1 : 1 < O.length
    ·have hO2 : (1 : Int) < O.length := by omega
     have hsn : ((out ++ [O]).map eCan).flatten = (out.map eCan).flatten ++ [V.sl 1 (O.map eI)] := by simp [eCan]
     simp only [hget, hc0, hend, Qaq _ _ _ (hnc _), Qaq _ _ _ (Qc3 _), hpF, upB, Qds _ _ (Qfl _), Qh6, Ze, Zl, Qgh, vw_I, hO1, hO2, Qh5, hfl, h3, Q0, Zc, Qs, hsn, ← hxs, Q2, Q3, Qa9, Qa8, Qab, Qb0, Qa5, Qco, Qcl, ↓Qby, cutH, putB, lkpV, keyL, Qdx, Qad, Qaj, Qa6, Qa2, Fam.step, Qae, Qce, Qb7, putB, nv, sv, Qc8, evO, opv, qv, binV, lenV, Qar, putAt, Qbd, Qb3, V.cells, Qaw, Qbq, Qaa, Qa4, kp, cutV, cutB, Qa1, Qa0, Qa3, ↓reduceIte, Nat.reduceEqDiff, Nat.reduceLT, Qa, Qc, Q9, Zd, Qg, Qe, Qv, Zi, Zk, Qk, Qx, Qt, Qy, Qp, Qi, Qd, Qf, Q4, Zg, Q1, Q6, Qan, Qe9, Qh, Qr, Qo, Qb, decide_true, decide_false, and_self, false_implies, reduceCtorEq, not_false_eq_true, ne_eq, Qn]
    ·have hO2 : ¬ (1 : Int) < O.length := by omega
     simp only [hget, hc0, hend, Qaq _ _ _ (hnc _), Qaq _ _ _ (Qc3 _), hpF, upB, Qds _ _ (Qfl _), Qh6, Ze, Zl, Qgh, vw_I, hO1, hO2, h3, ← hxs, Q2, Q3, Qah, Qa9, Qa8, Qab, Qb0, Qa5, Qco, ↓Qby, cutH, lkpV, keyL, Qdx, Qad, Qaj, Qa6, Qa2, Fam.step, Qae, evO, opv, qv, binV, lenV, kp, cutV, cutB, Qa1, Qa0, Qa3, ↓reduceIte, Nat.reduceEqDiff, Nat.reduceLT, Qa, Qc, Qg, Qe, Qv, Zi, Qk, Qx, Qy, Qp, Qd, Qf, Qe9, Qh, Qb, decide_false, and_self, false_implies, reduceCtorEq, Qn]
   ·have hcnt : xs.count n = 0 := List.count_eq_zero.2 hm
    have hc0 : (xs.count n : Int) = 0 := by omega
    have hput := Qtn xs n
    rw [hcnt] at hput
    have hput' : Qg4 (cmKs xs) (cmVs xs) [n] (.i 1) = cmVs (xs ++ [n]) := hput
    have hkk : putK (cmKs xs) [n] = cmKs (xs ++ [n]) := (Qfs xs n).symm
    have hB2 := hB.snoc hn hm
    have hBl := hB2.len
    rw [Q0, Z2] at hBl
    have hol : own.length ≤ xs.length := by rw [hxs, Q0]; omega
    have hfl : Qaz (own.length + 1) := by unfold Qaz; omega
    have i1 : inI 1 := by unfold inI; omega
    have hI1 : ((own ++ [n]).map eI).flatten = (own.map eI).flatten ++ [V.i n] := by simp [eI]
    simp only [hget, hc0, hat, hn, Qh6, Ze, hfl, i1, hput', hkk, Zc, Qs, Qah, Qa9, Qa8, Qab, Qac, Qa5, Qcl, putB, lkpV, keyL, Qdx, Qad, Qaj, Qa6, Qa2, Fam.step, Qae, Qce, Qb7, putB, nv, sv, Qc8, evO, opv, qv, binV, ldV, iadV, Qar, putAt, Qbd, Qb3, V.cells, Qaw, Qbq, Qaa, Qa4, kp, Qa1, Qbw, Qa0, Qa3, ↓reduceIte, Nat.reduceEqDiff, Nat.reduceLeDiff, Int.reduceAdd, Qa, Qc, Q9, Zd, Qg, Qe, Qv, Zk, Qk, Qx, Qt, Zb, Qp, Qi, Qd, Qf, Qj, Q4, Zg, Q1, Q6, vw_i, Qh, Qr, Qo, Qb, decide_true, true_and, and_self, false_implies, reduceCtorEq, not_false_eq_true, ne_eq, Q5, Qn, Qq, Qz, eI]
    refine ⟨t.length - (seen ++ (own ++ [n])).length, ?_, own ++ [n], atN t n, rfl, ?_, ha1, ?_, ?_⟩
    ·rw [← Zv, ← hxs, Q0, Z2]; omega
    ·rw [← Zv, ← hxs]; exact hB2
    ·rw [← Zv seen, ← hxs, Q0, Z2]
     obtain ⟨k, hk⟩ : ∃ k, t.length - xs.length = k + 1 := ⟨t.length - xs.length - 1, by omega⟩
     rw [hk, orbN, if_neg hm] at hOO
     rw [show t.length - (xs.length + 1) = k by omega, Zv]
     exact hOO
    ·rw [← Zv seen, ← hxs, hI1]
     simp only [Q0, Qg, Qe, Qh]
 ·have hlt : ¬ ((t.length : Int) < t.length) := by omega
  have e : (Qcb t t.length).2 = Qdv t := rfl
  simp only [hlt, e, Qh5, Ze, Zl, Qgg, vw_C, Qa9, Qa8, Qab, Qb0, Qaf, Qa5, Qad, Qaj, Qa6, Qa2, Fam.step, Qae, evO, opv, qv, binV, Qa1, Qa0, Qa3, ↓reduceIte, Nat.reduceEqDiff, Qa, Qc, Qd, Qf, endQ, rvs, rv1, resV, Qe9, Qh, Qb, decide_false, and_self, reduceCtorEq]
def e55 (a : List Int × Int) : List V := [.sl 1 (a.1.map eI), .i a.2]
def d55 : List V → List Int × Int | [.sl _ x0, .i x1] => (x0.map dI, x1) | _ => ([], 0)
theorem Qvw (a : List Int × Int) : d55 (e55 a) = a := by simp [d55, e55, Function.comp_def, Qd4]
noncomputable def HK1 : Gam := HJ2.ext 55 (fnG e55 d55 (fun a => (fun (l : List Int) (sum : Int) => l.length ≤ 1000 ∧ 0 ≤ sum ∧ sum ≤ 1) a.1 a.2) (fun a => (fun (l : List Int) (sum : Int) => mirN l sum l.length) a.1 a.2) (fun l => .sl 1 (l.map eCan)))
theorem Qwk : GOk Try.prog HK1 := Qs7.ext (f := 55) (fun a w => Try.call55 a w) (Qb4 (e := e55) (d := d55) (ok := (fun a => (fun (l : List Int) (sum : Int) => l.length ≤ 1000 ∧ 0 ≤ sum ∧ sum ≤ 1) a.1 a.2)) (g := (fun a => (fun (l : List Int) (sum : Int) => mirN l sum l.length) a.1 a.2)) (eb := (fun l => .sl 1 (l.map eCan))) fun a h => W55 a.1 a.2 h)
theorem h55 (l : List Int) (sum : Int) : HK1 55 [.sl 1 (l.map eI), .i sum] = (l.length ≤ 1000 ∧ 0 ≤ sum ∧ sum ≤ 1, ((fun l => .sl 1 (l.map eCan))) (mirN l sum l.length)) :=
 (show HK1 55 _ = fnG e55 d55 (fun a => (fun (l : List Int) (sum : Int) => l.length ≤ 1000 ∧ 0 ≤ sum ∧ sum ≤ 1) a.1 a.2) (fun a => (fun (l : List Int) (sum : Int) => mirN l sum l.length) a.1 a.2) (fun l => .sl 1 (l.map eCan)) (e55 (l, sum)) from rfl).trans (Qb6 _ (Qvw _))
def e57 (a : List Int) : List V := [.sl 1 (a.map eI)]
def d57 : List V → List Int | [.sl _ x0] => (x0.map dI) | _ => ([])
theorem Qvy (a : List Int) : d57 (e57 a) = a := by simp [d57, e57, Function.comp_def, Qd4]
noncomputable def HK2 : Gam := HK1.ext 57 (fnG e57 d57 (fun a => (fun (t : List Int) => IsTak t.length t ∧ t.length ≤ 1000) a) (fun a => (fun (t : List Int) => Qdv t) a) (fun l => .sl 1 (l.map eCan)))
theorem Quo : GOk Try.prog HK2 := Qwk.ext (f := 57) (fun a w => Try.call57 a w) (Qb4 (e := e57) (d := d57) (ok := (fun a => (fun (t : List Int) => IsTak t.length t ∧ t.length ≤ 1000) a)) (g := (fun a => (fun (t : List Int) => Qdv t) a)) (eb := (fun l => .sl 1 (l.map eCan))) fun a h => W57 a h)
theorem h57 (t : List Int) : HK2 57 [.sl 1 (t.map eI)] = (IsTak t.length t ∧ t.length ≤ 1000, ((fun l => .sl 1 (l.map eCan))) (Qdv t)) :=
 (show HK2 57 _ = fnG e57 d57 (fun a => (fun (t : List Int) => IsTak t.length t ∧ t.length ≤ 1000) a) (fun a => (fun (t : List Int) => Qdv t) a) (fun l => .sl 1 (l.map eCan)) (e57 (t)) from rfl).trans (Qb6 _ (Qvy _))
theorem Qt3 (t : List Int)  : HK2 54 [.sl 1 (t.map eI)] = (t.length ≤ 1000000, .i (takE t)) := h54 t
theorem Qqs (l : List Int) (sum : Int)  : HK2 55 [.sl 1 (l.map eI), .i sum] = (l.length ≤ 1000 ∧ 0 ≤ sum ∧ sum ≤ 1, ((fun l => .sl 1 (l.map eCan))) (mirN l sum l.length)) := h55 l sum
theorem Qes {n : Nat} {t : List Int} (h : IsTak n t) : ∀ i : Nat, i ≤ n → ∀ c ∈ (Qcb t i).2, c.length ≤ n
 | 0, _ => by simp [Qcb]
 | i + 1, hi => by
  intro c hc
  rw [Qcb] at hc
  simp only at hc
  split at hc
  ·rcases Xj.1 hc with hc | hc
   ·exact Qes h i (by omega) c hc
   ·rw [Zs] at hc
    have := (Qi8 h (t.length - (Qcb t i).1.length) _ i (Qgi h i (by omega)) (by omega)).len
    rw [Q0] at this
    rw [hc]; omega
  ·exact Qes h i (by omega) c hc
def Qd0 (t : List Int) (sum : Int) (i : Nat) : List (List Int) := ((Qdv t).take i).flatMap fun c => mirN c sum c.length
def Qc9 (t : List Int) : List (List Int) × List (List Int) × Int := if takE t = 0 then (Qd0 t 0 (Qdv t).length, Qd0 t 1 (Qdv t).length, 0) else ([], [], 1)
def r3V (r : List (List Int) × List (List Int) × Int) : V := .tp [.sl 1 (r.1.map eCan), .sl 1 (r.2.1.map eCan), .i r.2.2]
theorem Qlp (l : List Int) (sum : Int) (n : Nat) : (mirN l sum n).length ≤ n := by
 unfold mirN
 refine Xb (Xx _ _) ?_
 rw [Xc]; exact Zl _
theorem Qj6 (t : List Int) : takE t = 0 ∨ takE t = 1 := by unfold takE; split <;> simp
set_option maxHeartbeats 2000000 in
theorem W24 (t : List Int) (h : t.length ≤ 1000000) : Qal Try.prog 24 [.sl 1 (t.map eI)] (r3V (Qc9 t)) := by
 refine Qak Quo hmix Try.func24 cb24 cc24 cs24 cn24 ?_
 have g1 := Qt3 t
 by_cases h0 : takE t = 0
 ·have hB : takB t = true := by unfold takE at h0; split at h0 <;> first | assumption | cases h0
  obtain ⟨h7, hT⟩ := (Qn4 t).1 hB
  have g2 := h57 t
  have hok : IsTak t.length t ∧ t.length ≤ 1000 := ⟨hT, by omega⟩
  have hcl : (Qdv t).length ≤ t.length := Qj9 t t.length
  have hmb : ∀ (s : Int) (i : Nat), i ≤ (Qdv t).length → (Qd0 t s i).length ≤ i * 7 := fun s i => by
   induction i with
   | zero => intro _; simp [Qd0]
   | succ i ih =>
    intro hi
    have := ih (by omega)
    obtain ⟨c, hc⟩ : ∃ c, (Qdv t)[i]? = some c := ⟨_, Ql (by omega)⟩
    have h1 := Qlp c s c.length
    have h2 := Qes hT t.length (Zl _) c (Zp hc)
    unfold Qd0 at this ⊢
    rw [Qbr hc, X6, Q0, X4]
    omega
  simp only [rc24, rs24, g1, h, h0, g2, hok, Qah, Qa9, Qa8, Qab, Qac, Qa5, Qh1, Qad, Qa6, Qa2, Fam.step, Qae, evO, opv, qv, binV, lenV, Qap, Qaa, Qa4, flat, Qa1, Qa0, Qa3, ↓reduceIte, Nat.reduceEqDiff, Nat.reduceLT, Qa, Qc, Qg, Qe, Qy, Qp, Qi, Qan, zipA, Qh, Qo, Q8, Qb, decide_true, true_and, and_self, implies_true, reduceCtorEq, imp_self, Qn]
  refine Qch (Qdv t).length (fun i => ⟨lkp [(2, .rf 0 i 0 (Qd0 t 0 i).length 1), (3, .rf 1 i 0 (Qd0 t 1 i).length 1), (6, .fn 55 []), (15, .sl 1 ((Qdv t).map eCan)), (16, .i (Qdv t).length), (17, .i i)], [.cells i ((Qd0 t 0 i).map eCan).flatten, .cells i ((Qd0 t 1 i).map eCan).flatten]⟩) ?_ ?_ ?_
  ·have e0 : ∀ s, Qd0 t s 0 = [] := fun _ => rfl
   simp only [Zj, e0, Qs, kp, Qa0, Qa3, ↓reduceIte, Nat.reduceEqDiff, Qa, Qc, Qe]
  ·intro i hi
   obtain ⟨c, hc⟩ : ∃ c, (Qdv t)[i]? = some c := ⟨_, Ql hi⟩
   have hlt : (i : Int) < (Qdv t).length := by omega
   have hcs := Qes hT t.length (Zl _) c (Zp hc)
   have h3 : inI ((i : Int) + 1) := by unfold inI; omega
   have ec : eCan c = [.sl 1 (c.map eI)] := rfl
   have g3 := Qqs c 0
   have g4 := Qqs c 1
   have hst : ∀ s, Qd0 t s (i + 1) = Qd0 t s i ++ mirN c s c.length := fun s => by unfold Qd0; rw [Qbr hc, X6, X4]
   have hc10 : c.length ≤ 1000 := by omega
   have m0 := hmb 0 i (by omega)
   have m1 := hmb 1 i (by omega)
   have n0 := Qlp c 0 c.length
   have n1 := Qlp c 1 c.length
   have f0 : Qaz ((Qd0 t 0 i).length + (mirN c 0 c.length).length) := by unfold Qaz; omega
   have f1 : Qaz ((Qd0 t 1 i).length + (mirN c 1 c.length).length) := by unfold Qaz; omega
   have z1 : (0 : Int) ≤ 1 := by omega
   simp only [hc, hlt, g3, g4, hc10, hst, Qh5, Ze, f0, f1, z1, h3, Int.le_refl, Q0, Zt, Zw, Q2, Q3, Qah, Qa9, Qa8, Qab, Qac, Qa5, putB, Qad, Qaj, Qa6, Qa2, Fam.step, Qae, Qce, Qb7, putB, nv, sv, Qc8, evO, opv, qv, binV, ldV, iadV, Qap, Qaa, Qa4, flat, kp, Qa1, Qa0, Qa3, ↓reduceIte, Nat.reduceEqDiff, Nat.reduceLT, Nat.reduceLeDiff, Qa, Qc, Qg, Qe, Zb, Qi, Qd, Qf, Qj, Q4, Zg, vw_i, Qan, Q7, Qh, Qo, Qb, decide_true, and_self, Q5, imp_self, Qn, Qm, Qq, Qz, eCan]
  ·have hlt : ¬ (((Qdv t).length : Int) < (Qdv t).length) := by omega
   simp only [hlt, Qh5, Ze, Zl, Qgg, vw_C, r3V, Qc9, h0, Qa9, Qa8, Qab, Qb0, Qaf, Qa5, Qad, Qaj, Qa6, Qa2, Fam.step, Qae, evO, opv, qv, binV, ldV, Qa1, Qa0, Qa3, ↓reduceIte, Nat.reduceEqDiff, Qa, Qc, Qd, Qf, endQ, rvs, rv1, resV, vw_i, Qcu, Qe9, Qh, Qb, decide_false, and_self]
 ·have h1 : takE t = 1 := by rcases Qj6 t with e | e; exact absurd e h0; exact e
  simp only [rc24, rs24, g1, h, h1, Qc9, r3V, Qa9, Qa8, Qab, Qaf, Qa5, Qad, Qa6, Qa2, Fam.step, Qae, evO, opv, qv, binV, ldV, Qap, Qaa, Qa4, flat, Qa1, Qa0, Qa3, ↓reduceIte, Nat.reduceEqDiff, Nat.reduceLT, Int.reduceEq, Qa, Qc, Qi, Qu, endQ, rvs, rv1, resV, vw_i, vw_z, Qan, Qcu, zipA, Qo, Zh, Qb, decide_false, and_self, implies_true, reduceCtorEq]
def e24 (a : List Int) : List V := [.sl 1 (a.map eI)]
def d24 : List V → List Int | [.sl _ x0] => (x0.map dI) | _ => ([])
theorem Qvi (a : List Int) : d24 (e24 a) = a := by simp [d24, e24, Function.comp_def, Qd4]
noncomputable def HK3 : Gam := HK2.ext 24 (fnG e24 d24 (fun a => (fun (t : List Int) => t.length ≤ 1000000) a) (fun a => (fun (t : List Int) => Qc9 t) a) r3V)
theorem Qup : GOk Try.prog HK3 := Quo.ext (f := 24) (fun a w => Try.call24 a w) (Qb4 (e := e24) (d := d24) (ok := (fun a => (fun (t : List Int) => t.length ≤ 1000000) a)) (g := (fun a => (fun (t : List Int) => Qc9 t) a)) (eb := r3V) fun a h => W24 a h)
theorem h24 (t : List Int) : HK3 24 [.sl 1 (t.map eI)] = (t.length ≤ 1000000, r3V (Qc9 t)) :=
 (show HK3 24 _ = fnG e24 d24 (fun a => (fun (t : List Int) => t.length ≤ 1000000) a) (fun a => (fun (t : List Int) => Qc9 t) a) r3V (e24 (t)) from rfl).trans (Qb6 _ (Qvi _))
theorem W59 (l : List Int) (h : l.length ≤ 1000000) : Qdd Try.prog 59 [.sl 1 (l.map eI)] (.rf 0 1 0 l.length 1) [.cells 1 (l.map eI).flatten] := by
 refine Qjx Qup hmix Try.func59 cb59 cc59 cs59 cn59 ?_
 simp only [rc59, rs59, Qah, Qa9, Qa8, Qab, Qin, Qaf, Qa5, Qsf, Qv6, putB, endO, Qad, Qa6, Qa2, Fam.step, Qae, Qce, Qb7, putB, nv, sv, Qc8, evO, opv, qv, Qar, Qbd, Qb3, Qa1, Qa0, Qa3, ↓reduceIte, Nat.reduceEqDiff, Nat.reduceMul, Qa, Qc, Qe, Qp, Qd, Q4, Q1, rvs, rv1, resV, zipA, Qh, true_and, and_self, reduceCtorEq, ne_eq, Qn, Xg]
 refine fun b hb => ⟨fun e => ?_, fun e => ?_⟩
 ·have hl : l = [] := by
   cases l with
   | nil => rfl
   | cons x l => exact absurd (hb (by simp)) (by rw [e]; simp)
  subst hl
  simp only [Qs, Qc, Qe, and_self]
 ·have h1 : Qaz l.length := by unfold Qaz; omega
  simp only [h1, Qs, Qe, Qp, and_self]
def e59 (l : List Int) : List V := [.sl 1 (l.map eI)]
def d59 : List V → List Int | [.sl _ l] => l.map dI | _ => []
theorem Qvz (l : List Int) : d59 (e59 l) = l := by simp [d59, e59, Function.comp_def, Qd4]
noncomputable def HK4 : Gam := HK3.ext 1000059 (fnG e59 d59 (fun l => l.length ≤ 1000000) (fun l => l) fun l => .tp [.rf 0 1 0 l.length 1, .tp [bV (.cells 1 (l.map eI).flatten)]])
theorem Quq : GOk Try.prog HK4 := Qup.extO (f := 59) (r := fnG e59 d59 (fun l => l.length ≤ 1000000) (fun l => l) fun l => .tp [.rf 0 1 0 l.length 1, .tp [bV (.cells 1 (l.map eI).flatten)]]) (fun a w => Try.call59 a w) fun vs v bs h1 h2 => by
  simp only [fnG, V.tp.injEq, List.cons.injEq, and_true] at h1 h2
  obtain ⟨h3, h4⟩ := h2
  rw [← h1.1, ← h3, ← h4]
  simp only [Qa, Qc, Qdb]
  exact W59 _ h1.2
theorem h59 (l : List Int) : HK4 1000059 [.sl 1 (l.map eI)] = (l.length ≤ 1000000, .tp [.rf 0 1 0 l.length 1, .tp [bV (.cells 1 (l.map eI).flatten)]]) :=
 (show HK4 1000059 _ = fnG e59 d59 (fun l => l.length ≤ 1000000) (fun l => l) (fun l => .tp [.rf 0 1 0 l.length 1, .tp [bV (.cells 1 (l.map eI).flatten)]]) (e59 l) from rfl).trans (Qb6 _ (Qvz _))
end Go.C10
set_option linter.unusedSimpArgs false
set_option linter.unusedVariables false
namespace Go.C10
open Go.Fam Go.Proofs
variable {Γ : Gam}
def Qh8 (t : List Int) (a b : Int) : List Int := (t.set a.toNat (atN t b)).set b.toNat (atN t a)
theorem Qn2 (t : List Int) (a b : Int) : (Qh8 t a b).length = t.length := by simp [Qh8]
theorem Qpn {t : List Int} {a b : Int} (ha : 0 ≤ a ∧ a < t.length) (hb : 0 ≤ b ∧ b < t.length) (i : Nat) : atN (Qh8 t a b) i = if (i : Int) = b then atN t a else if (i : Int) = a then atN t b else atN t i := by
 unfold Qh8
 conv => lhs; unfold atN
 rw [Qm]
 by_cases h1 : (i : Int) = b
 ·rw [if_pos h1, show b.toNat = i by omega, Z1 (by simp; omega)]; rfl
 ·rw [if_neg h1, Z4 (by omega)]
  by_cases h2 : (i : Int) = a
  ·rw [if_pos h2, show a.toNat = i by omega, Z1 (by omega)]; rfl
  ·rw [if_neg h2, Z4 (by omega)]
   unfold atN; rw [Qm]
theorem Qpo {n : Nat} {t : List Int} (h : IsTak n t) {i j : Nat} (hi : i < n) (hj : j < n) (e : atN t i = atN t j) : i = j := by
 have hl := h.len
 rw [Qm] at hl
 refine Classical.byContradiction fun hij => ?_
 have hp := Zn.1 (Qw.1 h.nodup)
 have get : ∀ {k : Nat} (hk : k < t.length), atN t (k : Int) = t[k] := fun {k} hk => by
  unfold atN; rw [Qm, Ql hk]; rfl
 rw [get (by omega), get (by omega)] at e
 rcases Xm hij with h1 | h1
 ·exact hp i j (by omega) (by omega) h1 e
 ·exact hp j i (by omega) (by omega) h1 e.symm
theorem Qv8 {n : Nat} {t : List Int} (hl : t.length = n) (hin : ∀ i : Nat, i < n → 0 ≤ atN t i ∧ atN t i < n) (hinj : ∀ i j : Nat, i < n → j < n → atN t i = atN t j → i = j) : IsTak n t := by
 have get : ∀ {k : Nat} (hk : k < t.length), atN t (k : Int) = t[k] := fun {k} hk => by
  unfold atN; rw [Qm, Ql hk]; rfl
 refine ⟨by simpa using hl, fun x hx => ?_, ?_⟩
 ·obtain ⟨i, hi, rfl⟩ := Zu.1 hx
  have := hin i (by omega)
  rw [get hi] at this; omega
 ·rw [Qw, Zn]
  intro i j hi hj hij e
  have := hinj i j (by omega) (by omega) (by rw [get hi, get hj]; exact e)
  omega
theorem Qn3 {n : Nat} {t : List Int} (h : IsTak n t) {a b : Int} (ha : 0 ≤ a ∧ a < n) (hb : 0 ≤ b ∧ b < n) : IsTak n (Qh8 t a b) := by
 have hl := h.len
 rw [Qm] at hl
 have hsw := Qpn (t := t) (a := a) (b := b) (by omega) (by omega)
 refine Qv8 (by rw [Qn2]; exact hl) (fun i hi => ?_) (fun i j hi hj e => ?_)
 ·rw [hsw]
  split
  ·exact (Qeb h ha).2
  ·split
   ·exact (Qeb h hb).2
   ·exact (Qeb h (by omega)).2
 ·rw [hsw, hsw] at e
  have key : ∀ x y : Int, 0 ≤ x ∧ x < n → 0 ≤ y ∧ y < n → atN t x = atN t y → x = y := fun x y hx hy e => by
   have h1 : ((x.toNat : Nat) : Int) = x := by omega
   have h2 : ((y.toNat : Nat) : Int) = y := by omega
   have := Qpo h (i := x.toNat) (j := y.toNat) (by omega) (by omega) (by rw [h1, h2]; exact e)
   omega
  by_cases i1 : (i : Int) = b
  ·rw [if_pos i1] at e
   by_cases j1 : (j : Int) = b
   ·omega
   ·rw [if_neg j1] at e
    by_cases j2 : (j : Int) = a
    ·rw [if_pos j2] at e; have := key _ _ ha hb e; omega
    ·rw [if_neg j2] at e; have := key _ _ ha (by omega) e; omega
  ·rw [if_neg i1] at e
   by_cases i2 : (i : Int) = a
   ·rw [if_pos i2] at e
    by_cases j1 : (j : Int) = b
    ·rw [if_pos j1] at e; have := key _ _ hb ha e; omega
    ·rw [if_neg j1] at e
     by_cases j2 : (j : Int) = a
     ·omega
     ·rw [if_neg j2] at e; have := key _ _ hb (by omega) e; omega
   ·rw [if_neg i2] at e
    by_cases j1 : (j : Int) = b
    ·rw [if_pos j1] at e; have := key _ _ (by omega) ha e; omega
    ·rw [if_neg j1] at e
     by_cases j2 : (j : Int) = a
     ·rw [if_pos j2] at e; have := key _ _ (by omega) hb e; omega
     ·rw [if_neg j2] at e; have := key _ _ (by omega) (by omega) e; omega
def mis (t : List Int) : Nat := (X1 t.length).countP fun (i : Nat) => decide (atN t i ≠ i)
theorem Qkg {p q : Nat → Bool} : ∀ (l : List Nat), (∀ x ∈ l, q x = true → p x = true) → (∃ x ∈ l, p x = true ∧ q x = false) → l.countP q < l.countP p
 | [], _, h => by obtain ⟨x, hx, _⟩ := h; cases hx
 | y :: l, h1, h2 => by
  have hle : l.countP q ≤ l.countP p := List.countP_mono_left fun x hx => h1 x (by simp [hx])
  obtain ⟨x, hx, h3, h4⟩ := h2
  rw [Jd, Jd]
  rcases Z7.1 hx with rfl | hx
  ·rw [h3, h4]; simp; omega
  ·have := Qkg l (fun x hx => h1 x (by simp [hx])) ⟨x, hx, h3, h4⟩
   have := h1 y (by simp)
   cases hq : q y <;> cases hp : p y <;> simp_all <;> omega
theorem Qr2 {n : Nat} {t : List Int} (h : IsTak n t) {g : Int} (hg : 0 ≤ g ∧ g < n) (hne : atN t g ≠ g) : mis (Qh8 t g (atN t g)) < mis t := by
 have hl := h.len
 rw [Qm] at hl
 obtain ⟨o, ho⟩ : ∃ o, o = atN t g := ⟨_, rfl⟩
 have hoi := (Qeb h hg).2
 rw [← ho] at hoi hne ⊢
 have hsw := Qpn (t := t) (a := g) (b := o) (by omega) (by omega)
 unfold mis
 rw [Qn2]
 have key : ∀ x y : Int, 0 ≤ x ∧ x < n → 0 ≤ y ∧ y < n → atN t x = atN t y → x = y := fun x y hx hy e => by
  have h1 : ((x.toNat : Nat) : Int) = x := by omega
  have h2 : ((y.toNat : Nat) : Int) = y := by omega
  have := Qpo h (i := x.toNat) (j := y.toNat) (by omega) (by omega) (by rw [h1, h2]; exact e)
  omega
 have hoo : atN t o ≠ o := fun e => by
  have := key o g hoi hg (e.trans ho)
  omega
 have hoN : ((o.toNat : Nat) : Int) = o := by omega
 have hgN : ((g.toNat : Nat) : Int) = g := by omega
 refine Qkg _ (fun x hx hq => ?_) ⟨o.toNat, Xp.2 (by omega), ?_, ?_⟩
 ·rw [decide_eq_true_eq] at hq ⊢
  rw [hsw] at hq
  by_cases h1 : (x : Int) = o
  ·rw [h1]; exact hoo
  ·rw [if_neg h1] at hq
   by_cases h2 : (x : Int) = g
   ·rw [h2, ← ho]; exact hne
   ·rw [if_neg h2] at hq; exact hq
 ·rw [decide_eq_true_eq, hoN]; exact hoo
 ·rw [decide_eq_false_iff_not, Classical.not_not, hsw, if_pos hoN, ← ho, hoN]
theorem Qr1 (t : List Int) : mis t ≤ t.length := by
 unfold mis
 exact Xb List.countP_le_length (by rw [Xc]; exact Zl _)
def fixG : Nat → Int → List Int → List Int × List (List Int)
 | 0, _, t => (t, [])
 | k + 1, g, t => if atN t g = g then (t, []) else ((fixG k g (Qh8 t g (atN t g))).1, Qg3 g (atN t g) :: (fixG k g (Qh8 t g (atN t g))).2)
theorem Qma {n : Nat} : ∀ (k : Nat) (g : Int) (t : List Int), IsTak n t → 0 ≤ g ∧ g < n → IsTak n (fixG k g t).1 ∧ (fixG k g t).2.length + mis (fixG k g t).1 ≤ mis t
 | 0, g, t, h, _ => ⟨h, by simp [fixG]⟩
 | k + 1, g, t, h, hg => by
  rw [fixG]
  by_cases e : atN t g = g
  ·rw [if_pos e]; exact ⟨h, by simp⟩
  ·rw [if_neg e]
   obtain ⟨h1, h2⟩ := Qma k g (Qh8 t g (atN t g)) (Qn3 h hg (Qeb h hg).2) hg
   have := Qr2 h hg e
   exact ⟨h1, by simp only [Qg]; omega⟩
def exS (t : List Int) : Nat → List Int × List (List Int)
 | 0 => (t, [])
 | i + 1 => ((fixG t.length i (exS t i).1).1, (exS t i).2 ++ (fixG t.length i (exS t i).1).2)
theorem Qoe {t : List Int} (h : IsTak t.length t) : ∀ i : Nat, i ≤ t.length → IsTak t.length (exS t i).1 ∧ (exS t i).2.length + mis (exS t i).1 ≤ mis t
 | 0, _ => ⟨h, by simp [exS]⟩
 | i + 1, hi => by
  obtain ⟨h1, h2⟩ := Qoe h i (by omega)
  obtain ⟨h3, h4⟩ := Qma t.length i _ h1 (by omega)
  rw [exS]
  exact ⟨h3, by simp only [Q0]; omega⟩
def Qee (t : List Int) : List (List Int) × Int := if takE t = 0 then ((exS t t.length).2, 0) else ([], 1)
theorem Qt4 (t : List Int)  : HK4 54 [.sl 1 (t.map eI)] = (t.length ≤ 1000000, .i (takE t)) := h54 t
theorem Qt5 (a : Int) (b : Int)  : HK4 56 [.i a, .i b] = (True, ((fun l => .sl 1 (l.map eI))) (Qg3 a b)) := h56 a b
theorem Qn1 (l : List Int) (i : Nat) (x : Int) (h : i < l.length) : putAt i [V.i x] (l.map eI).flatten = ((l.set i x).map eI).flatten := by
 have e : ∀ l : List Int, (l.map eI).flatten = l.map V.i := fun l => by induction l with | nil => rfl | cons a l ih => simp [eI, ih]
 rw [Qp2 _ _ _ (by rw [e, Qn]; exact h), e, e, List.map_set]
theorem Qmc (l : List Int) (i : Nat) : (l.map eI).flatten[i]? = (l[i]?).map V.i := by
 have e : ∀ l : List Int, (l.map eI).flatten = l.map V.i := fun l => by induction l with | nil => rfl | cons a l ih => simp [eI, ih]
 rw [e, Qz]
theorem Qhq {l : List Int} {i : Nat} {x : Int} (h : l[i]? = some x) : (List.drop i (l.map eI).flatten).headD .u = .i x := by
 have hf := Qmc l i
 rw [h, Q5] at hf
 have hi := Qam hf
 rw [List.drop_eq_getElem_cons hi]
 rw [Ql hi] at hf
 exact Je.inj hf
set_option maxHeartbeats 2000000 in
theorem W27 (t : List Int) (h : t.length ≤ 1000000) : Qal Try.prog 27 [.sl 1 (t.map eI)] (.tp [.sl 1 ((Qee t).1.map eCan), .i (Qee t).2]) := by
 refine Qak Quq hmix Try.func27 cb27 cc27 cs27 cn27 ?_
 have g1 := Qt4 t
 by_cases h0 : takE t = 0
 ·have hB : takB t = true := by unfold takE at h0; split at h0 <;> first | assumption | cases h0
  obtain ⟨h7, hT⟩ := (Qn4 t).1 hB
  have g2 := h59 t
  simp only [rc27, rs27, g1, h, h0, g2, Qct _ _ (Qfl _), Qah, Qa9, Qa8, Qab, Qac, Qa5, Qh1, Qif, ocV, nidQ, plO, plQ, plB, Qd6, Qd9, shV, shB, Qdb, Qad, Qa6, Qa2, Fam.step, Qae, Qb7, evO, opv, qv, binV, lenV, Qap, Qaa, Qa4, flat, Qa1, Qa0, Qa3, ↓reduceIte, Nat.reduceEqDiff, Nat.reduceAdd, Nat.reduceLT, Qa, Qc, Q9, Zd, Qg, Qe, Qy, Qp, Qi, Qd, Qan, zipA, Qh, X0, Za, Zq, Zx, Qo, Q8, Qb, decide_true, true_and, and_self, implies_true, reduceCtorEq]
  refine Qch t.length (fun i => ⟨lkp [(5, .rf 0 1 0 t.length 1), (6, .rf 1 (exS t i).2.length 0 (exS t i).2.length 1), (17, .i t.length), (18, .i i)], [.cells 1 ((exS t i).1.map eI).flatten, .cells (exS t i).2.length ((exS t i).2.map eCan).flatten]⟩) ?_ ?_ ?_
  ·have e0 : exS t 0 = (t, []) := rfl
   simp only [Zj, e0, Qs, kp, Qa0, Qa3, ↓reduceIte, Nat.reduceEqDiff, Qa, Qc, Qe]
  ·intro i hi
   have hlt : (i : Int) < t.length := by omega
   obtain ⟨hE, hE2⟩ := Qoe hT i (by omega)
   have hml := Qr1 t
   obtain ⟨T0, hT0⟩ : ∃ s, s = (exS t i).1 := ⟨_, rfl⟩
   obtain ⟨out, hout⟩ : ∃ s, s = (exS t i).2 := ⟨_, rfl⟩
   obtain ⟨F, hF⟩ : ∃ F, F = fixG t.length i T0 := ⟨_, rfl⟩
   have hst : exS t (i + 1) = (F.1, out ++ F.2) := by rw [exS, ← hT0, ← hout, ← hF]
   rw [← hT0] at hE hE2
   rw [← hout] at hE2
   rw [hst, ← hT0, ← hout]
   have h3 : inI ((i : Int) + 1) := by unfold inI; omega
   have hi1 : i + 1 ≤ t.length := hi
   simp only [hlt, Qah, Qa9, Qa8, Qab, Qac, Qa5, Qad, Qa6, Qa2, Fam.step, Qae, evO, opv, qv, binV, kp, Qa1, Qa0, Qa3, ↓reduceIte, Nat.reduceEqDiff, Qa, Qc, decide_true, true_and]
   refine Qgs (fun k σ => ∃ (T : List Int) (o2 : List (List Int)) (f : Nat), k = mis T ∧ IsTak t.length T ∧ mis T ≤ f ∧ o2.length + mis T ≤ t.length ∧ (fixG f i T).1 = F.1 ∧ o2 ++ (fixG f i T).2 = out ++ F.2 ∧
    σ = ⟨lkp [(5, .rf 0 1 0 t.length 1), (6, .rf 1 o2.length 0 o2.length 1), (7, .i i), (17, .i t.length), (18, .i i)], [.cells 1 (T.map eI).flatten, .cells o2.length (o2.map eCan).flatten]⟩) ?_ ?_
   ·refine ⟨_, T0, out, t.length, rfl, hE, ?_, by omega, by rw [hF], by rw [hF], ?_⟩
    ·have := Qr1 T0
     have hl := hE.len
     rw [Qm] at hl
     omega
    ·simp only [kp, Qa0, Qa3, ↓reduceIte, Nat.reduceEqDiff, Qa, Qc]
   ·rintro k σ ⟨T, o2, f, rfl, hTT, hf, ho2, hF1, hF2, rfl⟩
    have hTl := hTT.len
    rw [Qm] at hTl
    obtain ⟨hat, ha1⟩ := Qeb hTT (x := i) (by omega)
    rw [Qm] at hat
    have hfg := Qmc T i
    rw [hat, Q5] at hfg
    have hTi := Qh6 T
    obtain ⟨o, ho⟩ : ∃ o, o = atN T i := ⟨_, rfl⟩
    rw [← ho] at hat ha1 hfg
    by_cases e : o = i
    ·have hfx : fixG f i T = (T, []) := by
      cases f with
      | zero => rfl
      | succ f => rw [fixG, ← ho, if_pos e]
     rw [hfx] at hF1 hF2
     simp only [Qi] at hF1 hF2
     have hdr := Qhq hat
     rw [e] at hdr
     simp only [hdr, hTi, hTl, Ze, hi1, hlt, h3, ← hF1, ← hF2, Q2, Q3, Qa9, Qa8, Qab, Qb0, Qa5, Qad, Qaj, Qa6, Qa2, Fam.step, Qae, evO, opv, qv, binV, ldV, iadV, kp, Qa1, Qa0, Qa3, ↓reduceIte, Nat.reduceEqDiff, Qa, Qc, Qd, Q7, Qh, Q8, Qb, decide_true, and_self, Qm]
    ·have hdr := Qhq hat
     have hoi : 0 ≤ o ∧ o < t.length := by omega
     obtain ⟨hat2, ha2⟩ := Qeb hTT (x := o) (by omega)
     have hdr2 := Qhq hat2
     have ho1 : o.toNat + 1 ≤ t.length := by omega
     have hs1 := Qn1 T i (atN T o) (by omega)
     have hs2 := Qn1 (T.set i (atN T o)) o.toNat o (by simp; omega)
     unfold putAt at hs1 hs2
     simp only [Qg, Qe, Qh] at hs1 hs2
     have hsw : (T.set i (atN T o)).set o.toNat o = Qh8 T i o := by unfold Qh8; rw [Qm, ← ho]
     rw [hsw] at hs2
     have hTs := Qh6 (T.set i (atN T o))
     rw [List.length_set, hTl] at hTs
     have g3 := Qt5 i o
     have hne : atN T i ≠ i := by rw [← ho]; exact e
     have hmlt := Qr2 hTT (g := i) (by omega) hne
     rw [← ho] at hmlt
     have hsT := Qn3 hTT (a := i) (b := o) (by omega) (by omega)
     have hfl : Qaz (o2.length + 1) := by unfold Qaz; omega
     have ecp : ∀ l : List Int, eCan l = [.sl 1 (l.map eI)] := fun _ => rfl
     have hsn : ((o2 ++ [Qg3 i o]).map eCan).flatten = (o2.map eCan).flatten ++ [V.sl 1 ((Qg3 i o).map eI)] := by simp [eCan]
     simp only [hdr, hdr2, hTi, hTl, Ze, hi1, ho1, hoi, hlt, e, hs1, hs2, hTs, g3, Qh5, hfl, Zc, Qs, Qah, Qa9, Qbv, Qa8, Qab, Qac, Qa5, Qcl, Qbb, optL, putB, Qad, Qaj, Qa6, Qa2, Fam.step, Qae, Qce, Qb7, runX, eff, Qb9, fpR, fpQ, fpV, Qc4, hits, putB, nv, sv, Qc8, evO, opv, qv, binV, ldV, iadV, Qap, Qar, putAt, Qbd, Qb3, V.cells, Qaw, Qbq, Qaa, Qa4, flat, kp, Qa1, Qbw, Qa0, Qa3, ↓reduceIte, Nat.reduceEqDiff, Nat.reduceLT, Nat.reduceLeDiff, Qa, Qc, Q9, Zd, Qg, Qe, Qv, Zk, Qk, Qx, Qt, Qy, Qp, Qi, Qd, Qf, Qu, Qj, Zz, Q4, Zg, Q1, Q6, Xh, Xd, vw_i, Qan, Q7, Qh, Qr, Za, Zq, Zx, Qo, Xv, Q8, Zh, Qb, decide_false, true_and, and_self, reduceCtorEq, not_false_eq_true, ne_eq, Xw, X3, Z9, Xe, imp_self, Qm, Qq]
     obtain ⟨f, rfl⟩ : ∃ f', f = f' + 1 := ⟨f - 1, by omega⟩
     rw [fixG, if_neg hne, ← ho] at hF1 hF2
     refine ⟨_, hmlt, Qh8 T i o, o2 ++ [Qg3 i o], f, rfl, hsT, by omega, by rw [Q0, Z2]; omega, hF1, by rw [Zv]; exact hF2, ?_⟩
     rw [hsn]
     simp only [Q0, Qg, Qe, Qh]
  ·have hlt : ¬ ((t.length : Int) < t.length) := by omega
   simp only [hlt, Qh5, Ze, Zl, Qgg, vw_C, Qee, h0, Qa9, Qa8, Qab, Qb0, Qaf, Qa5, Qad, Qaj, Qa6, Qa2, Fam.step, Qae, evO, opv, qv, binV, ldV, Qa1, Qa0, Qa3, ↓reduceIte, Nat.reduceEqDiff, Qa, Qc, Qd, Qf, endQ, rvs, rv1, resV, vw_i, Qcu, Qe9, Qh, Qb, decide_false, and_self]
 ·have h1 : takE t = 1 := by rcases Qj6 t with e | e; exact absurd e h0; exact e
  simp only [rc27, rs27, g1, h, h1, Qee, Qa9, Qa8, Qab, Qaf, Qa5, Qad, Qa6, Qa2, Fam.step, Qae, evO, opv, qv, binV, ldV, Qap, Qaa, Qa4, flat, Qa1, Qa0, Qa3, ↓reduceIte, Nat.reduceEqDiff, Nat.reduceLT, Int.reduceEq, Qa, Qc, Qi, Qu, endQ, rvs, rv1, resV, vw_i, vw_z, Qan, Qcu, zipA, Qo, Zh, Qb, decide_false, and_self, implies_true, reduceCtorEq]
def e27 (a : List Int) : List V := [.sl 1 (a.map eI)]
def d27 : List V → List Int | [.sl _ x0] => (x0.map dI) | _ => ([])
theorem Qvj (a : List Int) : d27 (e27 a) = a := by simp [d27, e27, Function.comp_def, Qd4]
noncomputable def HL1 : Gam := HK4.ext 27 (fnG e27 d27 (fun a => (fun (t : List Int) => t.length ≤ 1000000) a) (fun a => (fun (t : List Int) => Qee t) a) (fun r => .tp [.sl 1 (r.1.map eCan), .i r.2]))
theorem Qur : GOk Try.prog HL1 := Quq.ext (f := 27) (fun a w => Try.call27 a w) (Qb4 (e := e27) (d := d27) (ok := (fun a => (fun (t : List Int) => t.length ≤ 1000000) a)) (g := (fun a => (fun (t : List Int) => Qee t) a)) (eb := (fun r => .tp [.sl 1 (r.1.map eCan), .i r.2])) fun a h => W27 a h)
theorem h27 (t : List Int) : HL1 27 [.sl 1 (t.map eI)] = (t.length ≤ 1000000, ((fun r => .tp [.sl 1 (r.1.map eCan), .i r.2])) (Qee t)) :=
 (show HL1 27 _ = fnG e27 d27 (fun a => (fun (t : List Int) => t.length ≤ 1000000) a) (fun a => (fun (t : List Int) => Qee t) a) (fun r => .tp [.sl 1 (r.1.map eCan), .i r.2]) (e27 (t)) from rfl).trans (Qb6 _ (Qvj _))
theorem W19 (t : List Int) (h : t.length ≤ 1000000) : Qal Try.prog 19 [.sl 1 (t.map eI)] (.tp [.i (Qee t).1.length, .i (Qee t).2]) := by
 refine Qak Qur hmix Try.func19 cb19 cc19 cs19 cn19 ?_
 have g1 := h27 t
 simp only [rc19, rs19, g1, h, Qa9, Qa8, Qaf, Qa5, Qad, Qa6, Qa2, Fam.step, Qae, evO, opv, qv, ldV, lenV, Qap, Qaa, Qa4, flat, Qd5, Qa1, Qa0, Qa3, ↓reduceIte, Nat.reduceEqDiff, Nat.reduceAdd, Nat.reduceLT, Qa, Qc, Qg, Qe, Qi, Qd, Qf, Qu, Qj, endQ, rvs, rv1, resV, vw_i, Qan, Qcu, zipA, Qh, Qr, Za, Qo, Qb, and_self, reduceCtorEq, imp_self, Qn]
def e19 (a : List Int) : List V := [.sl 1 (a.map eI)]
def d19 : List V → List Int | [.sl _ x0] => (x0.map dI) | _ => ([])
theorem Qvh (a : List Int) : d19 (e19 a) = a := by simp [d19, e19, Function.comp_def, Qd4]
noncomputable def HL2 : Gam := HL1.ext 19 (fnG e19 d19 (fun a => (fun (t : List Int) => t.length ≤ 1000000) a) (fun a => (fun (t : List Int) => Qee t) a) (fun r => .tp [.i r.1.length, .i r.2]))
theorem Qqe : GOk Try.prog HL2 := Qur.ext (f := 19) (fun a w => Try.call19 a w) (Qb4 (e := e19) (d := d19) (ok := (fun a => (fun (t : List Int) => t.length ≤ 1000000) a)) (g := (fun a => (fun (t : List Int) => Qee t) a)) (eb := (fun r => .tp [.i r.1.length, .i r.2])) fun a h => W19 a h)
theorem h19 (t : List Int) : HL2 19 [.sl 1 (t.map eI)] = (t.length ≤ 1000000, ((fun r => .tp [.i r.1.length, .i r.2])) (Qee t)) :=
 (show HL2 19 _ = fnG e19 d19 (fun a => (fun (t : List Int) => t.length ≤ 1000000) a) (fun a => (fun (t : List Int) => Qee t) a) (fun r => .tp [.i r.1.length, .i r.2]) (e19 (t)) from rfl).trans (Qb6 _ (Qvh _))
end Go.C10
