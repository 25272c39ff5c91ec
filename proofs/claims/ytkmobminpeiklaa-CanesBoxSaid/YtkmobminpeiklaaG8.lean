import Derived.Test.YtkmobminpeiklaaG7
import Derived.Test.YtkmobminpeiklaaG4
import Derived.Test.YtkmobminpeiklaaChecked
set_option linter.all false
open List renaming getD_eq_getElem?_getD → Qa, length_cons → Qc, map_cons → Qd, length_nil → Qe, append_nil → Qf, map_nil → Qg, length_map → Qh, take_succ_cons → Qj, drop_succ_cons → Qk, all_cons → Qo, getElem?_nil → Qp, all_nil → Qq, replicate_zero → Qr, nil_append → Qt, contains_nil → Qw, headD_cons → Qx, drop_zero → Qy, cons_append → Q0, isEmpty_nil → Q2, getElem?_map → Q3, take_nil → Q4, getElem?_cons_zero → Q5, getElem?_cons_succ → Q7, any_nil → Q8, getElem?_eq_getElem → Q9, contains_cons → Zc, set_cons_zero → Zd, set_cons_succ → Ze, take_zero → Zf, isEmpty_cons → Zg, mem_of_getElem? → Zh, replicate_succ → Zi, drop_nil → Zk, any_cons → Zn, flatten_nil → Zo, getElem?_eq_none → Zt, sum_cons → Zv, map_append → Zx, sum_append → Zy, take_left → Zz, drop_drop → Z0
open Nat renaming zero_add → Qm, le_refl → Zj, add_zero → Zq
open Bool renaming false_eq_true → Qb, or_false → Qi, and_self → Ql, not_true → Qn, true_eq_false → Qs, not_false → Qu, and_true → Qz, false_and → Q6, true_and → Zl, false_or → Zm, and_false → Zu
open Option renaming getD_some → Qv, getD_none → Q1, map_some → Za
open Int renaming toNat_natCast → Zb, natCast_zero → Zp, natCast_add → Zr, natCast_one → Zs, natCast_nonneg → Zw
set_option linter.unusedSimpArgs false
set_option linter.unusedVariables false
namespace Go.C06
open Go.Fam Go.Proofs
variable {Γ : Gam}
theorem Qup {s : Box} (h : boxE s = 0) : OkQ s [] ∧ Qdg s [] = s.boils.length := ⟨⟨h, by simp, by simp, by simp⟩, by unfold Qdg; simp⟩
noncomputable def KB4 : Gam := KB3.ext 80 (fnG eXL dXL (fun a => OkQ a.1 a.2) (fun a => Qcc a.1 (Qdg a.1 a.2) a.2) .i)
theorem Qsa : GOk Try.prog KB4 := Quo.ext (f := 80) (fun a w => Try.call80 a w) (Qb0 (e := eXL) (d := dXL) (ok := fun a => OkQ a.1 a.2) (g := fun a => Qcc a.1 (Qdg a.1 a.2) a.2) (eb := .i) fun a h => W80 _ a.1 a.2 h rfl)
theorem h80 (s : Box) (F : List Int) : KB4 80 [.ag (eBox s), .sl 1 (F.map eI)] = (OkQ s F, .i (Qcc s (Qdg s F) F)) :=
 (show KB4 80 _ = fnG eXL dXL (fun a => OkQ a.1 a.2) (fun a => Qcc a.1 (Qdg a.1 a.2) a.2) .i (eXL (s, F)) from rfl).trans (Qb6 _ (Qo9 _))
theorem Qwc (s : Box)  : KB4 48 [.ag (eBox s)] = (True, .i (boxE s)) := h48 s
theorem W54 (s : Box) : Qah Try.prog 54 [.ag (eBox s)] (.tp [.i (Qbs s).1, .i (Qbs s).2]) := by
 refine Qag Qsa hmix Try.func54 cb54 cc54 cs54 cn54 ?_
 have g1 := Qwc s
 have g2 := h80 s []
 simp only [eBox, Qg] at g1 g2
 by_cases h : boxE s = 0
 ·have hq := Qup h
  have e := Qoq h
  rw [hq.2, e] at g2
  simp only [rc54, rs54, g1, h, g2, hq.1, Qbs, Qaj, Qa7, Qa8, Qai, Qac, Qa6, Qad, Qa4, Qa1, Fam.step, Qaf, evO, opv, qv, binV, ldV, Qar, V.cells, Qaq, Qaa, Qa5, flat, Qa2, Qa0, Qa3, ↓reduceIte, Nat.reduceEqDiff, Nat.reduceAdd, Nat.reduceLT, Nat.reduceLeDiff, Qd, Qg, Qc, Qe, Qj, Q4, Qf, Qp, endQ, rvs, rv1, resV, vw_i, vw_z, Qax, Qaw, Qci, zipA, Qm, Qi, Qn, Qb, decide_true, and_self, implies_true, eBox]
 ·simp only [rc54, rs54, g1, h, Qbs, Qa7, Qa8, Qai, Qac, Qa6, Qad, Qa4, Qa1, Fam.step, Qaf, evO, opv, qv, binV, ldV, Qar, V.cells, Qaq, Qaa, Qa5, flat, Qa2, Qa0, Qa3, ↓reduceIte, Nat.reduceEqDiff, Nat.reduceAdd, Nat.reduceLT, Nat.reduceLeDiff, Qd, Qg, Qc, Qe, Qj, Q4, Qf, Qp, endQ, rvs, rv1, resV, vw_i, Qax, Qaw, Qci, zipA, Qm, Qi, Qu, Qb, decide_false, and_self, implies_true, eBox]
theorem Qnh (l : List Boil) : ((l.map eBoil).flatten).length = l.length * 2 := Qi0 (e := eBoil) (k := 2) (fun _ => rfl) l
theorem Qn5 (l : List Boil) : Qcm 2 ((l.map eBoil).flatten) 0 l.length = l.map eBoil := Qff (e := eBoil) (k := 2) (fun _ => rfl) l
theorem W52 (s : Box) (h : s.boils.length ≤ 1000000) : Qah Try.prog 52 [.ag (eBox s)] (.ag (eBox s)) := by
 refine Qag Qsa hmix Try.func52 cb52 cc52 cs52 cn52 ?_
 have hfl : Qbj s.boils.length := by unfold Qbj; omega
 have k3 : ∀ (hp : List Blk), (s.boils.map eBoil).map (fun r => r.map (vw hp 6)) = s.boils.map eBoil := fun hp => Qeh (e := eBoil) hp 6 (fun _ => rfl) s.boils
 simp only [rc52, rs52, Zo, Qt, hfl, Qnh, Qn5, k3, Zj, Qa7, Qb5, Qa8, Qac, Qa6, Qb2, optL, Qad, Qa4, Qa1, Fam.step, Qaf, Qbu, Qav, runX, eff, Qb1, fpR, fpQ, fpV, Qbi, hits, nv, sv, Qcl, evO, opv, qv, ldV, Qap, putAt, Qba, Qbg, V.cells, Qaq, Qb8, Qaa, Qa5, Qa2, Qbb, Qa0, Qa3, ↓reduceIte, Nat.reduceEqDiff, Nat.reduceAdd, Nat.reduceMul, Nat.reduceLeDiff, Qd, Qg, Qo, Qq, Qc, Qe, Qk, Qy, Zk, Qj, Zf, Q4, Qx, Q0, Qt, Qf, Q5, Q7, Qp, Qv, Q1, Zd, Ze, Qr, Zi, Q2, Zg, endQ, rvs, rv1, resV, vw_i, Qax, Qaw, Qfv, zipA, Qm, Zq, Ql, Qz, Zl, Q6, Zu, Qi, Zm, Qn, Qu, Qb, and_self, Zn, Q8, Zc, Qw, Qh, Qa, eBox]
noncomputable def KB5 : Gam := (KB4.ext 54 (fnG eX1 dX1 (fun _ => True) Qbs fun r => .tp [.i r.1, .i r.2])).ext 52 (fnG eX1 dX1 (fun s => s.boils.length ≤ 1000000) (fun s => s) fun s => .ag (eBox s))
theorem Qxk : GOk Try.prog KB5 := (Qsa.ext (f := 54) (fun a w => Try.call54 a w) (Qb0 (e := eX1) (d := dX1) (ok := fun _ => True) (g := Qbs) (eb := fun r => .tp [.i r.1, .i r.2]) fun s _ => W54 s)).ext (f := 52) (fun a w => Try.call52 a w) (Qb0 (e := eX1) (d := dX1) (ok := fun s => s.boils.length ≤ 1000000) (g := fun s => s) (eb := fun s => .ag (eBox s)) fun s h => W52 s h)
theorem h54 (s : Box) : KB5 54 [.ag (eBox s)] = (True, .tp [.i (Qbs s).1, .i (Qbs s).2]) :=
 (show KB5 54 _ = fnG eX1 dX1 (fun _ => True) Qbs (fun r => .tp [.i r.1, .i r.2]) (eX1 s) from rfl).trans (Qb6 _ (Qk4 _))
theorem h52 (s : Box) : KB5 52 [.ag (eBox s)] = (s.boils.length ≤ 1000000, .ag (eBox s)) :=
 (show KB5 52 _ = fnG eX1 dX1 (fun s => s.boils.length ≤ 1000000) (fun s => s) (fun s => .ag (eBox s)) (eX1 s) from rfl).trans (Qb6 _ (Qk4 _))
theorem Qwd (s : Box)  : KB5 47 [.ag (eBox s)] = (True, .b (farX s)) := h47 s
theorem Qwe (s : Box) (l : List Int)  : KB5 50 [.ag (eBox s), .sl 1 (l.map eI)] = (okLn l, .tp [.i (Qex s l).1, .i (Qex s l).2]) := h50 s l
theorem Qt2 (s : Box) (l : List Int)  : KB5 53 [.ag (eBox s), .sl 1 (l.map eI)] = (l.length ≤ 1000000, .tp [.i (Qdf s l).1, .i (Qdf s l).2]) := h53 s l
theorem Qwf (s : Box)  : KB5 51 [.ag (eBox s)] = (True, .tp [.i (Qbs s).1, .i (Qbs s).2]) := h51 s
theorem Qwg (s : Box)  : KB5 55 [.ag (eBox s)] = (True, .tp [.sl 1 ((Qcw s).1.map eI), .i (Qcw s).2]) := h55 s
theorem h18B : KB5 18 [] = (True, .b true) := (show KB5 18 [] = H31 18 [] from rfl).trans h18
theorem eq78 : Qas Try.prog 78 2 := Qas.of (fs := _) (show Try.prog.underlying 78 = some (.struct (Try.prog.fieldsOf 78)) by kernel_rfl) (by kernel_rfl) (by kernel_rfl)
set_option maxHeartbeats 4000000 in
set_option maxRecDepth 100000 in
theorem P14 (s : Box) (l : List Int) : Qah Try.prog 14 [.ag (eBox s), .sl 1 (l.map eI)] (.b true) := by
 refine Qag Qxk hmix Try.func14 cb14 cc14 cs14 cn14 ?_
 have g1 := Qwd s
 simp only [eBox] at g1
 by_cases hf : farX s = true
 ·simp only [rc14, rs14, g1, hf, h18B, Qa7, Qa8, Qai, Qac, Qa6, Qad, Qa4, Qa1, Fam.step, Qaf, Qb9, Qaz, ug, evO, opv, qv, Qak, binV, ldV, lenV, Qar, V.cells, Qaq, Qaa, Qa5, flat, Qa2, Qa0, Qa3, ↓reduceIte, Nat.reduceEqDiff, Nat.reduceAdd, Nat.reduceLT, Nat.reduceLeDiff, Qd, Qg, Qo, Qq, Qc, Qe, Qj, Q4, Qf, endQ, rvs, rv1, resV, vw_i, vw_b, Qax, Qaw, zipA, Qm, Ql, Qz, Qi, Qn, Qb, Qs, and_true, and_self, forall_const, implies_true, reduceCtorEq, beq_false, imp_self, Qh, eBox]
 by_cases hl : (60 : Int) < l.length
 ·simp only [rc14, rs14, g1, hf, hl, h18B, Qa7, Qa8, Qai, Qac, Qa6, Qad, Qa4, Qa1, Fam.step, Qaf, Qb9, Qaz, ug, evO, opv, qv, Qak, binV, ldV, lenV, Qar, V.cells, Qaq, Qaa, Qa5, flat, Qa2, Qa0, Qa3, ↓reduceIte, Nat.reduceEqDiff, Nat.reduceAdd, Nat.reduceLT, Nat.reduceLeDiff, Qd, Qg, Qo, Qq, Qc, Qe, Qj, Q4, Qf, endQ, rvs, rv1, resV, vw_i, vw_b, Qax, Qaw, zipA, beq_self_eq_true, Qm, Ql, Qi, Qb, decide_true, and_self, forall_const, implies_true, reduceCtorEq, Qh, eBox]
 have hf' : ¬ (60 : Int) < s.boils.length := by
  unfold farX at hf
  simp only [Bool.or_eq_true, decide_eq_true_eq] at hf
  exact fun h => hf (.inl h)
 have hb6 : s.boils.length ≤ 1000000 := by omega
 have hl6 : l.length ≤ 1000000 := by omega
 have hln : okLn l := hl6
 have hfl : Qbj l.length := by unfold Qbj; omega
 have g2 := h52 s
 have g3 := Qwe s l
 have g4 := Qt2 s l
 have g5 := Qwf s
 have g6 := h54 s
 have g7 := Qwg s
 rw [Qig] at g3
 obtain ⟨a, b, hab⟩ : ∃ a b, Qdf s l = (a, b) := ⟨_, _, rfl⟩
 obtain ⟨c, d, hcd⟩ : ∃ c d, Qbs s = (c, d) := ⟨_, _, rfl⟩
 rw [hab] at g3 g4
 rw [hcd] at g5 g6
 simp only [eBox] at g2 g3 g4 g5 g6 g7
 have hod : (Qcw s).2 = d := by
  have : (Qbs s).2 = d := by rw [hcd]
  rw [← this]; unfold Qcw Qbs; split <;> rfl
 rw [hod] at g7
 obtain ⟨o, ho⟩ : ∃ o, o = (Qcw s).1 := ⟨_, rfl⟩
 rw [← ho] at g7
 have g8 := Qt2 s o
 simp only [eBox] at g8
 simp only [rc14, rs14, g1, hf, hl, g2, hb6, hfl, Qkf, Qid, vw_I, g3, hln, g4, hl6, g5, g6, g7, Zo, Nat.mul_one, Zj, Qaj, Qa7, Qb5, Qa8, Qai, Qab, Qa6, Qb2, optL, putB, Qad, Qa4, Qa1, Fam.step, Qaf, Qbu, Qb9, Qav, Qaz, ug, runX, eff, Qb1, fpR, fpQ, fpV, Qbi, hits, putB, nv, sv, Qcl, evO, opv, qv, Qak, binV, ldV, lenV, curG, Qar, Qap, putAt, Qba, Qbg, V.cells, Qaq, Qb8, Qaa, Qa5, flat, Qd3, Qa2, Qbb, Qa0, Qa3, ↓reduceIte, Nat.reduceEqDiff, Nat.reduceAdd, Nat.reduceLT, Nat.reduceLeDiff, Nat.reduceBEq, Qd, Qg, Qo, Qq, Qc, Qe, Qk, Qy, Zk, Qj, Zf, Q4, Qx, Q0, Qt, Qf, Q5, Q7, Qp, Qv, Q1, Zd, Ze, Qr, Zi, Q2, Zg, vw_i, Qax, Qaw, Qfv, zipA, beq_self_eq_true, Qm, Zq, Ql, Qz, Zl, Q6, Zu, Qi, Zm, Bool.or_true, Qn, Qu, Qb, decide_true, decide_false, true_and, and_self, forall_const, implies_true, reduceCtorEq, Zn, Q8, Zc, Qw, imp_self, Qh, Qa, eBox]
 refine Qc4 s.boils.length (fun i => ⟨lkp [(2, .pa (eBox s)), (5, .ad 0 0 0), (12, .i c), (13, .i d), (14, .sl 1 (o.map eI)), (16, .i i)], [.cells 0 (eBox s), .cells 1 (l.map eI).flatten, .hole]⟩) ?_ ?_ ?_
 ·simp only [Zp, kp, Qa0, Qa3, ↓reduceIte, Nat.reduceEqDiff, Qd, Qg, eBox]
 ·intro i hi
  obtain ⟨x, hx⟩ : ∃ x, s.boils[i]? = some x := ⟨_, Q9 hi⟩
  have hlt : (i : Int) < s.boils.length := by omega
  have h5 : inI ((i : Int) + 1) := by unfold inI; omega
  simp only [hx, hlt, h5, eq78, Zr, Zs, Qaj, Qa7, Qb5, Qa8, Qai, Qab, Qa6, Qb2, Qad, Qal, Qa4, Qa1, Fam.step, Qaf, runX, eff, Qb1, fpR, fpQ, fpV, Qbi, hits, evO, opv, qv, binV, ldV, iadV, lenV, curG, Qce, kp, Qa2, Qa0, Qa3, ↓reduceIte, Nat.reduceEqDiff, Nat.reduceAdd, Nat.reduceLeDiff, Qd, Qg, Qq, Qc, Qe, Qk, Qy, Qj, Q4, Qx, Q0, Qt, Qf, Q5, Qp, Qv, Q1, Qr, Q2, Zw, beq_self_eq_true, Qm, Ql, Qz, Q6, Qi, Qn, Qu, Qb, decide_true, and_self, Za, Q8, Zc, Qw, Bool.xor_self, Qh, Zb, Qa, Q3, eBoil, eBox]
 ·have hlt : ¬ ((s.boils.length : Int) < s.boils.length) := by omega
  by_cases hb : boxE s = 0
  ·have e1 : Qbs s = (Qbc s (Qd2 s), 0) := by unfold Qbs; rw [if_pos hb]
   have e2 : o = Qd2 s := by rw [ho]; unfold Qcw; rw [if_pos hb]
   have e3 : c = Qbc s (Qd2 s) ∧ d = 0 := by rw [hcd] at e1; exact ⟨congrArg Prod.fst e1, congrArg Prod.snd e1⟩
   have hO := Qgh s
   have e4 : Qdf s o = (c, 0) := by
    unfold Qdf
    rw [if_neg (by simpa using hb), e2, if_pos hO, e3.1]
   have ol : o.length ≤ 1000000 := by rw [e2, hO.len]; exact hb6
   rw [e4] at g8
   simp only [hlt, e3.2, g8, ol, h18B, Qaj, Qa7, Qa8, Qai, Qat, Qac, Qa6, Qad, Qal, Qa4, Qa1, Fam.step, Qaf, Qb9, Qaz, ug, evO, opv, qv, Qak, binV, ldV, lenV, Qar, Qaa, Qa5, flat, Qd3, Qa2, Qa0, Qa3, ↓reduceIte, Nat.reduceEqDiff, Nat.reduceAdd, Nat.reduceLT, Nat.reduceLeDiff, Qd, Qg, Qo, Qq, Qc, Qe, Qk, Qy, Qj, Q4, Qx, Qf, Q5, Q7, Qv, endQ, rvs, rv1, resV, vw_i, vw_b, Qax, Qaw, beq_self_eq_true, Qm, Ql, Qi, Qn, Qb, Qs, decide_true, decide_false, and_self, forall_const, implies_true, Qh, eBox]
  ·have e1 : Qbs s = (0, boxE s) := by unfold Qbs; rw [if_neg hb]
   have e3 : d = boxE s := by rw [hcd] at e1; exact congrArg Prod.snd e1
   have d0 : ¬ d = 0 := by rw [e3]; exact hb
   have e2 : o = [] := by rw [ho]; unfold Qcw; rw [if_neg hb]
   simp only [hlt, d0, e2, h18B, Zp, Qa7, Qa8, Qai, Qat, Qac, Qa6, Qad, Qal, Qa4, Qa1, Fam.step, Qaf, Qb9, Qaz, ug, evO, opv, qv, Qak, binV, ldV, lenV, Qar, Qa5, flat, Qa2, Qa0, Qa3, ↓reduceIte, Nat.reduceEqDiff, Nat.reduceLT, Nat.reduceLeDiff, Qd, Qg, Qo, Qq, Qc, Qe, Qk, Qy, Qx, Qf, endQ, rvs, rv1, resV, vw_b, beq_self_eq_true, Qm, Ql, Qu, Qb, Qs, decide_true, decide_false, and_self, forall_const, implies_true, Qh, eBox]
end Go.C06
set_option linter.unusedSimpArgs false
set_option linter.unusedVariables false
namespace Go.C06
open Go.Fam Go.Proofs
variable {Γ : Gam}
def Qhr (s : Box) : List V := [.i s.room, .rf 1 1 0 s.boils.length 2]
def Qie (s : Box) : List V := [bV (.cells 0 (Qhr s)), bV (.cells 1 (s.boils.map eBoil).flatten), bV .hole]
theorem W52o (s : Box) (h : s.boils.length ≤ 1000000) : Qdd Try.prog 52 [.ag (eBox s)] (.ag (Qhr s)) ((Qie s).map vB) := by
 refine Qi6 Qsa hmix Try.func52 cb52 cc52 cs52 cn52 ?_
 have hfl : Qbj s.boils.length := by unfold Qbj; omega
 simp only [rc52, rs52, Zo, Qt, hfl, Zj, Qie, Qhr, Qa7, Qb5, Qa8, Qac, Qa6, Qb2, optL, Qao, endO, Qad, Qa4, Qa1, Fam.step, Qaf, Qbu, Qav, runX, eff, Qb1, fpR, fpQ, fpV, Qbi, hits, nv, sv, Qcl, evO, opv, qv, ldV, Qap, putAt, Qba, Qbg, V.cells, Qaq, Qb8, Qaa, Qa5, Qa2, Qbb, Qa0, Qa3, ↓reduceIte, Nat.reduceEqDiff, Nat.reduceAdd, Nat.reduceMul, Nat.reduceLeDiff, Qd, Qg, Qo, Qq, Qc, Qe, Qk, Qy, Zk, Qj, Zf, Q4, Qx, Q0, Qt, Qf, Q5, Q7, Qp, Qv, Q1, Zd, Ze, Qr, Zi, Q2, Zg, rvs, rv1, resV, vw_i, Qax, Qaw, zipA, Qm, Zq, Ql, Qz, Zl, Q6, Zu, Qi, Zm, Qn, Qu, Qb, true_and, and_self, Zn, Q8, Zc, Qw, Qh, Qa, eBox]
 rfl
noncomputable def KB6 : Gam := KB5.ext 1000052 (fnG eX1 dX1 (fun s => s.boils.length ≤ 1000000) (fun s => s) fun s => .tp [.ag (Qhr s), .tp (Qie s)])
theorem Qys : GOk Try.prog KB6 := by
 exact Qxk.extO (f := 52) (r := fnG eX1 dX1 (fun s => s.boils.length ≤ 1000000) (fun s => s) fun s => .tp [.ag (Qhr s), .tp (Qie s)]) (fun a w => Try.call52 a w) fun vs v bs h1 h2 => by
  simp only [fnG, V.tp.injEq, List.cons.injEq, and_true] at h1 h2
  obtain ⟨h3, h4⟩ := h2
  rw [← h1.1, ← h3, ← h4]
  exact W52o _ h1.2
theorem h52o (s : Box) : KB6 1000052 [.ag (eBox s)] = (s.boils.length ≤ 1000000, .tp [.ag (Qhr s), .tp (Qie s)]) :=
 (show KB6 1000052 _ = fnG eX1 dX1 (fun s => s.boils.length ≤ 1000000) (fun s => s) (fun s => .tp [.ag (Qhr s), .tp (Qie s)]) (eX1 s) from rfl).trans (Qb6 _ (Qk4 _))
theorem Qic {s : Box} (hX : OkX s) (b : Int) : (0 ≤ (Qbd s b).soak ∧ (Qbd s b).soak ≤ 999) ∧ 0 ≤ (Qbd s b).bend ∧ (Qbd s b).bend ≤ 999 := by
 unfold Qbd
 rw [Qa]
 cases hx : s.boils[b.toNat]? with
 | none => simp
 | some x => exact hX.boil x (Zh hx)
theorem Qxm {s : Box} (hX : OkX s) (l : List Int) : 0 ≤ qD s (stD s l).1 := by
 obtain ⟨h1, h2, _, _⟩ := Qjz hX l
 have hr := hX.room
 unfold qD
 split
 ·exact (h2 _ (Qdm (by omega))).1
 ·omega
theorem Qpo (s : Box) (l : List Int) (b : Int) : Qbc s (l ++ [b]) = max (qD s (stD s l).1 + (Qbd s b).soak) (Qbc s l) + (Qbd s b).bend := by
 unfold Qbc
 rw [Qfr]; rfl
theorem Qoa {s : Box} (hX : OkX s) : ∀ l : List Int, (l.map fun b => (Qbd s b).bend).sum ≤ Qbc s l ∧ ∀ b ∈ l, (Qbd s b).soak + (Qbd s b).bend ≤ Qbc s l := by
 refine fun l => Qef (p := fun l => (l.map fun b => (Qbd s b).bend).sum ≤ Qbc s l ∧ ∀ b ∈ l, (Qbd s b).soak + (Qbd s b).bend ≤ Qbc s l) ?_ ?_ l
 ·simp [Qbc, stD]
 ·rintro l b ⟨h1, h2⟩
  have hb := Qic hX b
  have hq := Qxm hX l
  rw [Qpo, Zx, Zy]
  simp only [Qd, Qg, Zv, List.sum_nil]
  refine ⟨by omega, fun c hc => ?_⟩
  rcases List.mem_append.1 hc with hc | hc
  ·have := h2 c hc; omega
  ·rw [List.mem_singleton] at hc; subst hc; omega
theorem Qsb {f : Int → Int} {l m : List Int} (h : l.Perm m) : (l.map f).sum = (m.map f).sum := by
 induction h with
 | nil => rfl
 | cons x _ ih => simp only [Qd, Zv, ih]
 | swap x y l => simp only [Qd, Zv]; omega
 | trans _ _ h1 h2 => exact h1.trans h2
theorem Qol (s : Box) : (Qbr s.boils.length).map (fun b => (Qbd s b).bend) = s.boils.map Boil.bend := by
 apply List.ext_getElem?
 intro i
 unfold Qbr
 rw [List.map_map, Q3, Q3]
 by_cases hi : i < s.boils.length
 ·rw [List.getElem?_range hi, Q9 hi, Za, Za]
  simp [Qbd, Q9 hi]
 ·rw [Zt (by simpa using hi), Zt (by simpa using hi)]; rfl
theorem Qmq {s : Box} (hX : OkX s) {p : List Int} (hp : IsOrd s.boils.length p) : (s.boils.map Boil.bend).sum ≤ Qbc s p ∧ ∀ x ∈ s.boils, x.soak + x.bend ≤ Qbc s p := by
 obtain ⟨h1, h2⟩ := Qoa hX p
 rw [Qsb hp.perm, Qol] at h1
 refine ⟨h1, fun x hx => ?_⟩
 obtain ⟨i, hi⟩ := List.getElem?_of_mem hx
 have := h2 i (hp.sur (by have := Qam hi; omega))
 rwa [show Qbd s (i : Int) = x by unfold Qbd; rw [Zb, Qa, hi]; rfl] at this
structure BettX (s o : Box) : Prop where
 room : s.room ≤ o.room
 boil : ∀ b, (Qbd o b).soak ≤ (Qbd s b).soak ∧ (Qbd o b).bend ≤ (Qbd s b).bend
theorem Qpc {s o : Box} (hX : OkX s) (hO : OkX o) (h : BettX s o) : ∀ l : List Int, (∀ k : Nat, k < l.length → (stD o l).1.getD k 0 ≤ (stD s l).1.getD k 0) ∧ (stD o l).2 ≤ (stD s l).2 ∧
  (∀ i j : Nat, i ≤ j → j < l.length → (stD s l).1.getD i 0 ≤ (stD s l).1.getD j 0) ∧ ∀ k : Nat, k < l.length → (stD s l).1.getD k 0 ≤ (stD s l).2 := by
 refine fun l => Qef (p := fun l => (∀ k : Nat, k < l.length → (stD o l).1.getD k 0 ≤ (stD s l).1.getD k 0) ∧ (stD o l).2 ≤ (stD s l).2 ∧
  (∀ i j : Nat, i ≤ j → j < l.length → (stD s l).1.getD i 0 ≤ (stD s l).1.getD j 0) ∧ ∀ k : Nat, k < l.length → (stD s l).1.getD k 0 ≤ (stD s l).2) ?_ ?_ l
 ·refine ⟨fun k hk => by simp at hk, by simp [stD], fun i j _ hj => by simp at hj, fun k hk => by simp at hk⟩
 ·rintro l b ⟨h1, h2, h3, h4⟩
  have l1 := (Qjz hX l).1
  have l2 := (Qjz hO l).1
  have hb := Qic hX b
  have hb2 := Qic hO b
  have hbb := h.boil b
  have hr := hX.room
  have hr2 := hO.room
  have hrr := h.room
  have hq0 := Qxm hX l
  have hq : qD o (stD o l).1 ≤ qD s (stD s l).1 := by
   by_cases hlo : o.room ≤ ((stD o l).1.length : Int)
   ·have e1 : qD o (stD o l).1 = (stD o l).1.getD (((stD o l).1.length : Int) - o.room).toNat 0 := by unfold qD; rw [if_pos hlo]
    have e2 : qD s (stD s l).1 = (stD s l).1.getD (((stD s l).1.length : Int) - s.room).toNat 0 := by unfold qD; rw [if_pos (by omega)]
    rw [e1, e2, l1, l2]
    exact Int.le_trans (h1 _ (by omega)) (h3 _ _ (by omega) (by omega))
   ·have e1 : qD o (stD o l).1 = 0 := by unfold qD; rw [if_neg hlo]
    rw [e1]; exact hq0
  rw [Qfr, Qfr]
  simp only [Qoy, List.length_append, List.length_singleton]
  have gl : ∀ (A : List Int) (x : Int) (k : Nat), k < A.length → (A ++ [x]).getD k 0 = A.getD k 0 := fun A x k hk => by
   rw [Qa, Qa, List.getElem?_append_left hk]
  have gr : ∀ (A : List Int) (x : Int), (A ++ [x]).getD A.length 0 = x := fun A x => by
   rw [Qa, List.getElem?_append_right (Zj _), Nat.sub_self]; rfl
  have gr1 := gr (stD s l).1 (max (qD s (stD s l).1 + (Qbd s b).soak) (stD s l).2)
  have gr2 := gr (stD o l).1 (max (qD o (stD o l).1 + (Qbd o b).soak) (stD o l).2)
  rw [l1] at gr1
  rw [l2] at gr2
  refine ⟨fun k hk => ?_, by omega, fun i j hij hj => ?_, fun k hk => ?_⟩
  ·by_cases hkl : k < l.length
   ·rw [gl _ _ _ (by omega), gl _ _ _ (by omega)]; exact h1 k hkl
   ·have : k = l.length := by omega
    subst this
    rw [gr1, gr2]; omega
  ·by_cases hjl : j < l.length
   ·rw [gl _ _ _ (by omega), gl _ _ _ (by omega)]; exact h3 i j hij hjl
   ·have : j = l.length := by omega
    subst this
    by_cases hil : i < l.length
    ·rw [gl _ _ _ (by omega), gr1]
     have := h4 i hil; omega
    ·have : i = l.length := by omega
     rw [this]; exact Int.le_refl _
  ·by_cases hkl : k < l.length
   ·rw [gl _ _ _ (by omega)]
    have := h4 k hkl; omega
   ·have : k = l.length := by omega
    subst this
    rw [gr1]; omega
theorem Qpd {s o : Box} (hX : OkX s) (hO : OkX o) (h : BettX s o) (l : List Int) : Qbc o l ≤ Qbc s l := (Qpc hX hO h l).2.1
end Go.C06
set_option maxRecDepth 8000
namespace Go.C06
open Go.Fam Go.Proofs
def rc13 : RC := (.seq (.reg false [(cX 3 0), (cX 5 2), (cQ 6 [] (.mv (kB false)))]) (.keep [1,3,5] (.seq (.seq (.reg true [(cLd 18 3 true 2), (cQ 19 [18] (.call (kF 47) [(.t 18)])), (cMv 20 19), (gQ 21 20 false [3] (.ld true 2 (.t 3))), (gQ 22 20 false [21] (.call (kF 48) [(.t 21)])), (gQ 23 20 false [22] (.bin .neq (.t 22) (kI 0))), (cQ 24 [20,23] (.pick (.t 20) (kB true) (.t 23))), (cMv 25 24), (gMv 26 25 false 1), (gQ 27 25 false [26] (.len (.t 26))), (gQ 28 25 false [27] (.bin .gtr (.t 27) (kI 60))), (cQ 29 [25,28] (.pick (.t 25) (kB true) (.t 28))), (cMv 30 29), (gQ 31 30 false [3] (.ld true 2 (.t 3))), (gMv 32 30 false 1), (gQ 33 30 false [31,32] (.call (kF 49) [(.t 31), (.t 32)])), (gQ 34 30 false [33] (.not (.t 33))), (cQ 35 [30,34] (.pick (.t 30) (kB true) (.t 34)))]) (.keep [1,3,5,35] (.cond (.t 35) (.seq (.reg false [(cQ 36 [] (.call (kF 18) [])), (cMv 6 36)]) .ret) .skip))) (.keep [1,3,5] (.seq (.reg false [(cLd 38 3 true 2), (cMv 39 1), (cQ 40 [38,39] (.call (kF 50) [(.t 38), (.t 39)])), (cMv 37 40), (cEx 41 37 0), (cEx 42 37 1), (cMv 7 41), (cMv 8 42)]) (.keep [1,3,5,7,8] (.seq (.reg false [(cLd 44 3 true 2), (cQ 45 [44] (.call (kF 51) [(.t 44)])), (cMv 43 45), (cEx 46 43 0), (cEx 47 43 1), (cMv 9 46), (cMv 10 47)]) (.keep [1,3,5,7,8,9,10] (.seq (.seq (.reg true [(cMv 48 8), (cC 49 .neq 48 0), (cMv 50 49), (gMv 51 50 false 10), (gQ 52 50 false [51] (.bin .neq (.t 51) (kI 0))), (cQ 53 [50,52] (.pick (.t 50) (kB true) (.t 52))), (cMv 54 53), (gMv 55 54 false 9), (gMv 56 54 false 7), (gQ 57 54 false [55,56] (.bin .gtr (.t 55) (.t 56))), (cQ 58 [54,57] (.pick (.t 54) (kB true) (.t 57)))]) (.keep [1,3,5,7,9,58] (.cond (.t 58) (.seq (.reg false [(cQ 6 [] (.mv (kB false)))]) .ret) .skip))) (.keep [1,3,5,7,9] (.seq (.reg false [(cI 11 0)]) (.keep [1,3,5,7,9,11] (.seq (.seq (.reg false [(cI 12 0)]) (.keep [1,3,5,7,9,11,12] (.block 0 (.loop [1,3,5,7,9,11,12] none (.seq (.seq (.reg false [(cMv 59 12), (cFa 60 3 1), (cLd 61 60 false 1), (cLn 62 61), (cB 63 .lss 59 62)]) (.keep [1,3,5,7,9,11,12,63] (.cond (.t 63) .skip (.exit 0)))) (.keep [1,3,5,7,9,11,12] (.seq (.block 1 (.seq (.reg false [(cMv 66 11), (cFa 67 3 1), (cLd 68 67 false 1), (cMv 69 12), (cA 70 2 68 69), (cFa 71 70 1), (cLd 72 71 false 1), (cB 73 .add 66 72), (cMv 11 73)]) (.keep [1,3,5,7,9,11,12] (.seq (.any false 0 [⟨(cMv 74 9), [], []⟩, ⟨(cFa 75 3 1), [], []⟩, ⟨(cLd 76 75 false 1), [], [1]⟩, ⟨(cMv 77 12), [], []⟩, ⟨(cA 78 2 76 77), [], [2,1,3]⟩, ⟨(cFa 79 78 0), [], [4,2,1,3]⟩, ⟨(cLd 80 79 false 1), [], [5,4,2,1,3]⟩, ⟨(cFa 81 3 1), [], []⟩, ⟨(cLd 82 81 false 1), [], [7]⟩, ⟨(cMv 83 12), [], []⟩, ⟨(cA 84 2 82 83), [], [8,7,9]⟩, ⟨(cFa 85 84 1), [], [10,8,7,9]⟩, ⟨(cLd 86 85 false 1), [], [11,10,8,7,9]⟩, ⟨(cB 87 .add 80 86), [], [6,5,4,2,1,3,12,11,10,8,7,9]⟩, ⟨(cB 88 .lss 74 87), [], [0,13,6,5,4,2,1,3,12,11,10,8,7,9]⟩]) (.keep [1,3,5,7,9,11,12,88] (.cond (.t 88) (.seq (.reg false [(cQ 6 [] (.mv (kB false)))]) .ret) .skip)))))) (.keep [1,3,5,7,9,11,12] (.reg false [(cMv 64 12), (cC 65 .add 64 1), (cMv 12 65)]))))))))) (.keep [1,3,5,7,9,11] (.seq (.seq (.reg false [(cMv 89 9), (cMv 90 11), (cB 91 .lss 89 90)]) (.keep [1,3,5,7,9,91] (.cond (.t 91) (.seq (.reg false [(cQ 6 [] (.mv (kB false)))]) .ret) .skip))) (.keep [1,3,5,7,9] (.seq (.seq (.any true 0 [⟨(cFa 92 5 0), [], []⟩, ⟨(cLd 93 92 false 1), [], [0]⟩, ⟨(cC 94 .lss 93 0), [], [1,0]⟩, ⟨(cMv 95 94), [], [2,1,0]⟩, ⟨(gQ 96 95 false [5] (.fad 0 (.t 5))), [], [3,2,1,0]⟩, ⟨(gQ 97 95 false [96] (.ld false 1 (.t 96))), [], [4,3,2,1,0]⟩, ⟨(gQ 98 95 false [3] (.fad 1 (.t 3))), [], [3,2,1,0]⟩, ⟨(gQ 99 95 false [98] (.ld false 1 (.t 98))), [], [6,3,2,1,0]⟩, ⟨(gQ 100 95 false [99] (.len (.t 99))), [], [7,6,3,2,1,0]⟩, ⟨(gQ 101 95 false [97,100] (.bin .geq (.t 97) (.t 100))), [], [5,4,3,2,1,0,8,7,6]⟩, ⟨(cQ 102 [95,101] (.pick (.t 95) (kB true) (.t 101))), [], [3,2,1,0,9,5,4,8,7,6]⟩, ⟨(cMv 103 102), [], [10,3,2,1,0,9,5,4,8,7,6]⟩, ⟨(gQ 104 103 false [5] (.fad 1 (.t 5))), [], [11,10,3,2,1,0,9,5,4,8,7,6]⟩, ⟨(gQ 105 103 false [104] (.ld false 1 (.t 104))), [], [12,11,10,3,2,1,0,9,5,4,8,7,6]⟩, ⟨(gQ 106 103 false [105] (.bin .lss (.t 105) (kI 0))), [], [13,12,11,10,3,2,1,0,9,5,4,8,7,6]⟩, ⟨(cQ 107 [103,106] (.pick (.t 103) (kB true) (.t 106))), [], [11,10,3,2,1,0,9,5,4,8,7,6,14,13,12]⟩, ⟨(cMv 108 107), [], [15,11,10,3,2,1,0,9,5,4,8,7,6,14,13,12]⟩, ⟨(gQ 109 108 false [5] (.fad 1 (.t 5))), [], [16,15,11,10,3,2,1,0,9,5,4,8,7,6,14,13,12]⟩, ⟨(gQ 110 108 false [109] (.ld false 1 (.t 109))), [], [17,16,15,11,10,3,2,1,0,9,5,4,8,7,6,14,13,12]⟩, ⟨(gQ 111 108 false [3] (.fad 1 (.t 3))), [], [16,15,11,10,3,2,1,0,9,5,4,8,7,6,14,13,12]⟩, ⟨(gQ 112 108 false [111] (.ld false 1 (.t 111))), [], [19,16,15,11,10,3,2,1,0,9,5,4,8,7,6,14,13,12]⟩, ⟨(gQ 113 108 false [5] (.fad 0 (.t 5))), [], [16,15,11,10,3,2,1,0,9,5,4,8,7,6,14,13,12]⟩, ⟨(gQ 114 108 false [113] (.ld false 1 (.t 113))), [], [21,16,15,11,10,3,2,1,0,9,5,4,8,7,6,14,13,12]⟩, ⟨(gQ 115 108 false [112,114] (.iad 2 (.t 112) (.t 114))), [], [20,19,16,15,11,10,3,2,1,0,9,5,4,8,7,6,14,13,12,22,21]⟩, ⟨(gQ 116 108 false [115] (.fad 0 (.t 115))), [], [23,20,19,16,15,11,10,3,2,1,0,9,5,4,8,7,6,14,13,12,22,21]⟩, ⟨(gQ 117 108 false [116] (.ld false 1 (.t 116))), [], [24,23,20,19,16,15,11,10,3,2,1,0,9,5,4,8,7,6,14,13,12,22,21]⟩, ⟨(gQ 118 108 false [110,117] (.bin .gtr (.t 110) (.t 117))), [], [18,17,16,15,11,10,3,2,1,0,9,5,4,8,7,6,14,13,12,25,24,23,20,19,22,21]⟩, ⟨(cQ 119 [108,118] (.pick (.t 108) (kB true) (.t 118))), [], [16,15,11,10,3,2,1,0,9,5,4,8,7,6,14,13,12,26,18,17,25,24,23,20,19,22,21]⟩, ⟨(cMv 120 119), [], [27,16,15,11,10,3,2,1,0,9,5,4,8,7,6,14,13,12,26,18,17,25,24,23,20,19,22,21]⟩, ⟨(gQ 121 120 false [5] (.fad 2 (.t 5))), [], [28,27,16,15,11,10,3,2,1,0,9,5,4,8,7,6,14,13,12,26,18,17,25,24,23,20,19,22,21]⟩, ⟨(gQ 122 120 false [121] (.ld false 1 (.t 121))), [], [29,28,27,16,15,11,10,3,2,1,0,9,5,4,8,7,6,14,13,12,26,18,17,25,24,23,20,19,22,21]⟩, ⟨(gQ 123 120 false [122] (.bin .lss (.t 122) (kI 0))), [], [30,29,28,27,16,15,11,10,3,2,1,0,9,5,4,8,7,6,14,13,12,26,18,17,25,24,23,20,19,22,21]⟩, ⟨(cQ 124 [120,123] (.pick (.t 120) (kB true) (.t 123))), [], [28,27,16,15,11,10,3,2,1,0,9,5,4,8,7,6,14,13,12,26,18,17,25,24,23,20,19,22,21,31,30,29]⟩, ⟨(cMv 125 124), [], [32,28,27,16,15,11,10,3,2,1,0,9,5,4,8,7,6,14,13,12,26,18,17,25,24,23,20,19,22,21,31,30,29]⟩, ⟨(gQ 126 125 false [5] (.fad 2 (.t 5))), [], [33,32,28,27,16,15,11,10,3,2,1,0,9,5,4,8,7,6,14,13,12,26,18,17,25,24,23,20,19,22,21,31,30,29]⟩, ⟨(gQ 127 125 false [126] (.ld false 1 (.t 126))), [], [34,33,32,28,27,16,15,11,10,3,2,1,0,9,5,4,8,7,6,14,13,12,26,18,17,25,24,23,20,19,22,21,31,30,29]⟩, ⟨(gQ 128 125 false [3] (.fad 1 (.t 3))), [], [33,32,28,27,16,15,11,10,3,2,1,0,9,5,4,8,7,6,14,13,12,26,18,17,25,24,23,20,19,22,21,31,30,29]⟩, ⟨(gQ 129 125 false [128] (.ld false 1 (.t 128))), [], [36,33,32,28,27,16,15,11,10,3,2,1,0,9,5,4,8,7,6,14,13,12,26,18,17,25,24,23,20,19,22,21,31,30,29]⟩, ⟨(gQ 130 125 false [5] (.fad 0 (.t 5))), [], [33,32,28,27,16,15,11,10,3,2,1,0,9,5,4,8,7,6,14,13,12,26,18,17,25,24,23,20,19,22,21,31,30,29]⟩, ⟨(gQ 131 125 false [130] (.ld false 1 (.t 130))), [], [38,33,32,28,27,16,15,11,10,3,2,1,0,9,5,4,8,7,6,14,13,12,26,18,17,25,24,23,20,19,22,21,31,30,29]⟩, ⟨(gQ 132 125 false [129,131] (.iad 2 (.t 129) (.t 131))), [], [37,36,33,32,28,27,16,15,11,10,3,2,1,0,9,5,4,8,7,6,14,13,12,26,18,17,25,24,23,20,19,22,21,31,30,29,39,38]⟩, ⟨(gQ 133 125 false [132] (.fad 1 (.t 132))), [], [40,37,36,33,32,28,27,16,15,11,10,3,2,1,0,9,5,4,8,7,6,14,13,12,26,18,17,25,24,23,20,19,22,21,31,30,29,39,38]⟩, ⟨(gQ 134 125 false [133] (.ld false 1 (.t 133))), [], [41,40,37,36,33,32,28,27,16,15,11,10,3,2,1,0,9,5,4,8,7,6,14,13,12,26,18,17,25,24,23,20,19,22,21,31,30,29,39,38]⟩, ⟨(gQ 135 125 false [127,134] (.bin .gtr (.t 127) (.t 134))), [], [35,34,33,32,28,27,16,15,11,10,3,2,1,0,9,5,4,8,7,6,14,13,12,26,18,17,25,24,23,20,19,22,21,31,30,29,42,41,40,37,36,39,38]⟩, ⟨(cQ 136 [125,135] (.pick (.t 125) (kB true) (.t 135))), [], [33,32,28,27,16,15,11,10,3,2,1,0,9,5,4,8,7,6,14,13,12,26,18,17,25,24,23,20,19,22,21,31,30,29,43,35,34,42,41,40,37,36,39,38]⟩, ⟨(cMv 137 136), [], [44,33,32,28,27,16,15,11,10,3,2,1,0,9,5,4,8,7,6,14,13,12,26,18,17,25,24,23,20,19,22,21,31,30,29,43,35,34,42,41,40,37,36,39,38]⟩, ⟨(gQ 138 137 false [5] (.fad 3 (.t 5))), [], [45,44,33,32,28,27,16,15,11,10,3,2,1,0,9,5,4,8,7,6,14,13,12,26,18,17,25,24,23,20,19,22,21,31,30,29,43,35,34,42,41,40,37,36,39,38]⟩, ⟨(gQ 139 137 false [138] (.ld false 1 (.t 138))), [], [46,45,44,33,32,28,27,16,15,11,10,3,2,1,0,9,5,4,8,7,6,14,13,12,26,18,17,25,24,23,20,19,22,21,31,30,29,43,35,34,42,41,40,37,36,39,38]⟩, ⟨(gQ 140 137 false [139] (.bin .lss (.t 139) (kI 0))), [], [47,46,45,44,33,32,28,27,16,15,11,10,3,2,1,0,9,5,4,8,7,6,14,13,12,26,18,17,25,24,23,20,19,22,21,31,30,29,43,35,34,42,41,40,37,36,39,38]⟩, ⟨(cQ 141 [137,140] (.pick (.t 137) (kB true) (.t 140))), [], [45,44,33,32,28,27,16,15,11,10,3,2,1,0,9,5,4,8,7,6,14,13,12,26,18,17,25,24,23,20,19,22,21,31,30,29,43,35,34,42,41,40,37,36,39,38,48,47,46]⟩, ⟨(cMv 142 141), [], [49,45,44,33,32,28,27,16,15,11,10,3,2,1,0,9,5,4,8,7,6,14,13,12,26,18,17,25,24,23,20,19,22,21,31,30,29,43,35,34,42,41,40,37,36,39,38,48,47,46]⟩, ⟨(gQ 143 142 false [5] (.fad 3 (.t 5))), [], [50,49,45,44,33,32,28,27,16,15,11,10,3,2,1,0,9,5,4,8,7,6,14,13,12,26,18,17,25,24,23,20,19,22,21,31,30,29,43,35,34,42,41,40,37,36,39,38,48,47,46]⟩, ⟨(gQ 144 142 false [143] (.ld false 1 (.t 143))), [], [51,50,49,45,44,33,32,28,27,16,15,11,10,3,2,1,0,9,5,4,8,7,6,14,13,12,26,18,17,25,24,23,20,19,22,21,31,30,29,43,35,34,42,41,40,37,36,39,38,48,47,46]⟩, ⟨(gQ 145 142 false [3] (.fad 0 (.t 3))), [], [50,49,45,44,33,32,28,27,16,15,11,10,3,2,1,0,9,5,4,8,7,6,14,13,12,26,18,17,25,24,23,20,19,22,21,31,30,29,43,35,34,42,41,40,37,36,39,38,48,47,46]⟩, ⟨(gQ 146 142 false [145] (.ld false 1 (.t 145))), [], [53,50,49,45,44,33,32,28,27,16,15,11,10,3,2,1,0,9,5,4,8,7,6,14,13,12,26,18,17,25,24,23,20,19,22,21,31,30,29,43,35,34,42,41,40,37,36,39,38,48,47,46]⟩, ⟨(gQ 147 142 false [146] (.bin .sub (kI 7) (.t 146))), [], [54,53,50,49,45,44,33,32,28,27,16,15,11,10,3,2,1,0,9,5,4,8,7,6,14,13,12,26,18,17,25,24,23,20,19,22,21,31,30,29,43,35,34,42,41,40,37,36,39,38,48,47,46]⟩, ⟨(gQ 148 142 false [144,147] (.bin .gtr (.t 144) (.t 147))), [], [52,51,50,49,45,44,33,32,28,27,16,15,11,10,3,2,1,0,9,5,4,8,7,6,14,13,12,26,18,17,25,24,23,20,19,22,21,31,30,29,43,35,34,42,41,40,37,36,39,38,48,47,46,55,54,53]⟩, ⟨(cQ 149 [142,148] (.pick (.t 142) (kB true) (.t 148))), [], [50,49,45,44,33,32,28,27,16,15,11,10,3,2,1,0,9,5,4,8,7,6,14,13,12,26,18,17,25,24,23,20,19,22,21,31,30,29,43,35,34,42,41,40,37,36,39,38,48,47,46,56,52,51,55,54,53]⟩]) (.keep [1,3,5,7,9,149] (.cond (.t 149) (.seq (.reg false [(cQ 150 [] (.call (kF 18) [])), (cMv 6 150)]) .ret) .skip))) (.keep [1,3,5,7,9] (.seq (.reg false [(cLd 151 3 true 2), ⟨(some 152), none, [151], none, .o (kF 52) [(.t 151)]⟩, ⟨(some 13), none, [], none, .w (.alc [(.i 0), (.z 2)])⟩, ⟨none, none, [13,152], none, .w (.st 2 (.t 13) (.t 152))⟩]) (.keep [1,5,7,9,13] (.seq (.any false 0 [⟨(cFa 153 13 1), [], []⟩, ⟨(cLd 154 153 false 1), [], [0]⟩, ⟨(cFa 155 5 0), [], []⟩, ⟨(cLd 156 155 false 1), [], [2]⟩, ⟨(cA 157 2 154 156), [], [1,0,3,2]⟩, ⟨(cFa 158 157 0), [], [4,1,0,3,2]⟩, ⟨(cLd 159 158 false 1), [], [5,4,1,0,3,2]⟩, ⟨(cFa 160 5 1), [], []⟩, ⟨(cLd 161 160 false 1), [], [7]⟩, ⟨(cB 162 .sub 159 161), [], [6,5,4,1,0,3,2,8,7]⟩, ⟨(cA 163 2 154 156), [], [1,0,3,2,4,5,6,7,8,9]⟩, ⟨(cFa 164 163 0), [], [10,1,0,3,2,4,5,6,7,8,9]⟩, ⟨⟨none, none, [164,162], none, .w (.st 1 (.t 164) (.t 162))⟩, [], [11,10,1,0,3,2,4,5,6,7,8,9]⟩]) (.keep [1,5,7,9,13] (.seq (.any false 0 [⟨(cFa 165 13 1), [], []⟩, ⟨(cLd 166 165 false 1), [], [0]⟩, ⟨(cFa 167 5 0), [], []⟩, ⟨(cLd 168 167 false 1), [], [2]⟩, ⟨(cA 169 2 166 168), [], [1,0,3,2]⟩, ⟨(cFa 170 169 1), [], [4,1,0,3,2]⟩, ⟨(cLd 171 170 false 1), [], [5,4,1,0,3,2]⟩, ⟨(cFa 172 5 2), [], []⟩, ⟨(cLd 173 172 false 1), [], [7]⟩, ⟨(cB 174 .sub 171 173), [], [6,5,4,1,0,3,2,8,7]⟩, ⟨(cA 175 2 166 168), [], [1,0,3,2,4,5,6,7,8,9]⟩, ⟨(cFa 176 175 1), [], [10,1,0,3,2,4,5,6,7,8,9]⟩, ⟨⟨none, none, [176,174], none, .w (.st 1 (.t 176) (.t 174))⟩, [], [11,10,1,0,3,2,4,5,6,7,8,9]⟩]) (.keep [1,5,7,9,13] (.seq (.reg false [(cFa 177 13 0), (cLd 178 177 false 1), (cFa 179 5 3), (cLd 180 179 false 1), (cB 181 .add 178 180), (cFa 182 13 0), ⟨none, none, [182,181], none, .w (.st 1 (.t 182) (.t 181))⟩]) (.keep [1,7,9,13] (.seq (.drp 0 (.reg false [(cLd 184 13 true 2), (cMv 185 1), (cQ 186 [184,185] (.call (kF 50) [(.t 184), (.t 185)])), (cMv 183 186), (cEx 187 183 0), (cEx 188 183 1), (cMv 14 187), (cMv 15 188)])) (.keep [7,9,13,14,15] (.seq (.reg false [(cLd 190 13 true 2), (cQ 191 [190] (.call (kF 51) [(.t 190)])), (cMv 189 191), (cEx 192 189 0), (cEx 193 189 1), (cMv 16 192), (cMv 17 193)]) (.keep [7,9,14,15,16,17] (.seq (.reg true [(cMv 194 15), (cC 195 .eql 194 0), (cMv 196 195), (gMv 197 196 true 17), (gQ 198 196 true [197] (.bin .eql (.t 197) (kI 0))), (cQ 199 [196,198] (.pick (.t 196) (.t 198) (kB false))), (cMv 200 199), (gMv 201 200 true 14), (gMv 202 200 true 7), (gQ 203 200 true [201,202] (.bin .leq (.t 201) (.t 202))), (cQ 204 [200,203] (.pick (.t 200) (.t 203) (kB false))), (cMv 205 204), (gMv 206 205 true 16), (gMv 207 205 true 9), (gQ 208 205 true [206,207] (.bin .leq (.t 206) (.t 207))), (cQ 209 [205,208] (.pick (.t 205) (.t 208) (kB false))), (cMv 210 209), (gQ 211 210 true [] (.call (kF 18) [])), (cQ 212 [210,211] (.pick (.t 210) (.t 211) (kB false))), (cMv 6 212)]) .ret)))))))))))))))))))))))))))))))
def pu13 : List Nat := [1000152,3,5]
def rs13 : List RV := [.t 6]
theorem cc13 : CCx Try.prog Try.f13 pu13 rc13 := by unfold CCx; kernel_rfl
theorem cb13 : CBx Try.f13 := by unfold CBx; kernel_rfl
theorem cs13 : CSx Try.prog Try.f13 rs13 := by unfold CSx; kernel_rfl
theorem cn13 : 3 ≤ Try.f13.ntmps := by decide
end Go.C06
set_option linter.unusedSimpArgs false
set_option linter.unusedVariables false
namespace Go.C06
open Go.Fam Go.Proofs
theorem Qwh (s : Box)  : KB6 47 [.ag (eBox s)] = (True, .b (farX s)) := h47 s
theorem Qwi (s : Box)  : KB6 48 [.ag (eBox s)] = (True, .i (boxE s)) := h48 s
theorem Qwj (s : Box) (l : List Int)  : KB6 49 [.ag (eBox s), .sl 1 (l.map eI)] = (l.length ≤ 1000000, .b (decide (IsOrd s.boils.length l))) := h49 s l
theorem Qt3 (s : Box) (l : List Int)  : KB6 50 [.ag (eBox s), .sl 1 (l.map eI)] = (okLn l, .tp [.i (Qex s l).1, .i (Qex s l).2]) := h50 s l
theorem Qt4 (s : Box)  : KB6 51 [.ag (eBox s)] = (True, .tp [.i (Qbs s).1, .i (Qbs s).2]) := h51 s
theorem h18C : KB6 18 [] = (True, .b true) := (show KB6 18 [] = H31 18 [] from rfl).trans h18
theorem Qrk {l : List Boil} {k : Nat} {y : Boil} (h : l[k]? = some y) : (((l.map eBoil).flatten).drop (k * 2)).headD .u = .i y.soak ∧ True ∧
  ∀ a b : Int, (((l.map eBoil).flatten.take (k * 2) ++ [V.i a] ++ (l.map eBoil).flatten.drop (k * 2 + 1)).drop (k * 2 + 1)).headD .u = .i y.bend ∧
   ((l.map eBoil).flatten.take (k * 2) ++ [V.i a] ++ (l.map eBoil).flatten.drop (k * 2 + 1)).take (k * 2 + 1) ++ [V.i b] ++ ((l.map eBoil).flatten.take (k * 2) ++ [V.i a] ++ (l.map eBoil).flatten.drop (k * 2 + 1)).drop (k * 2 + 1 + 1) = ((l.set k ⟨a, b⟩).map eBoil).flatten := by
 have hk := Qam h
 have hs : l = l.take k ++ y :: l.drop (k + 1) := by
  have := List.take_append_drop k l
  rw [Qih h] at this
  exact this.symm
 have hset : ∀ z : Boil, l.set k z = l.take k ++ z :: l.drop (k + 1) := fun z => List.set_eq_take_append_cons_drop.trans (if_pos hk)
 obtain ⟨P, hP⟩ : ∃ P, P = ((l.take k).map eBoil).flatten := ⟨_, rfl⟩
 obtain ⟨R, hR⟩ : ∃ R, R = ((l.drop (k + 1)).map eBoil).flatten := ⟨_, rfl⟩
 have hPl : P.length = k * 2 := by rw [hP, Qnh, List.length_take, Nat.min_eq_left (by omega)]
 have hZ : (l.map eBoil).flatten = P ++ (V.i y.soak :: V.i y.bend :: R) := by
  rw [hP, hR]
  conv => lhs; rw [hs]
  simp [eBoil]
 have hS : ∀ a b : Int, ((l.set k ⟨a, b⟩).map eBoil).flatten = P ++ (V.i a :: V.i b :: R) := fun a b => by
  rw [hset, hP, hR]; simp [eBoil]
 have t1 : (P ++ (V.i y.soak :: V.i y.bend :: R)).take (k * 2) = P := by rw [← hPl, Zz]
 have t2 : ∀ L : List V, (P ++ L).drop (k * 2) = L := fun L => by rw [← hPl, List.drop_left]
 have t3 : ∀ (x : V) (L : List V), (P ++ (x :: L)).drop (k * 2 + 1) = L := fun x L => by rw [← Z0, t2]; rfl
 have t4 : ∀ (x y : V) (L : List V), (P ++ (x :: y :: L)).drop (k * 2 + 1 + 1) = L := fun x y L => by rw [← Z0, t3]; rfl
 have t5 : ∀ (x : V) (L : List V), (P ++ (x :: L)).take (k * 2 + 1) = P ++ [x] := fun x L => by
  rw [← hPl, show P ++ (x :: L) = (P ++ [x]) ++ L by simp, show P.length + 1 = (P ++ [x]).length by simp, Zz]
 refine ⟨by rw [hZ, t2]; rfl, trivial, fun a b => ?_⟩
 rw [hZ, t1, t3, hS]
 have e : P ++ [V.i a] ++ (V.i y.bend :: R) = P ++ (V.i a :: V.i y.bend :: R) := by simp
 rw [e]
 exact ⟨by rw [t3]; rfl, by rw [t5, t4]; simp⟩
theorem Qv5 : vB (bV .hole) = .hole := rfl
def chX (s : Box) (xb xs xe xr : Int) : Box := ⟨s.room + xr, s.boils.set xb.toNat ⟨(Qbd s xb).soak - xs, (Qbd s xb).bend - xe⟩⟩
set_option maxRecDepth 100000 in
set_option maxHeartbeats 4000000 in
theorem P13 (s : Box) (l : List Int) (xb xs xe xr : Int) : Qah Try.prog 13 [.ag (eBox s), .sl 1 (l.map eI), .ag [.i xb, .i xs, .i xe, .i xr]] (.b true) := by
 refine Qag Qys hmix Try.func13 cb13 cc13 cs13 cn13 ?_
 have g1 := Qwh s
 have g2 := Qwi s
 have g3 := Qwj s l
 simp only [eBox] at g1 g2 g3
 by_cases hf : farX s = true
 ·simp only [rc13, rs13, g1, hf, h18C, Qa7, Qa8, Qai, Qac, Qa6, Qad, Qa4, Qa1, Fam.step, Qaf, Qb9, Qaz, ug, evO, opv, qv, Qak, Qdp, binV, ldV, lenV, Qar, V.cells, Qaq, Qaa, Qa5, flat, Qa2, Qa0, Qa3, ↓reduceIte, Nat.reduceEqDiff, Nat.reduceAdd, Nat.reduceLT, Nat.reduceLeDiff, Qd, Qg, Qo, Qq, Qc, Qe, Qj, Q4, Qf, endQ, rvs, rv1, resV, vw_i, vw_b, Qax, Qaw, zipA, Qm, Ql, Qz, Qi, Qn, Qb, Qs, true_and, and_true, and_self, false_and, forall_const, false_implies, implies_true, reduceCtorEq, beq_false, imp_self, Qh, eBox]
 by_cases hb : boxE s = 0
 rotate_left
 ·simp only [rc13, rs13, g1, g2, hf, hb, h18C, Qa7, Qa8, Qai, Qac, Qa6, Qad, Qa4, Qa1, Fam.step, Qaf, Qb9, Qaz, ug, evO, opv, qv, Qak, Qdp, binV, ldV, lenV, Qar, V.cells, Qaq, Qaa, Qa5, flat, Qa2, Qa0, Qa3, ↓reduceIte, Nat.reduceEqDiff, Nat.reduceAdd, Nat.reduceLT, Nat.reduceLeDiff, Qd, Qg, Qo, Qq, Qc, Qe, Qj, Q4, Qf, endQ, rvs, rv1, resV, vw_i, vw_b, Qax, Qaw, zipA, beq_self_eq_true, Qm, Ql, Qz, Qi, Qn, Qu, Qb, Qs, decide_false, true_and, and_true, and_self, false_and, forall_const, false_implies, implies_true, reduceCtorEq, beq_false, imp_self, Qh, eBox]
 by_cases hl : (60 : Int) < l.length
 ·simp only [rc13, rs13, g1, g2, hf, hb, hl, h18C, Qa7, Qa8, Qai, Qac, Qa6, Qad, Qa4, Qa1, Fam.step, Qaf, Qb9, Qaz, ug, evO, opv, qv, Qak, Qdp, binV, ldV, lenV, Qar, V.cells, Qaq, Qaa, Qa5, flat, Qa2, Qa0, Qa3, ↓reduceIte, Nat.reduceEqDiff, Nat.reduceAdd, Nat.reduceLT, Nat.reduceLeDiff, Qd, Qg, Qo, Qq, Qc, Qe, Qj, Q4, Qf, endQ, rvs, rv1, resV, vw_i, vw_b, Qax, Qaw, zipA, beq_self_eq_true, Qm, Ql, Qz, Qi, Qn, Qb, Qs, decide_true, true_and, and_true, and_self, false_and, forall_const, false_implies, implies_true, reduceCtorEq, beq_false, imp_self, Qh, eBox]
 have hl6 : l.length ≤ 1000000 := by omega
 by_cases hO : IsOrd s.boils.length l
 rotate_left
 ·simp only [rc13, rs13, g1, g2, g3, hf, hb, hl, hl6, hO, h18C, Qa7, Qa8, Qai, Qac, Qa6, Qad, Qa4, Qa1, Fam.step, Qaf, Qb9, Qaz, ug, evO, opv, qv, Qak, binV, ldV, lenV, Qar, V.cells, Qaq, Qaa, Qa5, flat, Qa2, Qa0, Qa3, ↓reduceIte, Nat.reduceEqDiff, Nat.reduceAdd, Nat.reduceLT, Nat.reduceLeDiff, Qd, Qg, Qo, Qq, Qc, Qe, Qj, Q4, Qf, endQ, rvs, rv1, resV, vw_i, vw_b, Qax, Qaw, zipA, beq_self_eq_true, Qm, Ql, Qi, Qn, Qu, Qb, decide_true, decide_false, and_self, forall_const, implies_true, reduceCtorEq, Qh, eBox]
 have hX := Qgj.1 hb
 have hn7 := hX.len
 have hr := hX.room
 have hln : okLn l := hl6
 have g4 := Qt3 s l
 have g5 := Qt4 s
 have dN : Qex s l = (Qbc s l, 0) := by rw [Qig]; unfold Qdf; rw [if_neg (by simpa using hb), if_pos hO]
 have qN : Qbs s = (Qbc s (Qd2 s), 0) := by unfold Qbs; rw [if_pos hb]
 obtain ⟨n, hn⟩ : ∃ n, n = Qbc s l := ⟨_, rfl⟩
 obtain ⟨q, hq⟩ : ∃ q, q = Qbc s (Qd2 s) := ⟨_, rfl⟩
 rw [dN, ← hn] at g4
 rw [qN, ← hq] at g5
 simp only [eBox] at g4 g5
 have hqn : ¬ n < q := by have := Qk2 hO; omega
 obtain ⟨hsum, heach⟩ := Qmq hX (Qgh s)
 rw [← hq] at hsum heach
 simp only [rc13, rs13, g1, g2, g3, g4, g5, hf, hb, hl, hl6, hO, hln, hqn, Qaj, Qa7, Qa8, Qai, Qab, Qa6, Qad, Qa4, Qa1, Fam.step, Qaf, Qb9, Qaz, ug, evO, opv, qv, Qak, binV, ldV, lenV, Qar, V.cells, Qaq, Qaa, Qa5, flat, Qd3, Qa2, Qa0, Qa3, ↓reduceIte, Nat.reduceEqDiff, Nat.reduceAdd, Nat.reduceLT, Nat.reduceLeDiff, Qd, Qg, Qo, Qq, Qc, Qe, Qj, Q4, Qf, Q5, Q7, Qv, vw_i, Qax, Qaw, zipA, beq_self_eq_true, Qm, Ql, Qi, Qn, Qb, decide_true, decide_false, true_and, and_self, forall_const, implies_true, reduceCtorEq, Qh, eBox]
 obtain ⟨S, hS⟩ : ∃ S : Nat → Int, S = fun i => ((s.boils.take i).map Boil.bend).sum := ⟨_, rfl⟩
 have S0 : S 0 = 0 := by rw [hS]; rfl
 have Sn : S s.boils.length = (s.boils.map Boil.bend).sum := by rw [hS]; simp only; rw [List.take_length]
 have Ss : ∀ i x, s.boils[i]? = some x → S (i + 1) = S i + x.bend := fun i x hx => by rw [hS]; simp only; rw [Qb7 hx, Zx, Zy]; simp
 have Sin : ∀ i : Nat, i ≤ s.boils.length → 0 ≤ S i ∧ S i ≤ 999 * (i : Int) := by
  intro i
  induction i with
  | zero => intro _; rw [S0]; simp
  | succ i ih =>
   intro hi
   have hx : s.boils[i]? = some s.boils[i] := Q9 (by omega)
   have h1 := ih (by omega)
   have h2 := hX.boil _ (List.getElem_mem (by omega : i < s.boils.length))
   rw [Ss i _ hx]
   simp only [Zr, Zs]
   omega
 refine Qc4 s.boils.length (fun i => ⟨lkp [(1, .sl 1 (l.map eI)), (3, .pa (eBox s)), (5, .pa [.i xb, .i xs, .i xe, .i xr]), (7, .i n), (9, .i q), (11, .i (S i)), (12, .i i)], []⟩) ?_ ?_ ?_
 ·simp only [Zp, S0, kp, Qa0, Qa3, ↓reduceIte, Nat.reduceEqDiff, Qd, Qg, eBox]
 ·intro i hi
  obtain ⟨x, hx⟩ : ∃ x, s.boils[i]? = some x := ⟨_, Q9 hi⟩
  have hlt : (i : Int) < s.boils.length := by omega
  have hxm := Zh hx
  have hx2 := hX.boil x hxm
  have hst := Ss i x hx
  have hsi := Sin i (by omega)
  have he := heach x hxm
  have hqx : ¬ q < x.soak + x.bend := by omega
  have h5 : inI ((i : Int) + 1) ∧ inI (S i + x.bend) ∧ inI (x.soak + x.bend) := by unfold inI; omega
  simp only [hx, hlt, h5, hqx, hst, Zr, Zs, Qaj, Qa7, Qb5, Qa8, Qai, Qab, Qa6, Qb2, Qad, Qal, Qa4, Qa1, Fam.step, Qaf, runX, eff, Qb1, fpR, fpQ, fpV, Qbi, hits, evO, opv, qv, binV, ldV, iadV, lenV, kp, Qa2, Qa0, Qa3, ↓reduceIte, Nat.reduceEqDiff, Nat.reduceAdd, Nat.reduceLeDiff, Qd, Qg, Qq, Qc, Qe, Qk, Qy, Qx, Q0, Qt, Qf, Qp, Qv, Q1, Qr, Q2, Zw, Qm, Ql, Qz, Q6, Qi, Qn, Qu, Qb, decide_true, decide_false, and_self, Za, Q8, Qw, Qh, Zb, Qa, Q3, eBoil, eBox]
 ·have hlt : ¬ ((s.boils.length : Int) < s.boils.length) := by omega
  have hqs : ¬ q < S s.boils.length := by rw [Sn]; omega
  have i7 : inI (7 - s.room) := by unfold inI; omega
  by_cases b0 : xb < 0
  ·simp only [hlt, hqs, b0, h18C, Qaj, Qa7, Qb5, Qa8, Qai, Qat, Qac, Qa6, Qb2, Qad, Qal, Qa4, Qa1, Fam.step, Qaf, Qb9, Qaz, ug, runX, eff, Qb1, fpR, fpQ, fpV, Qbi, hits, evO, opv, qv, Qak, Qdp, binV, ldV, iadV, lenV, Qar, Qa5, flat, Qa2, Qa0, Qa3, ↓reduceIte, Nat.reduceEqDiff, Nat.reduceAdd, Nat.reduceLT, Nat.reduceLeDiff, Qd, Qg, Qo, Qq, Qc, Qe, Qk, Qy, Qx, Q0, Qt, Qf, Qp, Q1, Qr, Q2, endQ, rvs, rv1, resV, vw_b, Qm, Ql, Qz, Q6, Qi, Qn, Qu, Qb, Qs, decide_true, decide_false, true_and, and_true, and_self, false_and, forall_const, implies_true, Q8, Qw, beq_false, imp_self, Qh, Qa, Q3, eBox]
  by_cases b1 : (s.boils.length : Int) ≤ xb
  ·simp only [hlt, hqs, b0, b1, h18C, Qaj, Qa7, Qb5, Qa8, Qai, Qat, Qac, Qa6, Qb2, Qad, Qal, Qa4, Qa1, Fam.step, Qaf, Qb9, Qaz, ug, runX, eff, Qb1, fpR, fpQ, fpV, Qbi, hits, evO, opv, qv, Qak, Qdp, binV, ldV, iadV, lenV, Qar, Qa5, flat, Qa2, Qa0, Qa3, ↓reduceIte, Nat.reduceEqDiff, Nat.reduceAdd, Nat.reduceLT, Nat.reduceLeDiff, Qd, Qg, Qo, Qq, Qc, Qe, Qk, Qy, Qx, Q0, Qt, Qf, Qp, Q1, Qr, Q2, endQ, rvs, rv1, resV, vw_b, beq_self_eq_true, Qm, Ql, Qz, Q6, Qi, Qn, Qu, Qb, Qs, decide_true, decide_false, true_and, and_true, and_self, false_and, forall_const, implies_true, Q8, Qw, beq_false, imp_self, Qh, Qa, Q3, eBox]
  obtain ⟨y, hy⟩ : ∃ y, s.boils[xb.toNat]? = some y := ⟨_, Q9 (by omega)⟩
  have hbi : 0 ≤ xb ∧ xb < s.boils.length := by omega
  have hya : Qbd s xb = y := by have := Qk3 hbi; rw [hy] at this; exact (Option.some.inj this).symm
  have hy2 := hX.boil y (Zh hy)
  by_cases b2 : xs < 0
  ·simp only [hlt, hqs, b0, b1, b2, h18C, Qaj, Qa7, Qb5, Qa8, Qai, Qat, Qac, Qa6, Qb2, Qad, Qal, Qa4, Qa1, Fam.step, Qaf, Qb9, Qaz, ug, runX, eff, Qb1, fpR, fpQ, fpV, Qbi, hits, evO, opv, qv, Qak, Qdp, binV, ldV, iadV, lenV, Qar, Qa5, flat, Qa2, Qa0, Qa3, ↓reduceIte, Nat.reduceEqDiff, Nat.reduceAdd, Nat.reduceLT, Nat.reduceLeDiff, Qd, Qg, Qo, Qq, Qc, Qe, Qk, Qy, Qx, Q0, Qt, Qf, Qp, Q1, Qr, Q2, endQ, rvs, rv1, resV, vw_b, beq_self_eq_true, Qm, Ql, Qz, Q6, Qi, Qn, Qu, Qb, Qs, decide_true, decide_false, true_and, and_true, and_self, false_and, forall_const, implies_true, Q8, Qw, beq_false, imp_self, Qh, Qa, Q3, eBox]
  by_cases b3 : y.soak < xs
  ·simp only [hlt, hqs, b0, b1, b2, b3, hy, hbi, h18C, Qaj, Qa7, Qb5, Qa8, Qai, Qat, Qac, Qa6, Qb2, Qad, Qal, Qa4, Qa1, Fam.step, Qaf, Qb9, Qaz, ug, runX, eff, Qb1, fpR, fpQ, fpV, Qbi, hits, evO, opv, qv, Qak, binV, ldV, iadV, lenV, Qar, Qa5, flat, Qa2, Qa0, Qa3, ↓reduceIte, Nat.reduceEqDiff, Nat.reduceAdd, Nat.reduceLT, Nat.reduceLeDiff, Qd, Qg, Qo, Qq, Qc, Qe, Qk, Qy, Qx, Q0, Qt, Qf, Qp, Qv, Q1, Qr, Q2, endQ, rvs, rv1, resV, vw_b, beq_self_eq_true, Qm, Ql, Qz, Q6, Qi, Qn, Qu, Qb, Qs, decide_true, decide_false, and_true, and_self, false_and, forall_const, implies_true, Za, Q8, Qw, beq_false, imp_self, Qh, Qa, Q3, eBoil, eBox]
  by_cases b4 : xe < 0
  ·simp only [hlt, hqs, b0, b1, b2, b3, b4, hy, hbi, h18C, Qaj, Qa7, Qb5, Qa8, Qai, Qat, Qac, Qa6, Qb2, Qad, Qal, Qa4, Qa1, Fam.step, Qaf, Qb9, Qaz, ug, runX, eff, Qb1, fpR, fpQ, fpV, Qbi, hits, evO, opv, qv, Qak, binV, ldV, iadV, lenV, Qar, Qa5, flat, Qa2, Qa0, Qa3, ↓reduceIte, Nat.reduceEqDiff, Nat.reduceAdd, Nat.reduceLT, Nat.reduceLeDiff, Qd, Qg, Qo, Qq, Qc, Qe, Qk, Qy, Qx, Q0, Qt, Qf, Qp, Qv, Q1, Qr, Q2, endQ, rvs, rv1, resV, vw_b, beq_self_eq_true, Qm, Ql, Qz, Q6, Qi, Qn, Qu, Qb, Qs, decide_true, decide_false, and_true, and_self, false_and, forall_const, implies_true, Za, Q8, Qw, beq_false, imp_self, Qh, Qa, Q3, eBoil, eBox]
  by_cases b5 : y.bend < xe
  ·simp only [hlt, hqs, b0, b1, b2, b3, b4, b5, hy, hbi, h18C, Qaj, Qa7, Qb5, Qa8, Qai, Qat, Qac, Qa6, Qb2, Qad, Qal, Qa4, Qa1, Fam.step, Qaf, Qb9, Qaz, ug, runX, eff, Qb1, fpR, fpQ, fpV, Qbi, hits, evO, opv, qv, Qak, binV, ldV, iadV, lenV, Qar, Qa5, flat, Qa2, Qa0, Qa3, ↓reduceIte, Nat.reduceEqDiff, Nat.reduceAdd, Nat.reduceLT, Nat.reduceLeDiff, Qd, Qg, Qo, Qq, Qc, Qe, Qk, Qy, Qx, Q0, Qt, Qf, Qp, Qv, Q1, Qr, Q2, endQ, rvs, rv1, resV, vw_b, beq_self_eq_true, Qm, Ql, Qz, Q6, Qi, Qn, Qu, Qb, Qs, decide_true, decide_false, and_true, and_self, false_and, forall_const, implies_true, Za, Q8, Qw, beq_false, imp_self, Qh, Qa, Q3, eBoil, eBox]
  by_cases b6 : xr < 0
  ·simp only [hlt, hqs, b0, b1, b2, b3, b4, b5, b6, hy, hbi, h18C, Qaj, Qa7, Qb5, Qa8, Qai, Qat, Qac, Qa6, Qb2, Qad, Qal, Qa4, Qa1, Fam.step, Qaf, Qb9, Qaz, ug, runX, eff, Qb1, fpR, fpQ, fpV, Qbi, hits, evO, opv, qv, Qak, binV, ldV, iadV, lenV, Qar, Qa5, flat, Qa2, Qa0, Qa3, ↓reduceIte, Nat.reduceEqDiff, Nat.reduceAdd, Nat.reduceLT, Nat.reduceLeDiff, Qd, Qg, Qo, Qq, Qc, Qe, Qk, Qy, Qx, Q0, Qt, Qf, Qp, Qv, Q1, Qr, Q2, endQ, rvs, rv1, resV, vw_b, beq_self_eq_true, Qm, Ql, Qz, Q6, Qi, Qn, Qu, Qb, Qs, decide_true, decide_false, and_true, and_self, false_and, forall_const, implies_true, Za, Q8, Qw, beq_false, imp_self, Qh, Qa, Q3, eBoil, eBox]
  by_cases b7 : 7 - s.room < xr
  ·simp only [hlt, hqs, b0, b1, b2, b3, b4, b5, b6, b7, i7, hy, hbi, h18C, Qaj, Qa7, Qb5, Qa8, Qai, Qat, Qac, Qa6, Qb2, Qad, Qal, Qa4, Qa1, Fam.step, Qaf, Qb9, Qaz, ug, runX, eff, Qb1, fpR, fpQ, fpV, Qbi, hits, evO, opv, qv, Qak, binV, ldV, iadV, lenV, Qar, Qa5, flat, Qa2, Qa0, Qa3, ↓reduceIte, Nat.reduceEqDiff, Nat.reduceAdd, Nat.reduceLT, Nat.reduceLeDiff, Qd, Qg, Qo, Qq, Qc, Qe, Qk, Qy, Qx, Q0, Qt, Qf, Qp, Qv, Q1, Qr, Q2, endQ, rvs, rv1, resV, vw_b, beq_self_eq_true, Qm, Ql, Qz, Q6, Qi, Qn, Qu, Qb, decide_true, decide_false, and_self, forall_const, implies_true, Za, Q8, Qw, Qh, Qa, Q3, eBoil, eBox]
  have hb6 : s.boils.length ≤ 1000000 := by omega
  have g6 := h52o s
  simp only [eBox] at g6
  have i8 : inI (y.soak - xs) ∧ inI (y.bend - xe) ∧ inI (s.room + xr) := by unfold inI; omega
  obtain ⟨k, rfl⟩ : ∃ k : Nat, xb = (k : Int) := ⟨xb.toNat, by omega⟩
  rw [Zb] at hy
  obtain ⟨Z, hZ⟩ : ∃ Z, Z = (s.boils.map eBoil).flatten := ⟨_, rfl⟩
  have hkn : k < s.boils.length := by omega
  obtain ⟨e1, e2, e3⟩ := Qrk hy
  have hZl := Qnh s.boils
  have hZr : Qa5 Z = false := by rw [hZ]; exact Qdu (e := eBoil) (fun _ => rfl) s.boils
  rw [← hZ] at e1 hZl e3
  have e4 := e3 (y.soak - xs) (y.bend - xe)
  obtain ⟨Z1, hZ1⟩ : ∃ Z1, Z1 = Z.take (k * 2) ++ [V.i (y.soak - xs)] ++ Z.drop (k * 2 + 1) := ⟨_, rfl⟩
  have hl1 : Z1.length = s.boils.length * 2 := by rw [hZ1]; simp [hZl]; omega
  have e5 : (Z1.drop (k * 2 + 1)).headD .u = .i y.bend := by rw [hZ1]; exact (e3 (y.soak - xs) 0).1
  obtain ⟨o, ho⟩ : ∃ o, o = chX s k xs xe xr := ⟨_, rfl⟩
  obtain ⟨Z2, hZ2⟩ : ∃ Z2, Z2 = (o.boils.map eBoil).flatten := ⟨_, rfl⟩
  have e6 : Z1.take (k * 2 + 1) ++ [V.i (y.bend - xe)] ++ Z1.drop (k * 2 + 1 + 1) = Z2 := by
   rw [hZ1, hZ2, ho, e4.2]
   unfold chX
   rw [hya, Zb]
  have q1 : k * 2 + 1 ≤ s.boils.length * 2 ∧ k * 2 + 1 + 1 ≤ s.boils.length * 2 := by omega
  simp only [Qhr, Qie] at g6
  rw [← hZ] at g6
  simp only [hlt, hqs, b0, b1, b2, b3, b4, b5, b6, b7, i7, hy, hbi, g6, hb6, i8, Qao, Qdb _ _ hZr, hZl, e1, ← hZ1, hl1, e5, e6, q1, Qv5, Qaj, Qa7, Qb5, Qa8, Qai, Qat, Qa6, Qj9, ocV, nidQ, plO, plQ, plB, Qb2, optL, Qd5, Qg1, Qdr, shV, shL, shB, Qao, putB, Qad, Qal, Qa4, Qa1, Fam.step, Qaf, Qbu, Qb9, Qav, Qaz, ug, runX, eff, Qb1, fpR, fpQ, fpV, Qbi, hits, putB, nv, sv, evO, opv, qv, Qak, binV, ldV, iadV, lenV, curG, putAt, V.cells, Qaq, Qb8, Qaa, Qa5, Qa2, Qbb, Qa0, Qa3, ↓reduceIte, Nat.reduceEqDiff, Nat.reduceAdd, Nat.reduceLT, Nat.reduceLeDiff, Qd, Qg, Qo, Qq, Qc, Qe, Qk, Qy, Zk, Qj, Zf, Q4, Qx, Q0, Qt, Qf, Q5, Q7, Qp, Qv, Q1, Zd, Ze, Qr, Q2, Zg, vw_i, Qax, Qaw, beq_self_eq_true, Qm, Zq, Ql, Qz, Zl, Q6, Qi, Zm, Qn, Qu, Qb, decide_false, true_and, and_self, forall_const, implies_true, Za, Zn, Q8, Zc, Qw, Qh, Zb, Qa, Q3, eBoil, eBox]
  have o1 : o.room = s.room + xr := by rw [ho]; rfl
  have o2 : o.boils.length = s.boils.length := by rw [ho]; exact List.length_set
  have hob : o.boils = s.boils.set k ⟨y.soak - xs, y.bend - xe⟩ := by rw [ho]; unfold chX; rw [hya, Zb]
  have hXo : OkX o := by
   refine ⟨by rw [o1]; omega, by rw [o2]; exact hn7, fun b hb => ?_⟩
   rw [hob] at hb
   rcases List.mem_or_eq_of_mem_set hb with hb | rfl
   ·exact hX.boil b hb
   ·simp only; omega
  have hbo := Qgj.2 hXo
  have hOo : IsOrd o.boils.length l := by rw [o2]; exact hO
  have hBt : BettX s o := by
   refine ⟨by rw [o1]; omega, fun b => ?_⟩
   unfold Qbd
   rw [hob, Qa, Qa, List.getElem?_set]
   by_cases hkb : k = b.toNat
   ·rw [if_pos hkb, if_pos (by omega), ← hkb, hy]
    simp only [Qv]; omega
   ·rw [if_neg hkb]; omega
  have g7 := Qt3 o l
  have g8 := Qt4 o
  have dO : Qex o l = (Qbc o l, 0) := by rw [Qig]; unfold Qdf; rw [if_neg (by simpa using hbo), if_pos hOo]
  have qO : Qbs o = (Qbc o (Qd2 o), 0) := by unfold Qbs; rw [if_pos hbo]
  obtain ⟨m, hm⟩ : ∃ m, m = Qbc o l := ⟨_, rfl⟩
  obtain ⟨p, hp⟩ : ∃ p, p = Qbc o (Qd2 o) := ⟨_, rfl⟩
  rw [dO, ← hm] at g7
  rw [qO, ← hp] at g8
  simp only [eBox, o1] at g7 g8
  have hmn : m ≤ n := by rw [hm, hn]; exact Qpd hX hXo hBt l
  have hpq : p ≤ q := by
   rw [hp, hq]
   have h1 : Qbc o (Qd2 o) ≤ Qbc o (Qd2 s) := Qk2 (by rw [o2]; exact Qgh s)
   exact Int.le_trans h1 (Qpd hX hXo hBt (Qd2 s))
  have hck := Qn5 o.boils
  have hZ2l := Qnh o.boils
  have hZ2r : Qa5 Z2 = false := by rw [hZ2]; exact Qdu (e := eBoil) (fun _ => rfl) o.boils
  rw [← hZ2, o2] at hck hZ2l
  have k3 : ∀ (hp : List Blk) (n : Nat), (o.boils.map eBoil).map (fun r => r.map (vw hp (n + 1))) = o.boils.map eBoil := fun hp n => Qeh (e := eBoil) hp (n + 1) (fun _ => rfl) o.boils
  simp only [hpF, upB, upL, upV, Qea _ _ hZ2r, hZ2l, hck, k3, Zj, g7, g8, hln, hmn, hpq, h18C, Qa7, Qa8, Qac, Qa6, Qe5, ↓Qc1, cutH, Qad, Qa4, Qa1, Fam.step, Qaf, Qb9, Qaz, ug, evO, opv, qv, Qak, binV, ldV, Qar, Qaa, Qa5, flat, Qd3, cutV, Qa2, Qa0, Qa3, ↓reduceIte, Nat.reduceEqDiff, Nat.reduceAdd, Nat.reduceLT, Qd, Qg, Qo, Qq, Qc, Qe, Qy, Qj, Zf, Q4, Qt, Qf, Q5, Q7, Qv, endQ, rvs, rv1, resV, vw_i, vw_b, Qax, Qaw, Qrn, Qfv, beq_self_eq_true, Qm, Ql, Qi, Qb, Qs, decide_true, and_self, forall_const, implies_true]
end Go.C06
