import Derived.Test.YtcdgojonaloclaaG7
set_option linter.all false
open List renaming getD_eq_getElem?_getD → Qa, map_cons → Qb, map_nil → Qc, getElem?_eq_getElem → Qe, length_map → Qf, length_nil → Qg, length_cons → Qh, drop_succ_cons → Qj, headD_cons → Qk, take_succ_cons → Ql, append_nil → Qm, getElem?_cons_zero → Qp, mem_of_getElem? → Qq, drop_zero → Qt, getElem?_nil → Qu, nil_append → Qv, replicate_zero → Qw, getElem?_map → Qy, cons_append → Qz, all_nil → Q0, take_nil → Q1, contains_nil → Q5, isEmpty_nil → Q8, take_zero → Zb, all_cons → Zg, getElem?_cons_succ → Zi, any_nil → Zj, set_cons_zero → Zk, range → Zl, contains_cons → Zq, take_of_length_le → Zr, getElem?_append_right → Zs, replicate_succ → Zt, foldl_nil → Zv, take_length → Zx, flatten_nil → Zy, foldl_append → Zz, length_take → Z2, all_eq_true → Z6, drop_eq_getElem_cons → Z7, getElem?_append_left → Z8, map_append → Xa, range_succ → Xb, length_append → Xc, flatten_cons → Xe, append_assoc → Xf, replicate → Xi, isEmpty_cons → Xj, length_pos_iff → Xl, mem_range → Xn, mem_or_eq_of_mem_set → Xo, drop_nil → Xq, any_cons → Xr, range_zero → Xt, foldl_cons → Xu, mem_append → Xv, length_set → Xw, getElem?_of_mem → Xx, flatten_append → Xz, filter_eq_self → X0, set_cons_succ → X2, filter_congr → X4, mem_map → X5, drop → X7, filter_nil → X9, mem_filter → Ja, nil_prefix → Jb
open Nat renaming zero_add → Qi, mul_one → Zp, le_refl → Zw, add_sub_cancel → Xd, sub_self → Xm, mod_lt → Xs, add_zero → X3, mod_eq_of_lt → X8
open Bool renaming false_eq_true → Qd, or_false → Qn, and_self → Qx, not_eq_true' → Q3, and_true → Q4, false_and → Za, not_false → Zc, not_true → Ze, and_eq_true → Zf, not_eq_true → Zm, or_eq_false_iff → Zn, or_eq_true → Zu, false_or → Z0, decide_eq_true → Z1, not_eq_false → Z4, true_and → Z9, and_false → Xy, not_eq_false' → X1, eq_false_iff → X6
open Option renaming getD_some → Qo, getD_none → Q7, map_some → Zd, some → Xp
open Int renaming natCast_add → Qr, natCast_one → Qs, lt_irrefl → Q2, natCast_zero → Q6, toNat_natCast → Q9, natCast_nonneg → Zh, tmod_eq_emod_of_nonneg → Zo, emod_sub_emod → Z3, tdiv_eq_ediv_of_nonneg → Z5, sub_emod_emod → Xg, emod_eq_of_lt → Xh, natCast_emod → Xk
set_option linter.unusedSimpArgs false
set_option linter.unusedVariables false
namespace Go.C02
open Go.Fam Go.Proofs
def maxL : List Int → Int
 | [] => 0
 | x :: l => l.foldl max x
theorem maxL_snoc {l : List Int} (h : l ≠ []) (x : Int) : maxL (l ++ [x]) = max (maxL l) x := by
 cases l with
 | nil => exact absurd rfl h
 | cons a l => simp [maxL]
theorem W59 (l : List Int) (h : l ≠ []) (hl : l.length < 10000000) : PureCall Try.prog 59 [.sl 1 (l.map eI)] (.i (maxL l)) := by
 refine pure_body okH13 hmix Try.func59 cb59 cc59 cs59 cn59 ?_
 have hpos : 0 < l.length := Xl.2 h
 obtain ⟨x0, hx0⟩ : ∃ x, l[0]? = some x := ⟨_, Qe hpos⟩
 have h1 : ¬ ((l.length : Int) < 1) := by omega
 have h2 : (0 : Int) < l.length := by omega
 simp only [rc59, rs59, h1, h2, hx0, ru_skip, ru_reg, ru_seq, ru_cnd, ru_block, ru_keep, thenQ, run_nil, run_cons, Fam.step, stepQ, evO, opv, qv, binV, ldV, iadV, lenV, upd_some, lkp_cons, lkp_nil, ↓reduceIte, Nat.reduceEqDiff, Nat.reduceLeDiff, Int.toNat_zero, Int.reduceLE, Qb, Qc, Qh, Qg, Qk, Qo, zipA, Qi, Qd, decide_false, true_and, and_self, reduceCtorEq, Zd, Qf, Qa, Qy, eI]
 refine ru_count (l.length - 1) (fun i => ⟨lkp [(0, .sl 1 (l.map eI)), (3, .i (maxL (l.take (i + 1)))), (4, .i ((i : Int) + 1))], []⟩) ?_ ?_ ?_
 ·have : l.take 1 = [x0] := by rw [show (1 : Nat) = 0 + 1 from rfl, take_succ_of hx0]; rfl
  simp only [Q6, this, maxL, Zv, Zv, kp, lkp_cons, lkp_nil, ↓reduceIte, Nat.reduceEqDiff, Int.reduceAdd, Qb, Qc, Qi, reduceCtorEq]
 ·intro i hi
  obtain ⟨x, hx⟩ : ∃ x, l[i + 1]? = some x := ⟨_, Qe (by omega)⟩
  have hlt : (i : Int) + 1 < l.length := by omega
  have h3 : inI ((i : Int) + 1 + 1) := by unfold inI; omega
  have h4 : (0 : Int) ≤ (i : Int) + 1 := by omega
  have h5 : ((i : Int) + 1).toNat = i + 1 := by omega
  have h6 : l.take (i + 1) ≠ [] := by
   intro e
   have := congrArg List.length e
   rw [Z2, Qg] at this
   omega
  simp only [hlt, h3, h4, h5, hx, take_succ_of hx, maxL_snoc h6, Qr, Qs, ru_skip, ru_reg, ru_seq, ru_cnd, ru_block, ru_keep, thenQ, blockQ, run_nil, run_cons, Fam.step, stepQ, evO, opv, qv, binV, ldV, iadV, lenV, kp, upd_some, lkp_cons, lkp_nil, ↓reduceIte, Nat.reduceEqDiff, Nat.reduceLeDiff, Qb, Qc, Qh, Qg, Qk, Qo, Qi, Qd, decide_true, and_self, reduceCtorEq, Zd, Qf, Qa, Qy, eI]
 ·have h3 : ¬ (((l.length - 1 : Nat) : Int) + 1 < l.length) := by omega
  have h4 : l.take (l.length - 1 + 1) = l := Zr (by omega)
  simp only [h3, h4, ru_reg, ru_seq, ru_cnd, ru_exit, ru_ret, ru_keep, thenQ, blockQ, run_nil, run_cons, Fam.step, stepQ, evO, opv, qv, binV, lenV, upd_some, lkp_cons, lkp_nil, ↓reduceIte, Nat.reduceEqDiff, Qb, Qc, endQ, rvs, rv1, resV, vw_i, Qd, decide_false, and_self, reduceCtorEq, Qf]
def s59 : List V → Prop × V | [.sl 1 r] => (r = (r.map dI).map eI ∧ r ≠ [] ∧ r.length < 10000000, .i (maxL (r.map dI))) | _ => (False, .u)
theorem s59_ok (vs : List V) (h : (s59 vs).1) : PureCall Try.prog 59 vs (s59 vs).2 := by
 unfold s59 at h ⊢
 split at h
 ·rename_i r
  obtain ⟨h1, h2, h3⟩ := h
  have := W59 (r.map dI) (by simpa using h2) (by simpa using h3)
  rw [← h1] at this
  exact this
 ·exact h.elim
def planP (f : Fig) : V := if figCheck f ≠ 0 then .tp [.sl 1 [], .i (figCheck f)] else .tp [.sl 1 ((planN f.times).map eI), .i 0]
theorem chunk_i (l : List Int) : chunk 1 (l.map V.i) 0 l.length = l.map eI := by
 have := chunk_I l
 have e : (l.map eI).flatten = l.map V.i := by
  clear this
  induction l with
  | nil => rfl
  | cons a l ih => rw [Qb, Xe, ih]; rfl
 rwa [e] at this
theorem planP_eq (f : Fig) : vw (planH f) 8 (planR f) = planP f := by
 unfold planH planR planP
 by_cases h : figCheck f = 0
 ·have e := chunk_i (planN f.times)
  rw [planN_len] at e
  simp only [h, ne_eq, not_true_eq_false, if_false]
  simp only [e, Qf, planN_len, Zp, Zw, Qi, ↓reduceIte, Qb, Qc, Qp, vw_i, vw_tp, vw_rf, Qi, and_self, Qf]
  simp only [eI, List.map_map, Function.comp_def, Qb, Qc]
  rfl
 ·simp only [h, ne_eq, not_false_eq_true, if_true]
  rfl
theorem W35p (f : Fig) : PureCall Try.prog 35 [.ag (eFig f)] (planP f) := by
 have := (W35 f).toPure
 rwa [planP_eq] at this
def decF : List V → Fig := fun vs => match vs with | [.ag r] => dFig r | _ => dFig []
def s35 : List V → Prop × V := fnG (fun f => [.ag (eFig f)]) decF (fun _ => True) (fun f => f) planP
def s35o : List V → Prop × V := fnG (fun f => [.ag (eFig f)]) decF (fun _ => True) (fun f => f) (fun f => .tp [planR f, .tp ((planH f).map bV)])
noncomputable def H14 : Gam := ((H13.ext 59 s59).ext 35 s35).ext 1000035 s35o
theorem planH_vB (f : Fig) : ((planH f).map bV).map vB = planH f := by
 unfold planH
 split
 ·rfl
 ·simp [vB_cells]
theorem okH14 : GOk Try.prog H14 := by
 have k1 := okH13.ext (f := 59) (r := s59) (fun a w => Try.call59 a w) s59_ok
 have k2 := k1.ext (f := 35) (r := s35) (fun a w => Try.call35 a w) (fnG_ok fun f _ => W35p f)
 refine k2.extO (f := 35) (r := s35o) (fun a w => Try.call35 a w) fun vs v bs h e => ?_
 obtain ⟨h1, _⟩ := h
 have h1 : [V.ag (eFig (decF vs))] = vs := h1
 have e : V.tp [planR (decF vs), .tp ((planH (decF vs)).map bV)] = V.tp [v, .tp bs] := e
 simp only [V.tp.injEq, List.cons.injEq, and_true] at e
 obtain ⟨rfl, rfl⟩ := e
 rw [planH_vB, ← h1]
 have := W35 (decF vs)
 rw [h1]
 rw [h1] at this
 exact this
theorem k35o (f : Fig) : H14 1000035 [.ag (eFig f)] = (True, .tp [planR f, .tp ((planH f).map bV)]) :=
 (show H14 1000035 _ = s35o [.ag (eFig f)] from rfl).trans (fnG_at _ (dFig_e _))
theorem k59 (l : List Int) : H14 59 [.sl 1 (l.map eI)] = (l ≠ [] ∧ l.length < 10000000, .i (maxL l)) := by
 refine (show H14 59 _ = s59 [.sl 1 (l.map eI)] from rfl).trans ?_
 simp [s59, map_de dI_eI]
def endsN (t b : List Int) : List Int := List.zipWith (· + ·) b t
def soonR (f : Fig) : Int × Int := if figCheck f ≠ 0 then (0, figCheck f) else (maxL (endsN f.times (planN f.times)), 0)
theorem begF_in {t : List Int} (h : OkT t) : ∀ (k f c : Nat) (out : List Int), c ≤ 16 → (∀ x ∈ out, 0 ≤ x ∧ x ≤ 1584) → ∀ x ∈ begF k t f c out, 0 ≤ x ∧ x ≤ 1584 := by
 intro k
 induction k with
 | zero => intro f c out _ ho; exact ho
 | succ k ih =>
  intro f c out hc ho
  simp only [begF]
  split
  ·exact ho
  ·rename_i h0
   have hl := last_lt (t := t) (f := f) h0
   refine ih _ _ _ (by omega) (ih _ _ _ (by omega) fun x hx => ?_)
   rcases Xo hx with hx | rfl
   ·exact ho x hx
   ·have d1 := Dn_seg h (f := f) (m := lastOf (seg t f c)) (by omega)
    have d2 := Dn_seg h (f := (f + lastOf (seg t f c) + 1) % t.length) (m := c - lastOf (seg t f c) - 1) (by omega)
    omega
theorem planN_in {t : List Int} (h : OkT t) : ∀ x ∈ planN t, 0 ≤ x ∧ x ≤ 1584 := by
 unfold planN begN
 refine begF_in h _ _ _ _ (by have := h.2.1; omega) fun x hx => ?_
 rcases Xo hx with hx | rfl
 ·have := (List.mem_replicate.1 hx).2; omega
 ·exact Dn_seg h (by have := h.2.1; omega)
theorem endsN_len {t b : List Int} (h : b.length = t.length) : (endsN t b).length = t.length := by simp [endsN, h]
theorem endsN_get {t b : List Int} {k : Nat} {x y : Int} (hx : t[k]? = some x) (hy : b[k]? = some y) : (endsN t b)[k]? = some (y + x) := by simp [endsN, List.getElem?_zipWith, hx, hy]
theorem W26 (f : Fig) : PureCall Try.prog 26 [.ag (eFig f)] (.tp [.i (soonR f).1, .i (soonR f).2]) := by
 refine pure_body okH14 hmix Try.func26 N.cb26 N.cc26 N.cs26 N.cn26 ?_
 have g1 := k35o f
 unfold eFig at g1
 by_cases h : figCheck f = 0
 ·have hpl : planR f = .tp [.rf 0 0 0 f.times.length 1, .i 0] := by rw [planR, if_neg (by omega)]
  have hph : planH f = [.cells 0 ((planN f.times).map V.i)] := by rw [planH, if_neg (by omega)]
  rw [hpl, hph] at g1
  have hT := okT_of h
  obtain ⟨t, ht⟩ : ∃ t, t = f.times := ⟨_, rfl⟩
  simp only [← ht] at g1 hT ⊢
  have hlen := hT.1
  have hlen2 := hT.2.1
  have nrO : ∀ o : List Int, hasRefL (o.map V.i) = false := fun o => by induction o <;> simp_all [hasRefL, hasRef]
  simp only [N.rc26, N.rs26, g1, ← ht, shL_noref _ _ (nrO _), ru_skip, ru_reg, ru_seq, ru_cnd, ru_block, ru_keep, stepO, ocV, nidQ, plO, plQ, plB, rflat, rflatL, rflatB, shV, shL, shB, vB_cells, thenQ, run_nil, run_cons, Fam.step, stepQ, needW, evO, opv, qv, binV, ldV, lenV, V.cells, solid, hasRef, hasRefL, upd_some, lkp_cons, lkp_nil, ↓reduceIte, Nat.reduceEqDiff, Nat.reduceAdd, Nat.reduceLT, Nat.reduceLeDiff, Qb, Qc, Zg, Q0, Qh, Qg, Qj, Qt, Ql, Q1, Qk, Qv, Qm, Qp, Zi, Qo, vw_i, vw_sl, vw_ag, zipA, Qi, X3, Qx, Q4, Z9, Za, Qn, Ze, Qd, decide_true, true_and, and_self, Qf, eFig]
  refine ru_count t.length (fun k => ⟨lkp [(4, .rf 0 0 0 t.length 1), (17, .sl 1 (t.map eI)), (18, .i t.length), (19, .i k)], [.cells 0 ((((endsN t (planN t)).take k) ++ (planN t).drop k).map V.i)]⟩) ?_ ?_ ?_
  ·simp only [Q6, kp, lkp_cons, lkp_nil, ↓reduceIte, Nat.reduceEqDiff, Qb, Qc, Qt, Zb, Qv]
  ·intro k hk
   obtain ⟨x, hx⟩ : ∃ x, t[k]? = some x := ⟨_, Qe hk⟩
   obtain ⟨y, hy⟩ : ∃ y, (planN t)[k]? = some y := ⟨_, Qe (by rw [planN_len]; exact hk)⟩
   have hx1 := hT.2.2 x (Qq hx)
   have hy1 := planN_in hT y (Qq hy)
   have hlt : (k : Int) < t.length := by omega
   have i1 : inI ((k : Int) + 1) := by unfold inI; omega
   have i2 : inI (y + x) := by unfold inI; omega
   obtain ⟨pre, hpre⟩ : ∃ pre, pre = ((endsN t (planN t)).take k).map V.i := ⟨_, rfl⟩
   obtain ⟨post, hpost⟩ : ∃ post, post = ((planN t).drop (k + 1)).map V.i := ⟨_, rfl⟩
   have hpl : pre.length = k := by rw [hpre, Qf, Z2, endsN_len (planN_len t)]; omega
   have e1 : (((endsN t (planN t)).take k) ++ (planN t).drop k).map V.i = pre ++ V.i y :: post := by
    rw [Xa, ← hpre, Z7 (by rw [planN_len]; exact hk), Qb, ← hpost]
    rw [Qe (by rw [planN_len]; exact hk)] at hy
    rw [Xp.inj hy]
   have e2 : (((endsN t (planN t)).take (k + 1)) ++ (planN t).drop (k + 1)).map V.i = pre ++ V.i (y + x) :: post := by
    rw [take_succ_of (endsN_get hx hy), Xa, Xa, ← hpre, ← hpost]; simp
   rw [e1, e2]
   have hget : ∀ x : V, (pre ++ x :: post)[k]? = some x := fun x => by rw [Zs (by omega), hpl, Xm]; rfl
   have hdrop : ∀ x : V, X7 k (pre ++ x :: post) = x :: post := fun x => by simp [hpl]
   have htake : ∀ x : V, List.take k (pre ++ x :: post) = pre := fun x => List.take_left' hpl
   have hdrop1 : ∀ x : V, X7 (k + 1) (pre ++ x :: post) = post := fun x => by simp [List.drop_append, hpl]
   simp only [hlt, hx, i1, Zp, hdrop, htake, hdrop1, i2, Qr, Qs, Xf, Xc, hpl, ru_skip, ru_reg, ru_seq, ru_cnd, ru_block, ru_keep, putB, thenQ, blockQ, run_nil, run_cons, Fam.step, stepQ, stepW, needW, putB, nv, sv, evO, opv, qv, binV, ldV, iadV, putAt, V.cells, solid, cellOk, kp, upd_some, upd_none, lkp_cons, lkp_nil, ↓reduceIte, Nat.reduceEqDiff, Nat.reduceLeDiff, Qb, Qc, Zg, Q0, Qh, Qg, Qk, Qz, Qv, Qp, Qo, Zk, Zh, Qi, Qx, Qd, decide_true, true_and, and_true, and_self, Zd, Qf, Q9, Qa, Qy, eI]
   omega
  ·have e3 : (((endsN t (planN t)).take t.length) ++ (planN t).drop t.length) = endsN t (planN t) := by
    rw [Zr (by rw [endsN_len (planN_len t)]; omega), List.drop_of_length_le (by rw [planN_len]; omega), Qm]
   rw [e3]
   have g2 := k59 (endsN t (planN t))
   have hc := chunk_i (endsN t (planN t))
   rw [endsN_len (planN_len t)] at g2 hc
   simp only [Q2, Zp, Qf, endsN_len (planN_len t), Zw, hc, vw_I, g2, soonR, h, ← ht, ru_reg, ru_seq, ru_cnd, ru_exit, ru_ret, ru_keep, thenQ, blockQ, run_nil, run_cons, Fam.step, stepQ, evO, opv, qv, binV, ldV, callV, hasRef, hasRefL, flat, upd_some, lkp_cons, lkp_nil, ↓reduceIte, Nat.reduceEqDiff, Nat.reduceLT, Qb, Qc, Qm, Qp, endQ, rvs, rv1, resV, vw_i, vw_tp, vw_rf, Q2, Qi, Qn, Qd, decide_false, true_and, and_true, and_self, forall_const, not_true_eq_false, ne_eq, Qf]
   exact ⟨fun e => by have := endsN_len (planN_len t); rw [e] at this; simp at this; omega, by omega⟩
 ·have hpl : planR f = .tp [.z 1, .i (figCheck f)] := by rw [planR, if_pos (by omega)]
  have hph : planH f = [] := by rw [planH, if_pos (by omega)]
  rw [hpl, hph] at g1
  simp only [N.rc26, N.rs26, g1, h, soonR, ru_reg, ru_seq, ru_cnd, ru_ret, ru_keep, stepO, ocV, nidQ, plO, plB, rflat, rflatL, shV, shL, thenQ, run_nil, run_cons, Fam.step, stepQ, needW, evO, opv, qv, binV, ldV, V.cells, solid, hasRef, hasRefL, upd_some, lkp_cons, lkp_nil, ↓reduceIte, Nat.reduceEqDiff, Nat.reduceAdd, Nat.reduceLT, Nat.reduceLeDiff, Qb, Qc, Q0, Qh, Qg, Ql, Q1, Qm, Qp, Zi, Qu, Qo, endQ, rvs, rv1, resV, vw_i, vw_sl, vw_ag, vw_tp, zipA, Qi, Qx, Qn, Ze, Zc, decide_false, and_self, not_false_eq_true, ne_eq, eFig]
end Go.C02
set_option linter.unusedSimpArgs false
set_option linter.unusedVariables false
namespace Go.C02
open Go.Fam Go.Proofs
theorem q58 (d : Dome) : H14 58 [.ag (eDome d)] = (True, .i (check d)) := gR39 d.bolts d.gores d.loss d.rounds d.widths d.slope
theorem q52 (l : List Int) (m lo up : Int) : H14 52 [.sl 1 (l.map eI), .i m, .i lo, .i up] = (l.length < 10000000, .b (allN l m lo up)) := h52 l m lo up
theorem allN_eq (l : List Int) (m : Nat) (lo up : Int) : allN l m lo up = (decide (l.length = m) && l.all fun x => within x lo up) := by
 unfold allN
 rw [Bool.and_comm]
 simp [Int.natCast_inj]
theorem W25 (f : Fig) (hs : f.starts.length < 10000000) (ht : f.times.length < 10000000) : PureCall Try.prog 25 [.ag (eFig f)] (.i (figCheck f)) := by
 refine pure_body okH14 hmix Try.func25 cb25 cc25 cs25 cn25 ?_
 have g1 := q58 f.dome
 unfold eDome at g1
 simp only [rc25, rs25, g1, q52, ru_skip, ru_reg, ru_seq, ru_cnd, ite_P, ru_ret, ru_keep, thenQ, run_nil, run_cons, Fam.step, stepQ, needQ, condB, ug, evO, opv, qv, pickV_bb, binV, ldV, lenV, callV, V.cells, solid, hasRef, hasRefL, flat, upd_some, lkp_cons, lkp_nil, ↓reduceIte, Nat.reduceEqDiff, Nat.reduceAdd, Nat.reduceLT, Nat.reduceLeDiff, Int.reduceEq, Qb, Qc, Zg, Q0, Qh, Qg, Qj, Qt, Ql, Zb, Qk, Qm, endQ, rvs, rv1, resV, vw_i, vw_sl, vw_ag, zipA, Qi, V.i.injEq, Qx, Q4, Qn, Qd, decide_eq_true_eq, decide_eq_false_iff_not, true_and, and_true, and_self, implies_true, not_false_eq_true, ne_eq, beq_false, Q3, ite_t, Z1, imp_self, Qf, Zm, Classical.not_not, eFig]
 refine ⟨fun h => by simp [figCheck, h], fun h => ?_⟩
 have key : (decide (f.period < 1) || decide (60 < f.period) || decide (f.run < 0) || decide (2000 < f.run) || decide (f.near < 0) || decide (f.period.tdiv 2 < f.near) || !allN f.starts f.dome.gores.length 0 (f.period - 1) || !allN f.times f.dome.gores.length 1 99) = !goodFig f := by
  unfold goodFig
  rw [allN_eq, allN_eq]
  generalize (f.starts.all fun x => within x 0 (f.period - 1)) = A
  generalize (f.times.all fun x => within x 1 99) = B
  unfold within
  rw [Bool.eq_iff_iff]
  cases A <;> cases B <;> simp <;> omega
 rw [key]
 refine ⟨fun e => ⟨e, ?_⟩, fun e => ⟨e, ?_⟩, fun e => ⟨e, hs⟩, fun e => ⟨e, ht⟩, fun e => ?_, fun e => ?_⟩
 ·simp only [Zn, decide_eq_false_iff_not] at e
  rw [Z5 (by omega)]
  unfold inI; omega
 ·simp only [Zn, decide_eq_false_iff_not] at e
  unfold inI; omega
 ·simp only [Q3] at e
  simp [figCheck, h, e]
 ·simp only [X1] at e
  simp [figCheck, h, e]
theorem q86 (d : Dome) (n : Int) : H14 86 [.ag (eDome d), .i n] = (d.bolts.length < 1000, eLE (stretchesR d n)) :=
 (show H14 86 _ = r36 (eDN (d, n)) from rfl).trans (fnG_at _ (dDN_e _))
noncomputable def H15 : Gam := H14.ext 25 (fnG (fun f => [.ag (eFig f)]) decF (fun f => f.starts.length < 10000000 ∧ f.times.length < 10000000) figCheck .i)
theorem okH15 : GOk Try.prog H15 := okH14.ext (f := 25) (fun a w => Try.call25 a w) (fnG_ok fun f h => W25 f h.1 h.2)
theorem q25 (f : Fig) : H15 25 [.ag (eFig f)] = (f.starts.length < 10000000 ∧ f.times.length < 10000000, .i (figCheck f)) :=
 (show H15 25 _ = fnG (fun f => [.ag (eFig f)]) decF (fun f => f.starts.length < 10000000 ∧ f.times.length < 10000000) figCheck .i [.ag (eFig f)] from rfl).trans (fnG_at _ (dFig_e _))
theorem q86' (d : Dome) (n : Int) : H15 86 [.ag (eDome d), .i n] = (d.bolts.length < 1000, eLE (stretchesR d n)) := q86 d n
theorem bolt0 {d : Dome} (h : Valid d) : isBoltOf d 0 = true := by
 have := h.nb
 have hg := h.ng
 obtain ⟨g, hgm⟩ : ∃ g, g ∈ d.gores := by
  cases hd : d.gores with
  | nil => rw [hd] at hg; simp at hg
  | cons a l => exact ⟨a, by simp⟩
 have := h.gores g hgm
 simp only [isBoltOf, within, Zf, decide_eq_true_eq]
 omega
theorem W61 (f : Fig) (seam : Int) (hs : f.starts.length < 10000000) (ht : f.times.length < 10000000) : PureCall Try.prog 61 [.ag (eFig f), .i seam] (.i (openE f (within seam 0 (f.dome.gores.length - 1)))) := by
 refine pure_body okH15 hmix Try.func61 cb61 cc61 cs61 cn61 ?_
 have g1 := q25 f
 have g2 := q86' f.dome 0
 unfold eFig at g1
 unfold eDome at g2
 simp only [rc61, rs61, g1, ru_skip, ru_reg, ru_seq, ru_cnd, ite_P, ru_ret, ru_keep, thenQ, run_nil, run_cons, Fam.step, stepQ, needQ, condB, ug, evO, opv, qv, pickV_bb, binV, ldV, lenV, callV, V.cells, solid, hasRef, hasRefL, flat, upd_some, lkp_cons, lkp_nil, ↓reduceIte, Nat.reduceEqDiff, Nat.reduceAdd, Nat.reduceLT, Nat.reduceLeDiff, Qb, Qc, Zg, Q0, Qh, Qg, Qj, Qt, Ql, Zb, Q1, Qk, Qm, endQ, rvs, rv1, resV, vw_i, vw_sl, vw_ag, zipA, Qi, V.i.injEq, Qx, Q4, Qn, Qd, decide_eq_true_eq, decide_eq_false_iff_not, true_and, and_true, and_self, false_implies, implies_true, reduceCtorEq, beq_false, Q3, ite_t, imp_self, Qf, Zm, Classical.not_not, eFig]
 refine ⟨⟨hs, ht⟩, fun h => by simp [openE, h], fun h => ?_⟩
 have hv := validF_of h
 have hn := hv.ns
 have hb := bolt0 hv.dome
 rw [stretchesR, hb] at g2
 refine ⟨fun e => ?_, fun e => ?_⟩
 ·have : within seam 0 (f.dome.gores.length - 1) = false := by
   simp only [Zu, decide_eq_true_eq] at e
   simp only [within, Bool.and_eq_false_iff, decide_eq_false_iff_not]; omega
  simp [openE, h, this]
 ·have : within seam 0 (f.dome.gores.length - 1) = true := by
   simp only [Zn, decide_eq_false_iff_not] at e
   simp only [within, Zf, decide_eq_true_eq]; omega
  have hnb := hv.dome.nb
  by_cases hp : pitchE f.dome true = 0
  ·rw [if_pos hp] at g2
   simp only [g2, eLE, Nat.reduceAdd, Nat.reduceLT, Qh, Qg, Qp, Zi, Qo, vw_i, Qi, V.i.injEq, true_and]
   simp [openE, h, this, hp]; omega
  ·rw [if_neg hp] at g2
   simp only [g2, eLE, Nat.reduceAdd, Nat.reduceLT, Qc, Qh, Qg, Qp, Zi, Qo, vw_i, Qi, V.i.injEq, true_and]
   simp [openE, h, this]; omega
def nearF (f : Fig) (a b : Int) : Bool := decide (farN f.period a b ≤ f.near)
theorem q71 (a n : Int) : H15 71 [.i a, .i n] = (0 < n ∧ n ≤ 1000000, .i (modN a n)) := rfl
theorem W73 (f : Fig) (a b : Int) (hp : 0 < f.period ∧ f.period ≤ 1000000) (ha : tame 100000000 a) (hb : tame 100000000 b) : PureCall Try.prog 73 [.ag (eFig f), .i a, .i b] (.b (nearF f a b)) := by
 refine pure_body okH15 hmix Try.func73 cb73 cc73 cs73 cn73 ?_
 unfold tame at ha hb
 simp only [rc73, rs73, q71, ru_reg, ru_any, ru_seq, ru_ret, ru_keep, putBs, thenQ, run_nil, run_cons, Fam.step, stepQ, runX, eff, nextD, fpR, fpQ, fpV, disjB, hits, evO, opv, qv, binV, ldV, callV, V.cells, solid, hasRef, hasRefL, flat, upd_some, lkp_cons, lkp_nil, ↓reduceIte, Nat.reduceEqDiff, Nat.reduceAdd, Nat.reduceLT, Nat.reduceLeDiff, Qb, Qc, Q0, Qh, Qg, Qj, Qt, Qk, Qz, Qv, Qm, Qu, Q7, Qw, Q8, endQ, rvs, rv1, resV, vw_i, vw_b, vw_sl, vw_ag, zipA, Qi, V.b.injEq, Qx, Q4, Za, Qn, Ze, Zc, Qd, true_and, and_true, and_self, implies_true, reduceCtorEq, Zj, Q5, Qa, eFig]
 exact ⟨by unfold inI; omega, hp, by unfold inI; omega, hp, rfl⟩
def eFNN (a : Fig × Int × Int) : List V := [.ag (eFig a.1), .i a.2.1, .i a.2.2]
def dFNN : List V → Fig × Int × Int | [.ag r, .i n, .i m] => (dFig r, n, m) | _ => (dFig [], 0, 0)
theorem dFNN_e (a : Fig × Int × Int) : dFNN (eFNN a) = a := by obtain ⟨r, n, m⟩ := a; simp [dFNN, eFNN, dFig_e]
def eFN (a : Fig × Int) : List V := [.ag (eFig a.1), .i a.2]
def dFN : List V → Fig × Int | [.ag r, .i n] => (dFig r, n) | _ => (dFig [], 0)
theorem dFN_e (a : Fig × Int) : dFN (eFN a) = a := by obtain ⟨r, n⟩ := a; simp [dFN, eFN, dFig_e]
def s73 : List V → Prop × V := fnG eFNN dFNN (fun a => (0 < a.1.period ∧ a.1.period ≤ 1000000) ∧ tame 100000000 a.2.1 ∧ tame 100000000 a.2.2) (fun a => nearF a.1 a.2.1 a.2.2) .b
def s61 : List V → Prop × V := fnG eFN dFN (fun a => a.1.starts.length < 10000000 ∧ a.1.times.length < 10000000) (fun a => openE a.1 (within a.2 0 (a.1.dome.gores.length - 1))) .i
noncomputable def H16 : Gam := (H15.ext 61 s61).ext 73 s73
theorem okH16 : GOk Try.prog H16 := by
 have k1 := okH15.ext (f := 61) (r := s61) (fun a w => Try.call61 a w) (fnG_ok fun a h => W61 a.1 a.2 h.1 h.2)
 exact k1.ext (f := 73) (r := s73) (fun a w => Try.call73 a w) (fnG_ok fun a h => W73 a.1 a.2.1 a.2.2 h.1 h.2.1 h.2.2)
theorem q61 (f : Fig) (n : Int) : H16 61 [.ag (eFig f), .i n] = (f.starts.length < 10000000 ∧ f.times.length < 10000000, .i (openE f (within n 0 (f.dome.gores.length - 1)))) :=
 (show H16 61 _ = s61 (eFN (f, n)) from rfl).trans (fnG_at _ (dFN_e _))
theorem q73 (f : Fig) (a b : Int) : H16 73 [.ag (eFig f), .i a, .i b] = ((0 < f.period ∧ f.period ≤ 1000000) ∧ tame 100000000 a ∧ tame 100000000 b, .b (nearF f a b)) :=
 (show H16 73 _ = s73 (eFNN (f, a, b)) from rfl).trans (fnG_at _ (dFNN_e _))
theorem q71' (a n : Int) : H16 71 [.i a, .i n] = (0 < n ∧ n ≤ 1000000, .i (modN a n)) := rfl
theorem q72' (l s : Int) : H16 72 [.i l, .i s] = (tame 1000000 l ∧ tame 1000000 s, .i (pull l s)) := rfl
def atL (l : List Int) (k : Int) : Int := l[k.toNat]?.getD 0
def meetsBy (f : Fig) (starts : List Int) (seam s : Int) : Bool := nearF f (modN (atL starts seam + pull f.run s) f.period) (atL starts ((seam + 1).tmod starts.length))
theorem atL_get {l : List Int} {k : Int} (h : 0 ≤ k ∧ k < l.length) : l[k.toNat]? = some (atL l k) := by
 unfold atL
 rw [Qe (show k.toNat < l.length by omega)]; rfl
structure Ok39 (f : Fig) (l : List Int) (seam s : Int) : Prop where
 p : 1 ≤ f.period ∧ f.period ≤ 60
 run : 0 ≤ f.run ∧ f.run ≤ 2000
 s : 0 ≤ s ∧ s ≤ 1000
 seam : 0 ≤ seam ∧ seam < l.length
 len : l.length ≤ 100000
 l : ∀ x ∈ l, tame 1000000 x
theorem pull_bound {l s : Int} (hl : 0 ≤ l ∧ l ≤ 2000) (hs : 0 ≤ s ∧ s ≤ 1000) : 0 ≤ pull l s ∧ pull l s ≤ 4000 := by
 have m1 : 0 ≤ l * (1000 + s) := Int.mul_nonneg hl.1 (by omega)
 have m2 : l * (1000 + s) ≤ 2000 * 2000 := Int.mul_le_mul hl.2 (by omega) (by omega) (by omega)
 unfold pull
 rw [Z5 m1]
 omega
theorem W39 (f : Fig) (l : List Int) (seam s : Int) (h : Ok39 f l seam s) : PureCall Try.prog 39 [.ag (eFig f), .sl 1 (l.map eI), .i seam, .i s] (.b (meetsBy f l seam s)) := by
 refine pure_body okH16 hmix Try.func39 cb39 cc39 cs39 cn39 ?_
 have hn := next_in h.seam
 have e1 := atL_get h.seam
 have e2 := atL_get hn
 have b1 := h.l _ (Qq e1)
 have b2 := h.l _ (Qq e2)
 have b3 := pull_bound h.run h.s
 have hp := h.p
 have hl := h.len
 have hsm := h.seam
 have hm := modN_in (a := atL l seam + pull f.run s) (p := f.period) (by omega)
 unfold tame at b1 b2
 have g1 := q73 f (modN (atL l seam + pull f.run s) f.period) (atL l ((seam + 1).tmod l.length))
 unfold eFig at g1
 simp only [rc39, rs39, q71', q72', e1, e2, h.seam.1, h.seam.2, hn.1, hn.2, g1, ru_reg, ru_any, ru_seq, ru_ret, ru_keep, putBs, thenQ, run_nil, run_cons, Fam.step, stepQ, runX, eff, nextD, fpR, fpQ, fpV, disjB, hits, evO, opv, qv, binV, ldV, iadV, lenV, callV, V.cells, solid, hasRef, hasRefL, flat, upd_some, lkp_cons, lkp_nil, ↓reduceIte, Nat.reduceEqDiff, Nat.reduceAdd, Nat.reduceLT, Nat.reduceLeDiff, Qb, Qc, Q0, Qh, Qg, Qj, Qt, Ql, Q1, Qk, Qz, Qv, Qm, Qu, Qo, Q7, Qw, Q8, endQ, rvs, rv1, resV, vw_i, vw_b, vw_sl, vw_ag, zipA, Qi, V.b.injEq, Qx, Q4, Za, Qn, Ze, Zc, Qd, true_and, and_true, and_self, implies_true, reduceCtorEq, ne_eq, Zd, Zj, Q5, Qf, Qa, Qy, eI, eFig]
 have hr := h.run
 have hs := h.s
 exact ⟨⟨by unfold tame; omega, by unfold tame; omega⟩, by unfold inI; omega, by omega, by unfold inI; omega, by omega, ⟨by omega, by unfold tame; omega, by unfold tame; omega⟩, rfl⟩
end Go.C02
set_option linter.unusedSimpArgs false
set_option linter.unusedVariables false
namespace Go.C02
open Go.Fam Go.Proofs
def eFLNN (a : Fig × List Int × Int × Int) : List V := [.ag (eFig a.1), .sl 1 (a.2.1.map eI), .i a.2.2.1, .i a.2.2.2]
def dFLNN : List V → Fig × List Int × Int × Int | [.ag r, .sl _ l, .i n, .i m] => (dFig r, l.map dI, n, m) | _ => (dFig [], [], 0, 0)
theorem dFLNN_e (a : Fig × List Int × Int × Int) : dFLNN (eFLNN a) = a := by obtain ⟨r, l, n, m⟩ := a; simp [dFLNN, eFLNN, dFig_e, Function.comp_def, dI_eI]
def s39 : List V → Prop × V := fnG eFLNN dFLNN (fun a => Ok39 a.1 a.2.1 a.2.2.1 a.2.2.2) (fun a => meetsBy a.1 a.2.1 a.2.2.1 a.2.2.2) .b
noncomputable def H17 : Gam := H16.ext 39 s39
theorem okH17 : GOk Try.prog H17 := okH16.ext (f := 39) (r := s39) (fun a w => Try.call39 a w) (fnG_ok fun a h => W39 a.1 a.2.1 a.2.2.1 a.2.2.2 h)
theorem q39 (f : Fig) (l : List Int) (n m : Int) : H17 39 [.ag (eFig f), .sl 1 (l.map eI), .i n, .i m] = (Ok39 f l n m, .b (meetsBy f l n m)) :=
 (show H17 39 _ = s39 (eFLNN (f, l, n, m)) from rfl).trans (fnG_at _ (dFLNN_e _))
def manyBy (f : Fig) (l starts : List Int) (seam : Int) : Nat := (l.filter (meetsBy f starts seam)).length
theorem manyBy_succ {f : Fig} {l starts : List Int} {seam : Int} {i : Nat} {x : Int} (hx : l[i]? = some x) :
  manyBy f (l.take (i + 1)) starts seam = if meetsBy f starts seam x = true then manyBy f (l.take i) starts seam + 1 else manyBy f (l.take i) starts seam := by
 unfold manyBy
 rw [take_succ_of hx, List.filter_append, Xc]
 by_cases h : meetsBy f starts seam x = true <;> simp [h]
theorem manyBy_le (f : Fig) (l starts : List Int) (seam : Int) : manyBy f l starts seam ≤ l.length := List.length_filter_le _ _
structure Ok76 (f : Fig) (l starts : List Int) (seam : Int) : Prop where
 len : l.length < 10000000
 s : ∀ s ∈ l, Ok39 f starts seam s
theorem W76 (f : Fig) (l starts : List Int) (seam : Int) (h : Ok76 f l starts seam) : PureCall Try.prog 76 [.ag (eFig f), .sl 1 (l.map eI), .sl 1 (starts.map eI), .i seam] (.i (manyBy f l starts seam)) := by
 refine pure_body okH17 hmix Try.func76 cb76 cc76 cs76 cn76 ?_
 simp only [rc76, rs76, ru_reg, ru_seq, ru_block, ru_keep, thenQ, run_nil, run_cons, Fam.step, stepQ, evO, opv, qv, V.cells, solid, hasRef, hasRefL, upd_some, lkp_cons, lkp_nil, ↓reduceIte, Nat.reduceEqDiff, Nat.reduceAdd, Qb, Qc, vw_i, vw_sl, vw_ag, zipA, Qi, Qn, true_and, and_self, reduceCtorEq, eFig]
 refine ru_count l.length (fun i => ⟨lkp [(1, .sl 1 (l.map eI)), (2, .sl 1 (starts.map eI)), (3, .i seam), (4, .pa (eFig f)), (9, .i (manyBy f (l.take i) starts seam)), (10, .i i)], []⟩) ?_ ?_ ?_
 ·simp only [Q6, manyBy, Zb, X9, Qg, kp, lkp_cons, lkp_nil, ↓reduceIte, Nat.reduceEqDiff, Qb, Qc, Qg, Zb, eFig]
 ·intro i hi
  obtain ⟨x, hx⟩ : ∃ x, l[i]? = some x := ⟨_, Qe hi⟩
  have hlt : (i : Int) < l.length := by omega
  have hl := h.len
  have h3 : inI ((i : Int) + 1) := by unfold inI; omega
  have hm := manyBy_le f (l.take i) starts seam
  rw [Z2] at hm
  have h4 : inI ((manyBy f (l.take i) starts seam : Int) + 1) := by unfold inI; omega
  have g1 := q39 f starts seam x
  unfold eFig at g1
  simp only [hx, hlt, h3, h4, g1, manyBy_succ hx, Qr, Qs, ru_skip, ru_reg, ru_any, ru_seq, ru_cnd, ite_P, ru_block, ru_keep, putBs, thenQ, blockQ, run_nil, run_cons, Fam.step, stepQ, runX, eff, nextD, fpR, fpQ, fpV, disjB, hits, evO, opv, qv, binV, ldV, iadV, lenV, callV, hasRef, hasRefL, flat, kp, upd_some, lkp_cons, lkp_nil, ↓reduceIte, Nat.reduceEqDiff, Nat.reduceAdd, Nat.reduceLT, Nat.reduceLeDiff, Qb, Qc, Q0, Qh, Qg, Ql, Q1, Qk, Qz, Qv, Qm, Qu, Qo, Q7, Qw, Q8, vw_i, vw_sl, vw_ag, Zh, Qi, Qx, Q4, Za, Qn, Ze, Zc, Qd, decide_true, true_and, and_true, and_self, implies_true, Zd, Zj, Q5, Qf, Q9, Qa, Qy, Zm, eI, eFig]
  refine ⟨h.s x (Qq hx), fun e => ?_, fun e => ?_⟩
  ·simp only [e, Qr, Qs, ↓reduceIte]
  ·simp only [e, ↓reduceIte, Qd]
 ·simp only [Zx, Q2, ru_reg, ru_seq, ru_cnd, ru_exit, ru_ret, ru_keep, thenQ, blockQ, run_nil, run_cons, Fam.step, stepQ, evO, opv, qv, binV, lenV, upd_some, lkp_cons, lkp_nil, ↓reduceIte, Nat.reduceEqDiff, Qb, Qc, endQ, rvs, rv1, resV, vw_i, Q2, Qd, decide_false, and_self, Qf, eFig]
def boltsOf (f : Fig) : List (List Int) := f.dome.gores.map fun g => numbersOf (boltAt f.dome g)
theorem q86r (d : Dome) (n : Int) : H17 86 [.ag (eDome d), .i n] = (d.bolts.length < 1000, eLE (stretchesR d n)) := q86 d n
theorem W54 (f : Fig) (h : figCheck f = 0) (hp : pitchE f.dome true = 0) : PureCall Try.prog 54 [.ag (eFig f)] (.sl 1 ((boltsOf f).map eCan)) := by
 refine pure_body okH17 hmix Try.func54 N.cb54 N.cc54 N.cs54 N.cn54 ?_
 have hv := validF_of h
 have hd := hv.dome
 have hng := hd.ng
 have hbl : (boltsOf f).length = f.dome.gores.length := by simp [boltsOf]
 simp only [N.rc54, N.rs54, ru_reg, ru_seq, ru_block, ru_keep, ru_own, thenQ, run_nil, run_cons, Fam.step, stepQ, evO, opv, qv, V.cells, solid, hasRef, hasRefL, upd_some, lkp_cons, lkp_nil, ↓reduceIte, Nat.reduceEqDiff, Qb, Qc, Qg, Qv, vw_i, vw_sl, vw_ag, zipA, Qn, true_and, and_self, eFig]
 refine ru_count f.dome.gores.length (fun i => ⟨lkp [(1, .pa (eFig f)), (3, .rf 0 i 0 i 1), (4, .i i)], [.cells i (((boltsOf f).take i).map eCan).flatten]⟩) ?_ ?_ ?_
 ·simp only [Q6, Zb, Qc, Zy, kp, lkp_cons, lkp_nil, ↓reduceIte, Nat.reduceEqDiff, Qb, Qc, Zb, eFig]
 ·intro i hi
  obtain ⟨g, hg⟩ : ∃ g, f.dome.gores[i]? = some g := ⟨_, Qe hi⟩
  have hgm := hd.gores g (Qq hg)
  have hb : isBoltOf f.dome g = true := by simp only [isBoltOf, within, Zf, decide_eq_true_eq]; omega
  have hlt : (i : Int) < f.dome.gores.length := by omega
  have h3 : inI ((i : Int) + 1) := by unfold inI; omega
  have hnb := hd.nb
  have g2 := q86r f.dome g
  unfold eDome at g2
  rw [stretchesR, hb, if_pos hp] at g2
  simp only [eLE] at g2
  have hbi : (boltsOf f)[i]? = some (numbersOf (boltAt f.dome g)) := by simp [boltsOf, hg]
  simp only [hg, hlt, h3, g2, Qr, Qs, take_succ_of hbi, Xa, Xz, len_C, Zp, Xe, Zy, Z2, Nat.min_eq_left (show i ≤ (boltsOf f).length by omega), eCan, ru_skip, ru_reg, ru_any, ru_seq, ru_cnd, ru_block, ru_keep, chunk1, putBs, putB, thenQ, blockQ, run_nil, run_cons, Fam.step, stepQ, stepW, needW, runX, eff, nextD, fpR, fpQ, fpV, disjB, hits, putB, nv, sv, newsV, evO, opv, qv, binV, ldV, iadV, lenV, callV, foldParts, putAt, partsOk, partsOne, V.cells, solid, cellOk, hasRef, hasRefL, flat, flatL, kp, upd_some, lkp_cons, lkp_nil, ↓reduceIte, Nat.reduceEqDiff, Nat.reduceAdd, Nat.reduceLT, Nat.reduceLeDiff, Qb, Qc, Zg, Q0, Qh, Qg, Qj, Qt, Xq, Ql, Zb, Q1, Qk, Qz, Qv, Qm, Qp, Zi, Qu, Qo, Q7, Zk, Qw, Zt, Q8, vw_i, vw_sl, vw_ag, Zh, Qi, Qx, Q4, Za, Qn, Ze, Zc, Qd, decide_true, true_and, and_true, and_self, reduceCtorEq, not_false_eq_true, ne_eq, Zd, Zj, Q5, imp_self, Qf, Q9, Qa, Qy, eI, eCan, eFig]
  exact ⟨by omega, by unfold fitsLen; omega⟩
 ·have hne : ¬ ((boltsOf f).length : Int) < f.dome.gores.length := by omega
  rw [← hbl]
  simp only [hne, Zx, len_C, Zp, Zw, chunk_C, vw_C, hpF, upB, upL_noref _ _ (noref_C (boltsOf f)), ru_reg, ru_seq, ru_cnd, ru_exit, ru_ret, ru_keep, ru_drp, ↓cut_lkp, cutH, thenQ, blockQ, run_nil, run_cons, Fam.step, stepQ, evO, opv, qv, binV, ldV, lenV, cutV, upd_some, lkp_cons, lkp_nil, ↓reduceIte, Nat.reduceEqDiff, Nat.reduceAdd, Nat.reduceLT, Nat.reduceLeDiff, Qb, Qc, Qh, Qg, Qj, Qt, Zb, Qk, Qv, Qp, endQ, rvs, rv1, resV, vw_sl, vw_rf, Qi, Qd, decide_false, and_self, Qf, eFig]
def eFLLN (a : Fig × List Int × List Int × Int) : List V := [.ag (eFig a.1), .sl 1 (a.2.1.map eI), .sl 1 (a.2.2.1.map eI), .i a.2.2.2]
def dFLLN : List V → Fig × List Int × List Int × Int | [.ag r, .sl _ l, .sl _ k, .i m] => (dFig r, l.map dI, k.map dI, m) | _ => (dFig [], [], [], 0)
theorem dFLLN_e (a : Fig × List Int × List Int × Int) : dFLLN (eFLLN a) = a := by obtain ⟨r, l, n, m⟩ := a; simp [dFLLN, eFLLN, dFig_e, Function.comp_def, dI_eI]
def s76 : List V → Prop × V := fnG eFLLN dFLLN (fun a => Ok76 a.1 a.2.1 a.2.2.1 a.2.2.2) (fun a => ((manyBy a.1 a.2.1 a.2.2.1 a.2.2.2 : Nat) : Int)) .i
def s54 : List V → Prop × V := fnG (fun f => [.ag (eFig f)]) decF (fun f => figCheck f = 0 ∧ pitchE f.dome true = 0) boltsOf (fun l => .sl 1 (l.map eCan))
noncomputable def H18 : Gam := (H17.ext 76 s76).ext 54 s54
theorem okH18 : GOk Try.prog H18 := by
 have k1 := okH17.ext (f := 76) (r := s76) (fun a w => Try.call76 a w) (fnG_ok fun a h => W76 a.1 a.2.1 a.2.2.1 a.2.2.2 h)
 exact k1.ext (f := 54) (r := s54) (fun a w => Try.call54 a w) (fnG_ok fun a h => W54 a h.1 h.2)
theorem q76 (f : Fig) (l k : List Int) (m : Int) : H18 76 [.ag (eFig f), .sl 1 (l.map eI), .sl 1 (k.map eI), .i m] = (Ok76 f l k m, .i (manyBy f l k m)) :=
 (show H18 76 _ = s76 (eFLLN (f, l, k, m)) from rfl).trans (fnG_at _ (dFLLN_e _))
theorem q54 (f : Fig) : H18 54 [.ag (eFig f)] = (figCheck f = 0 ∧ pitchE f.dome true = 0, .sl 1 ((boltsOf f).map eCan)) :=
 (show H18 54 _ = s54 [.ag (eFig f)] from rfl).trans (fnG_at _ (dFig_e _))
theorem q61' (f : Fig) (n : Int) : H18 61 [.ag (eFig f), .i n] = (f.starts.length < 10000000 ∧ f.times.length < 10000000, .i (openE f (within n 0 (f.dome.gores.length - 1)))) := q61 f n
theorem far_same {p a u b : Int} (hp : 0 < p) (hu : 0 ≤ u) : farN p (modN (a + u) p) b = farN p (u.tmod p) (modN (b - a) p) := by
 unfold farN
 have hp0 : p ≠ 0 := by omega
 simp only [modN_eq hp]
 rw [Zo hu]
 have h1 : ((a + u) % p - b) % p = (u % p - (b - a) % p) % p := by
  rw [Z3, Xg, Z3]
  congr 1; omega
 have h2 : (b - (a + u) % p) % p = ((b - a) % p - u % p) % p := by
  rw [Z3, Xg, Xg]
  congr 1; omega
 rw [h1, h2]
theorem moveBy_eq (f : Fig) (s : Int) : moveBy f s = (pull f.run s).tmod f.period := rfl
theorem meetsBy_eq {f : Fig} (hp : 1 ≤ f.period) (hr : 0 ≤ f.run ∧ f.run ≤ 2000) {starts : List Int} {seam s : Int} (hs : 0 ≤ s ∧ s ≤ 1000) :
  meetsBy f starts seam s = decide (farN f.period (moveBy f s) (modN (atL starts ((seam + 1).tmod starts.length) - atL starts seam) f.period) ≤ f.near) := by
 unfold meetsBy nearF
 rw [far_same (by omega) (pull_bound hr hs).1, moveBy_eq]
theorem manyBy_eq {f : Fig} (hp : 1 ≤ f.period) (hr : 0 ≤ f.run ∧ f.run ≤ 2000) {l starts : List Int} {seam : Int} (hs : ∀ s ∈ l, 0 ≤ s ∧ s ≤ 1000) :
  manyBy f l starts seam = goodN f.period (l.map (moveBy f)) (modN (atL starts ((seam + 1).tmod starts.length) - atL starts seam) f.period) f.near := by
 unfold manyBy goodN
 rw [List.filter_map, Qf]
 congr 1
 refine X4 fun s h => ?_
 exact meetsBy_eq hp hr (hs s h)
theorem numbers_in {f : Fig} (h : figCheck f = 0) : ∀ l ∈ boltsOf f, l.length < 1000 ∧ ∀ s ∈ l, 0 ≤ s ∧ s ≤ 60 := by
 have hv := validF_of h
 have hd := hv.dome
 intro l hl
 obtain ⟨g, hg, rfl⟩ := X5.1 hl
 have hgm := hd.gores g hg
 obtain ⟨b, hbb⟩ : ∃ b, f.dome.bolts[g.toNat]? = some b := ⟨_, Qe (by omega)⟩
 have hvb := hd.bolts b (Qq hbb)
 have hba : boltAt f.dome g = b := by simp [boltAt, hbb]
 have hst := hvb.st
 have hnl := numbersOf_len hvb
 rw [hba]
 refine ⟨by omega, fun s hs => ?_⟩
 simp only [numbersOf, Ja, mem_ints] at hs
 omega
theorem moves_bolts (f : Fig) : (ringOf f).moves = (boltsOf f).map fun l => l.map (moveBy f) := by
 simp [ringOf, boltsOf, movesOf]
theorem within_seam {n : Nat} {seam : Int} (h : within seam 0 ((n : Int) - 1) = true) : 0 ≤ seam ∧ seam < n := by
 simp only [within, Zf, decide_eq_true_eq] at h; omega
theorem movesAt_bolts {f : Fig} {seam : Int} {l : List Int} (h : (boltsOf f)[seam.toNat]? = some l) : movesAt (ringOf f) seam = l.map (moveBy f) := by
 unfold movesAt
 rw [moves_bolts, Qy, h]; rfl
theorem W42 (f : Fig) (seam : Int) (hs : f.starts.length < 10000000) (ht : f.times.length < 10000000) : PureCall Try.prog 42 [.ag (eFig f), .i seam] (.tp [.i (meetsR f seam).1, .i (meetsR f seam).2]) := by
 refine pure_body okH18 hmix Try.func42 cb42 cc42 cs42 cn42 ?_
 have g1 := q61' f seam
 unfold eFig at g1
 simp only [rc42, rs42, g1, ru_skip, ru_reg, ru_seq, ru_cnd, ite_P, ru_block, ru_ret, ru_keep, thenQ, blockQ, run_nil, run_cons, Fam.step, stepQ, evO, opv, qv, binV, ldV, iadV, lenV, callV, V.cells, solid, hasRef, hasRefL, flat, upd_some, lkp_cons, lkp_nil, ↓reduceIte, Nat.reduceEqDiff, Nat.reduceAdd, Nat.reduceLT, Nat.reduceLeDiff, Qb, Qc, Qh, Qg, Qj, Qt, Ql, Q1, Qk, Qm, Qu, endQ, rvs, rv1, resV, vw_i, vw_sl, vw_ag, vw_tp, zipA, Qi, Qn, Z0, Qd, decide_eq_false_iff_not, true_and, and_true, and_self, false_implies, implies_true, reduceCtorEq, Q3, Qa, Zm, Classical.not_not, eFig]
 refine ⟨⟨hs, ht⟩, fun h => by simp [meetsR, h], fun h => ?_⟩
 obtain ⟨h1, h2, h3⟩ := openE_ok h
 have hv := validF_of h1
 have hd := hv.dome
 have hng := hd.ng
 have hsm := within_seam h2
 have hbl : (boltsOf f).length = f.dome.gores.length := by simp [boltsOf]
 obtain ⟨l, hl⟩ : ∃ l, (boltsOf f)[seam.toNat]? = some l := ⟨_, Qe (by omega)⟩
 obtain ⟨hl1, hl2⟩ := numbers_in h1 l (Qq hl)
 have g2 := q54 f
 have g3 := q76 f l f.starts seam
 unfold eFig at g2 g3
 have hlt : seam < (boltsOf f).length := by omega
 simp only [g2, g3, hl, hlt, hsm.1, eCan, hasRef, flat, Nat.reduceLeDiff, Qh, Qg, Qk, Qo, vw_sl, Qi, Qd, decide_eq_true_eq, decide_eq_false_iff_not, true_and, and_true, and_self, implies_true, Zd, Qf, Qy, eCan]
 have hns := hv.ns
 have hok : Ok76 f l f.starts seam := ⟨by omega, fun s hs => ⟨hv.period, hv.run, by have := hl2 s hs; omega, by omega, by omega, fun x hx => by have := hv.starts x hx; have := hv.period; unfold tame; omega⟩⟩
 have hme : meetsR f seam = (if manyBy f l f.starts seam = l.length then 1 else if manyBy f l f.starts seam = 0 then 2 else 3, 0) := by
  unfold meetsR
  rw [if_pos h]
  congr 1
  unfold ownN meetsN
  rw [movesAt_bolts hl, manyBy_eq hv.period.1 hv.run (fun s hs => by have := hl2 s hs; omega), Qf]
  have hml : (ringOf f).moves.length = f.starts.length := by rw [hns]; simp [ringOf]
  rw [hml]; rfl
 rw [hme]
 refine ⟨⟨h1, h3⟩, hok, fun e => ?_, fun e => ⟨fun e2 => ?_, fun e2 => ?_⟩⟩
 ·rw [if_pos (by omega)]
 ·rw [if_neg (by omega), if_pos (by omega)]
 ·rw [if_neg (by omega), if_neg (by omega)]
end Go.C02
set_option linter.unusedSimpArgs false
set_option linter.unusedVariables false
namespace Go.C02
open Go.Fam Go.Proofs
def s42 : List V → Prop × V := fnG eFN dFN (fun a => a.1.starts.length < 10000000 ∧ a.1.times.length < 10000000) (fun a => meetsR a.1 a.2) (fun r => .tp [.i r.1, .i r.2])
noncomputable def H19 : Gam := H18.ext 42 s42
theorem okH19 : GOk Try.prog H19 := okH18.ext (f := 42) (r := s42) (fun a w => Try.call42 a w) (fnG_ok fun a h => W42 a.1 a.2 h.1 h.2)
theorem q42 (f : Fig) (n : Int) : H19 42 [.ag (eFig f), .i n] = (f.starts.length < 10000000 ∧ f.times.length < 10000000, .tp [.i (meetsR f n).1, .i (meetsR f n).2]) :=
 (show H19 42 _ = s42 (eFN (f, n)) from rfl).trans (fnG_at _ (dFN_e _))
theorem q61s (f : Fig) (n : Int) : H19 61 [.ag (eFig f), .i n] = (f.starts.length < 10000000 ∧ f.times.length < 10000000, .i (openE f (within n 0 (f.dome.gores.length - 1)))) := q61 f n
theorem within0 {f : Fig} (h : figCheck f = 0) : within 0 0 ((f.dome.gores.length : Int) - 1) = true := by
 have := (validF_of h).dome.ng
 simp only [within, Zf, decide_eq_true_eq]; omega
theorem openE0 (f : Fig) : openE f (within 0 0 ((f.dome.gores.length : Int) - 1)) = openE f true := by
 by_cases h : figCheck f = 0
 ·rw [within0 h]
 ·simp [openE, h]
theorem W43 (f : Fig) (hs : f.starts.length < 10000000) (ht : f.times.length < 10000000) : PureCall Try.prog 43 [.ag (eFig f)] (eLE (badR f)) := by
 refine pure_body okH19 hmix Try.func43 N.cb43 N.cc43 N.cs43 N.cn43 ?_
 have g1 := q61s f 0
 rw [openE0] at g1
 unfold eFig at g1
 simp only [N.rc43, N.rs43, g1, ru_skip, ru_reg, ru_seq, ru_cnd, ite_P, ru_block, ru_ret, ru_keep, ru_own, thenQ, run_nil, run_cons, Fam.step, stepQ, evO, opv, qv, binV, ldV, callV, V.cells, solid, hasRef, hasRefL, flat, upd_some, lkp_cons, lkp_nil, ↓reduceIte, Nat.reduceEqDiff, Nat.reduceAdd, Nat.reduceLT, Nat.reduceLeDiff, Qb, Qc, Qh, Qg, Ql, Q1, Qv, Qm, Qu, endQ, rvs, rv1, resV, vw_i, vw_z, vw_sl, vw_ag, vw_tp, zipA, Qi, Qn, Qd, decide_eq_false_iff_not, true_and, and_true, and_self, implies_true, Q3, Classical.not_not, eFig]
 refine ⟨⟨hs, ht⟩, fun h => ?_, fun h => ?_⟩
 ·simp only [badR, if_neg h, eLE, Qc]
 ·obtain ⟨h1, h2, h3⟩ := openE_ok h
  have hv := validF_of h1
  have hns := hv.ns
  have hng := hv.dome.ng
  refine ru_count f.starts.length (fun i => ⟨lkp [(1, .pa (eFig f)), (5, .rf 0 (badTo f i).length 0 (badTo f i).length 1), (6, .i i)],
   [.cells (badTo f i).length ((badTo f i).map eI).flatten]⟩) ?_ ?_ ?_
  ·simp only [Q6, badTo, Xt, Qc, X9, Qg, Zy, kp, lkp_cons, lkp_nil, ↓reduceIte, Nat.reduceEqDiff, Qb, Qc, Qg, ne_eq, eFig]
  ·intro i hi
   have hlt : (i : Int) < f.starts.length := by omega
   have h4 : inI ((i : Int) + 1) := by unfold inI; omega
   have h5 := badTo_len f i
   have g2 := q42 f i
   have hw : within i 0 ((f.dome.gores.length : Int) - 1) = true := by simp only [within, Zf, decide_eq_true_eq]; omega
   have hme : (meetsR f i).1 = ownN (ringOf f) i := by unfold meetsR; rw [hw, if_pos h]
   rw [hme] at g2
   unfold eFig at g2
   simp only [hlt, h4, g2, Qr, Qs, badTo_succ, len_I, Zp, ru_skip, ru_reg, ru_seq, ru_cnd, ite_P, ru_block, ru_keep, chunk1, putB, thenQ, blockQ, run_nil, run_cons, Fam.step, stepQ, stepW, needW, putB, nv, sv, newsV, evO, opv, qv, binV, ldV, lenV, callV, foldParts, putAt, partsOk, partsOne, V.cells, solid, cellOk, hasRef, hasRefL, flat, flatL, kp, upd_some, lkp_cons, lkp_nil, ↓reduceIte, Nat.reduceEqDiff, Nat.reduceAdd, Nat.reduceLT, Nat.reduceLeDiff, Qb, Qc, Zg, Q0, Qh, Qg, Qj, Qt, Ql, Zb, Q1, Qk, Qz, Qv, Qm, Qp, Zi, Qo, Zk, Qw, Zt, vw_i, vw_sl, vw_ag, Qi, Qx, Qn, Qd, decide_true, decide_eq_false_iff_not, true_and, and_true, and_self, implies_true, reduceCtorEq, not_false_eq_true, ne_eq, Q3, Qf, Classical.not_not, eFig]
   refine ⟨⟨hs, ht⟩, fun e => ?_, fun e => ?_⟩
   ·simp only [e, not_false_eq_true, Xc, Xa, Xz, ↓reduceIte, Qb, Qc, Qh, Qg, Qi, and_true, not_false_eq_true, eI]
    unfold fitsLen; omega
   ·simp only [e, not_true_eq_false, ↓reduceIte, not_true_eq_false]
  ·have hne : ¬ (f.dome.gores.length : Int) < f.starts.length := by omega
   rw [hns]
   simp only [hne, badR, h, eLE, len_I, Zp, Zw, chunk_I, vw_I, hpF, upB, upL_noref _ _ (noref_I (badTo f f.dome.gores.length)), ru_reg, ru_seq, ru_cnd, ru_exit, ru_ret, ru_keep, ru_drp, ↓cut_lkp, cutH, thenQ, blockQ, run_nil, run_cons, Fam.step, stepQ, evO, opv, qv, binV, ldV, lenV, cutV, upd_some, lkp_cons, lkp_nil, ↓reduceIte, Nat.reduceEqDiff, Nat.reduceAdd, Nat.reduceLT, Nat.reduceLeDiff, Qb, Qc, Qh, Qg, Qj, Qt, Zb, Qk, Qv, Qp, Qu, endQ, rvs, rv1, resV, vw_i, vw_sl, vw_tp, vw_rf, Qi, Qd, decide_false, and_self, Qf, eFig]
def meetAll (f : Fig) (l : List (List Int)) (starts : List Int) : Bool := (Zl starts.length).all fun i : Nat => decide (manyBy f (l[i]?.getD []) starts i = (l[i]?.getD []).length)
theorem allR_succ {p : Nat → Bool} {i : Nat} (h : (Zl i).all p = true) (hp : p i = true) : (Zl (i + 1)).all p = true := by
 rw [Xb, List.all_append, h]; simp [hp]
theorem allR_false {p : Nat → Bool} {i n : Nat} (hi : i < n) (h : p i = false) : (Zl n).all p = false := by
 rw [X6]; intro h'
 have := Z6.1 h' i (Xn.2 hi)
 rw [h] at this; cases this
structure Ok53 (f : Fig) (l : List (List Int)) (starts : List Int) : Prop where
 len : starts.length = l.length ∧ l.length ≤ 1000
 s : ∀ i : Nat, i < l.length → Ok76 f (l[i]?.getD []) starts i
theorem q76s (f : Fig) (l k : List Int) (m : Int) : H19 76 [.ag (eFig f), .sl 1 (l.map eI), .sl 1 (k.map eI), .i m] = (Ok76 f l k m, .i (manyBy f l k m)) := q76 f l k m
theorem W53 (f : Fig) (l : List (List Int)) (starts : List Int) (h : Ok53 f l starts) : PureCall Try.prog 53 [.ag (eFig f), .sl 1 (l.map eCan), .sl 1 (starts.map eI)] (.b (meetAll f l starts)) := by
 refine pure_body okH19 hmix Try.func53 cb53 cc53 cs53 cn53 ?_
 have hlen := h.len
 simp only [rc53, rs53, ru_reg, ru_seq, ru_block, ru_keep, thenQ, run_nil, run_cons, Fam.step, stepQ, evO, opv, qv, V.cells, solid, hasRef, hasRefL, upd_some, lkp_cons, lkp_nil, ↓reduceIte, Nat.reduceEqDiff, Nat.reduceAdd, Qb, Qc, vw_i, vw_sl, vw_ag, zipA, Qi, Qn, true_and, and_self, reduceCtorEq, eFig]
 refine ru_countC starts.length (fun i => ⟨lkp [(1, .sl 1 (l.map eCan)), (2, .sl 1 (starts.map eI)), (3, .pa (eFig f)), (7, .i i)], []⟩) (fun i => (Zl i).all (fun i : Nat => decide (manyBy f (l[i]?.getD []) starts i = (l[i]?.getD []).length)) = true) ?_ rfl ?_ ?_
 ·simp only [Q6, kp, lkp_cons, lkp_nil, ↓reduceIte, Nat.reduceEqDiff, Qb, Qc, eFig]
 ·intro i hi hC
  obtain ⟨x, hx⟩ : ∃ x, l[i]? = some x := ⟨_, Qe (by omega)⟩
  have hlt : (i : Int) < starts.length := by omega
  have hlt2 : (i : Int) < l.length := by omega
  have h3 : inI ((i : Int) + 1) := by unfold inI; omega
  have g1 := q76s f x starts i
  unfold eFig at g1
  have hok := h.s i (by omega)
  rw [hx, Qo] at hok
  have hle := manyBy_le f x starts i
  simp only [hlt, hlt2, h3, hx, eCan, g1, Qr, Qs, ru_skip, ru_reg, ru_any, ru_seq, ru_cnd, ite_P, ru_block, ru_ret, ru_keep, putBs, thenQ, blockQ, run_nil, run_cons, Fam.step, stepQ, runX, eff, nextD, fpR, fpQ, fpV, disjB, hits, evO, opv, qv, binV, ldV, iadV, lenV, callV, hasRef, hasRefL, flat, kp, upd_some, lkp_cons, lkp_nil, ↓reduceIte, Nat.reduceEqDiff, Nat.reduceAdd, Nat.reduceLT, Nat.reduceLeDiff, Qb, Qc, Q0, Qh, Qg, Ql, Q1, Qk, Qz, Qv, Qm, Qu, Qo, Q7, Qw, Q8, endQ, rvs, rv1, resV, vw_i, vw_b, vw_sl, vw_ag, Zh, Qi, V.b.injEq, Qx, Q4, Za, Qn, Ze, Zc, Qd, decide_true, decide_eq_true_eq, true_and, and_true, and_self, implies_true, Zd, Zj, Q5, Qf, Q9, Qa, Qy, eCan, eFig]
  refine ⟨hok, fun e => ?_, fun e => ?_⟩
  ·unfold meetAll
   rw [allR_false hi]
   simp only [hx, Qo, decide_eq_false_iff_not]; omega
  ·exact allR_succ hC (by simp only [hx, Qo, decide_eq_true_eq]; omega)
 ·intro hC
  simp only [Q2, meetAll, hC, ru_reg, ru_seq, ru_cnd, ru_exit, ru_ret, ru_keep, thenQ, blockQ, run_nil, run_cons, Fam.step, stepQ, evO, opv, qv, binV, lenV, upd_some, lkp_cons, lkp_nil, ↓reduceIte, Nat.reduceEqDiff, Qb, Qc, endQ, rvs, rv1, resV, vw_b, Q2, Qd, decide_false, and_self, Qf, eFig]
def eFCL (a : Fig × List (List Int) × List Int) : List V := [.ag (eFig a.1), .sl 1 (a.2.1.map eCan), .sl 1 (a.2.2.map eI)]
def dFCL : List V → Fig × List (List Int) × List Int | [.ag r, .sl _ l, .sl _ k] => (dFig r, l.map dCan, k.map dI) | _ => (dFig [], [], [])
theorem dFCL_e (a : Fig × List (List Int) × List Int) : dFCL (eFCL a) = a := by obtain ⟨r, l, k⟩ := a; simp [dFCL, eFCL, dFig_e, Function.comp_def, dI_eI, dCan_e]
def s53 : List V → Prop × V := fnG eFCL dFCL (fun a => Ok53 a.1 a.2.1 a.2.2) (fun a => meetAll a.1 a.2.1 a.2.2) .b
noncomputable def H20 : Gam := (H19.ext 53 s53).ext 43 (fnG (fun f => [.ag (eFig f)]) decF (fun f => f.starts.length < 10000000 ∧ f.times.length < 10000000) badR eLE)
theorem okH20 : GOk Try.prog H20 := by
 have k1 := okH19.ext (f := 53) (r := s53) (fun a w => Try.call53 a w) (fnG_ok fun a h => W53 a.1 a.2.1 a.2.2 h)
 exact k1.ext (f := 43) (fun a w => Try.call43 a w) (fnG_ok fun f h => W43 f h.1 h.2)
theorem q53 (f : Fig) (l : List (List Int)) (k : List Int) : H20 53 [.ag (eFig f), .sl 1 (l.map eCan), .sl 1 (k.map eI)] = (Ok53 f l k, .b (meetAll f l k)) :=
 (show H20 53 _ = s53 (eFCL (f, l, k)) from rfl).trans (fnG_at _ (dFCL_e _))
theorem q54s (f : Fig) : H20 54 [.ag (eFig f)] = (figCheck f = 0 ∧ pitchE f.dome true = 0, .sl 1 ((boltsOf f).map eCan)) := q54 f
theorem q52s (l : List Int) (m lo up : Int) : H20 52 [.sl 1 (l.map eI), .i m, .i lo, .i up] = (l.length < 10000000, .b (allN l m lo up)) := h52 l m lo up
def areR (f : Fig) (starts : List Int) : Bool := allN starts f.starts.length 0 (f.period - 1) && meetAll f (boltsOf f) starts
theorem ok53_of {f : Fig} (h : figCheck f = 0) {starts : List Int} (hl : starts.length = f.starts.length) (hs : ∀ x ∈ starts, tame 1000000 x) : Ok53 f (boltsOf f) starts := by
 have hv := validF_of h
 have hns := hv.ns
 have hng := hv.dome.ng
 have hbl : (boltsOf f).length = f.dome.gores.length := by simp [boltsOf]
 refine ⟨by omega, fun i hi => ?_⟩
 obtain ⟨l, hl⟩ : ∃ l, (boltsOf f)[i]? = some l := ⟨_, Qe hi⟩
 obtain ⟨h1, h2⟩ := numbers_in h l (Qq hl)
 rw [hl, Qo]
 exact ⟨by omega, fun s hs' => ⟨hv.period, hv.run, by have := h2 s hs'; omega, by omega, by omega, hs⟩⟩
theorem W20 (f : Fig) (starts : List Int) (h : figCheck f = 0) (hp : pitchE f.dome true = 0) (hl : starts.length < 10000000) : PureCall Try.prog 20 [.ag (eFig f), .sl 1 (starts.map eI)] (.b (areR f starts)) := by
 refine pure_body okH20 hmix Try.func20 cb20 cc20 cs20 cn20 ?_
 have hv := validF_of h
 have hper := hv.period
 have hin : inI (f.period - 1) := by unfold inI; omega
 have g1 := q54s f
 have g2 := q53 f (boltsOf f) starts
 unfold eFig at g1 g2
 simp only [rc20, rs20, hin, q52s, g1, g2, ru_skip, ru_reg, ru_any, ru_seq, ru_cnd, ite_P, ru_ret, ru_keep, putBs, thenQ, run_nil, run_cons, Fam.step, stepQ, runX, eff, nextD, fpR, fpQ, fpV, disjB, hits, evO, opv, qv, binV, ldV, lenV, callV, V.cells, solid, hasRef, hasRefL, flat, upd_some, lkp_cons, lkp_nil, ↓reduceIte, Nat.reduceEqDiff, Nat.reduceAdd, Nat.reduceLT, Nat.reduceLeDiff, Qb, Qc, Q0, Qh, Qg, Qj, Qt, Ql, Q1, Qk, Qz, Qv, Qm, Qu, Q7, Qw, Q8, endQ, rvs, rv1, resV, vw_i, vw_b, vw_sl, vw_ag, zipA, Qi, V.b.injEq, Qx, Q4, Za, Qn, Ze, Zc, Qd, true_and, and_true, and_self, implies_true, reduceCtorEq, Zj, Q5, Q3, imp_self, Qf, Qa, Z4, eFig]
 refine ⟨hl, fun e => by simp [areR, e], fun e => ?_⟩
 have e' := e
 rw [allN_eq, Zf, decide_eq_true_eq, Z6] at e'
 refine ⟨⟨h, hp⟩, ok53_of h e'.1 fun x hx => ?_, by simp [areR, e]⟩
 have := e'.2 x hx
 simp only [within, Zf, decide_eq_true_eq] at this
 unfold tame; omega
def joinsR (f : Fig) (l : List Int) (a b : Int) : Bool := l.all fun s => nearF f (modN (a + pull f.run s) f.period) b
theorem q71s (a n : Int) : H20 71 [.i a, .i n] = (0 < n ∧ n ≤ 1000000, .i (modN a n)) := rfl
theorem q72s (l s : Int) : H20 72 [.i l, .i s] = (tame 1000000 l ∧ tame 1000000 s, .i (pull l s)) := rfl
theorem q73s (f : Fig) (a b : Int) : H20 73 [.ag (eFig f), .i a, .i b] = ((0 < f.period ∧ f.period ≤ 1000000) ∧ tame 100000000 a ∧ tame 100000000 b, .b (nearF f a b)) := q73 f a b
structure Ok91 (f : Fig) (l : List Int) (a b : Int) : Prop where
 p : 1 ≤ f.period ∧ f.period ≤ 60
 run : 0 ≤ f.run ∧ f.run ≤ 2000
 l : l.length < 1000 ∧ ∀ s ∈ l, 0 ≤ s ∧ s ≤ 1000
 ab : tame 1000000 a ∧ tame 1000000 b
theorem W91 (f : Fig) (l : List Int) (a b : Int) (h : Ok91 f l a b) : PureCall Try.prog 91 [.ag (eFig f), .sl 1 (l.map eI), .i a, .i b] (.b (joinsR f l a b)) := by
 refine pure_body okH20 hmix Try.func91 cb91 cc91 cs91 cn91 ?_
 have hll := h.l.1
 simp only [rc91, rs91, ru_reg, ru_seq, ru_block, ru_keep, thenQ, run_nil, run_cons, Fam.step, stepQ, evO, opv, qv, V.cells, solid, hasRef, hasRefL, upd_some, lkp_cons, lkp_nil, ↓reduceIte, Nat.reduceEqDiff, Nat.reduceAdd, Qb, Qc, vw_i, vw_sl, vw_ag, zipA, Qi, Qn, true_and, and_self, reduceCtorEq, eFig]
 refine ru_countC l.length (fun i => ⟨lkp [(1, .sl 1 (l.map eI)), (2, .i a), (3, .i b), (4, .pa (eFig f)), (9, .i i)], []⟩) (fun i => (l.take i).all (fun s => nearF f (modN (a + pull f.run s) f.period) b) = true) ?_ ?_ ?_ ?_
 ·simp only [Q6, kp, lkp_cons, lkp_nil, ↓reduceIte, Nat.reduceEqDiff, Qb, Qc, eFig]
 ·simp
 ·intro i hi hC
  obtain ⟨x, hx⟩ : ∃ x, l[i]? = some x := ⟨_, Qe hi⟩
  have hlt : (i : Int) < l.length := by omega
  have h3 : inI ((i : Int) + 1) := by unfold inI; omega
  have hxx := h.l.2 x (Qq hx)
  have b3 := pull_bound h.run hxx
  have hp := h.p
  have hr := h.run
  have hab := h.ab
  unfold tame at hab
  have hm := modN_in (a := a + pull f.run x) (p := f.period) (by omega)
  have g1 := q73s f (modN (a + pull f.run x) f.period) b
  unfold eFig at g1
  simp only [hx, hlt, h3, q71s, q72s, g1, all_take hx, hC, Qr, Qs, ru_skip, ru_reg, ru_any, ru_seq, ru_cnd, ite_P, ru_block, ru_ret, ru_keep, putBs, thenQ, blockQ, run_nil, run_cons, Fam.step, stepQ, runX, eff, nextD, fpR, fpQ, fpV, disjB, hits, evO, opv, qv, binV, ldV, iadV, lenV, callV, hasRef, hasRefL, flat, kp, upd_some, lkp_cons, lkp_nil, ↓reduceIte, Nat.reduceEqDiff, Nat.reduceAdd, Nat.reduceLT, Nat.reduceLeDiff, Qb, Qc, Q0, Qh, Qg, Qj, Qt, Ql, Q1, Qk, Qz, Qv, Qm, Qu, Qo, Q7, Qw, Q8, endQ, rvs, rv1, resV, vw_i, vw_b, vw_sl, vw_ag, Zh, Qi, V.b.injEq, Qx, Q4, Z9, Za, Qn, Ze, Zc, Qd, decide_true, true_and, and_true, and_self, implies_true, Zd, Zj, Q5, Q3, imp_self, Qf, Q9, Qa, Qy, Z4, eI, eFig]
  refine ⟨⟨by unfold tame; omega, by unfold tame; omega⟩, by unfold inI; omega, by omega, ⟨by omega, by unfold tame; omega, by unfold tame; omega⟩, fun e => ?_⟩
  unfold joinsR
  rw [not_all_of hx e]
 ·intro hC
  rw [Zx] at hC
  simp only [Q2, joinsR, hC, ru_reg, ru_seq, ru_cnd, ru_exit, ru_ret, ru_keep, thenQ, blockQ, run_nil, run_cons, Fam.step, stepQ, evO, opv, qv, binV, lenV, upd_some, lkp_cons, lkp_nil, ↓reduceIte, Nat.reduceEqDiff, Qb, Qc, endQ, rvs, rv1, resV, vw_b, Q2, Qd, decide_false, and_self, Qf, eFig]
end Go.C02
set_option linter.unusedSimpArgs false
set_option linter.unusedVariables false
namespace Go.C02
open Go.Fam Go.Proofs
def s91 : List V → Prop × V := fnG eFLNN dFLNN (fun a => Ok91 a.1 a.2.1 a.2.2.1 a.2.2.2) (fun a => joinsR a.1 a.2.1 a.2.2.1 a.2.2.2) .b
noncomputable def H21 : Gam := H20.ext 91 s91
theorem okH21 : GOk Try.prog H21 := okH20.ext (f := 91) (r := s91) (fun a w => Try.call91 a w) (fnG_ok fun a h => W91 a.1 a.2.1 a.2.2.1 a.2.2.2 h)
def leastStep (f : Fig) (l : List (List Int)) (first : List Int) (rec_ : List Int → Int) (best : Int) (start : Nat) : Int :=
 if first ≠ [] ∧ joinsR f (l[first.length - 1]?.getD []) (first[first.length - 1]?.getD 0) start = false then best
 else if 0 ≤ rec_ (first ++ [(start : Int)]) ∧ (best < 0 ∨ rec_ (first ++ [(start : Int)]) < best) then rec_ (first ++ [(start : Int)]) else best
def leastF (f : Fig) (l : List (List Int)) : Nat → List Int → Int
 | 0, first => if meetAll f l first then first.sum else -1
 | k + 1, first => (Zl f.period.toNat).foldl (fun best start => leastStep f l first (leastF f l k) best start) (-1)
structure Ok62 (k : Nat) (f : Fig) (first : List Int) : Prop where
 ok : figCheck f = 0
 in_ : ∀ x ∈ first, 0 ≤ x ∧ x < f.period
 len : first.length ≤ f.starts.length
 k : f.starts.length - first.length ≤ k
def leastV (f : Fig) (first : List Int) : Int := leastF f (boltsOf f) (f.starts.length - first.length) first
def eFC (a : Fig × List Int) : List V := [.ag (eFig a.1), .sl 1 ((boltsOf a.1).map eCan), .sl 1 (a.2.map eI)]
def dFC : List V → Fig × List Int | [.ag r, _, .sl _ k] => (dFig r, k.map dI) | _ => (dFig [], [])
theorem dFC_e (a : Fig × List Int) : dFC (eFC a) = a := by obtain ⟨r, k⟩ := a; simp [dFC, eFC, dFig_e, Function.comp_def, dI_eI]
def s62 (k : Nat) : List V → Prop × V := fnG eFC dFC (fun a => Ok62 k a.1 a.2) (fun a => leastV a.1 a.2) .i
noncomputable def HL (k : Nat) : Gam := H21.ext 62 (s62 k)
theorem qL62 (k : Nat) (f : Fig) (first : List Int) : HL k 62 [.ag (eFig f), .sl 1 ((boltsOf f).map eCan), .sl 1 (first.map eI)] = (Ok62 k f first, .i (leastV f first)) :=
 (show HL k 62 _ = s62 k (eFC (f, first)) from rfl).trans (fnG_at _ (dFC_e _))
theorem qL91 (k : Nat) (f : Fig) (l : List Int) (n m : Int) : HL k 91 [.ag (eFig f), .sl 1 (l.map eI), .i n, .i m] = (Ok91 f l n m, .b (joinsR f l n m)) :=
 (show HL k 91 _ = s91 (eFLNN (f, l, n, m)) from rfl).trans (fnG_at _ (dFLNN_e _))
theorem q53' (f : Fig) (l : List (List Int)) (k : List Int) : H21 53 [.ag (eFig f), .sl 1 (l.map eCan), .sl 1 (k.map eI)] = (Ok53 f l k, .b (meetAll f l k)) := q53 f l k
theorem tame_in {f : Fig} (hp : f.period ≤ 60) {first : List Int} (h : ∀ x ∈ first, 0 ≤ x ∧ x < f.period) : ∀ x ∈ first, tame 1000000 x := fun x hx => by have := h x hx; unfold tame; omega
theorem sum_in {first : List Int} {p : Int} (h : ∀ x ∈ first, 0 ≤ x ∧ x < p) (hp : p ≤ 60) (i : Nat) : 0 ≤ (first.take i).sum ∧ (first.take i).sum ≤ first.length * 60 := by
 have h1 := sum_le (l := first) (fun x hx => (h x hx).1) i
 have h2 := sum_le_mul (l := first) (b := 60) fun x hx => by have := h x hx; omega
 omega
theorem W62z (f : Fig) (first : List Int) (h : Ok62 0 f first) : PureCall Try.prog 62 [.ag (eFig f), .sl 1 ((boltsOf f).map eCan), .sl 1 (first.map eI)] (.i (leastV f first)) := by
 refine pure_body okH21 hmix Try.func62 cb62 cc62 cs62 cn62 ?_
 have hv := validF_of h.ok
 have hl := h.len
 have hk := h.k
 have hns := hv.ns
 have hng := hv.dome.ng
 have hfl : first.length = f.starts.length := by omega
 have hper := hv.period
 have g1 := q53' f (boltsOf f) first
 unfold eFig at g1
 have hcond : (first.length : Int) = f.starts.length := by omega
 have hle : leastV f first = if meetAll f (boltsOf f) first then first.sum else -1 := by unfold leastV; rw [show f.starts.length - first.length = 0 by omega]; rfl
 simp only [rc62, rs62, g1, hcond, ru_skip, ru_reg, ru_seq, ru_cnd, ite_P, ru_block, ru_ret, ru_keep, thenQ, run_nil, run_cons, Fam.step, stepQ, evO, opv, qv, binV, ldV, lenV, callV, V.cells, solid, hasRef, hasRefL, flat, upd_some, lkp_cons, lkp_nil, ↓reduceIte, Nat.reduceEqDiff, Nat.reduceAdd, Nat.reduceLT, Nat.reduceLeDiff, Int.reduceNeg, Qb, Qc, Qh, Qg, Qj, Qt, Ql, Q1, Qk, Qm, endQ, rvs, rv1, resV, vw_i, vw_sl, vw_ag, zipA, Qi, V.i.injEq, Qn, Qd, decide_true, true_and, and_true, and_self, implies_true, reduceCtorEq, Q3, Qf, Z4, eFig]
 refine ⟨ok53_of h.ok hfl (tame_in hper.2 h.in_), fun e => by rw [hle, e]; rfl, fun e => ?_⟩
 rw [hle, e, if_pos rfl]
 refine ru_count first.length (fun i => ⟨lkp [(2, .sl 1 (first.map eI)), (7, .i f.starts.length), (8, .i (first.take i).sum), (9, .i i)], []⟩) ?_ ?_ ?_
 ·simp only [Q6, List.sum_nil, kp, lkp_cons, lkp_nil, ↓reduceIte, Nat.reduceEqDiff, Qb, Qc, Zb]
 ·intro i hi
  obtain ⟨x, hx⟩ : ∃ x, first[i]? = some x := ⟨_, Qe hi⟩
  have hlt : (i : Int) < f.starts.length := by omega
  have hlt2 : (i : Int) < first.length := by omega
  have h3 : inI ((i : Int) + 1) := by unfold inI; omega
  have h5 := sum_in h.in_ hper.2 (i + 1)
  rw [sum_take hx] at h5
  have h6 : inI ((first.take i).sum + x) := by unfold inI; omega
  simp only [hx, hlt, hlt2, h3, h6, sum_take hx, Qr, Qs, ru_skip, ru_reg, ru_seq, ru_cnd, ru_block, ru_keep, thenQ, blockQ, run_nil, run_cons, Fam.step, stepQ, evO, opv, qv, binV, ldV, iadV, kp, upd_some, lkp_cons, lkp_nil, ↓reduceIte, Nat.reduceEqDiff, Nat.reduceLeDiff, Int.reduceNeg, Qb, Qc, Qh, Qg, Qk, Qo, Zh, Qi, Qd, decide_true, and_self, Zd, Qf, Q9, Qa, Qy, eI]
 ·simp only [Zx, hcond, Q2, ru_reg, ru_seq, ru_cnd, ru_exit, ru_ret, ru_keep, thenQ, blockQ, run_nil, run_cons, Fam.step, stepQ, evO, opv, qv, binV, upd_some, lkp_cons, lkp_nil, ↓reduceIte, Nat.reduceEqDiff, Int.reduceNeg, Qb, Qc, endQ, rvs, rv1, resV, vw_i, Q2, Qd, decide_false, and_self]
theorem drop_head {l : List Int} {k : Nat} {z : Int} (h : l[k]? = some z) : (X7 k (l.map eI).flatten).headD .u = .i z := by
 have e : (l.map eI).flatten = l.map V.i := by
  clear h
  induction l with
  | nil => rfl
  | cons a l ih => rw [Qb, Xe, ih]; rfl
 rw [e, ← List.map_drop]
 have hk := getElemLt h
 rw [Z7 hk]
 rw [Qe hk] at h
 rw [Xp.inj h]; rfl
set_option maxHeartbeats 1000000 in
theorem W62 (k : Nat) (hG : GOk Try.prog (HL k)) (f : Fig) (first : List Int) (h : Ok62 (k + 1) f first) (hn : first.length < f.starts.length) : PureCall Try.prog 62 [.ag (eFig f), .sl 1 ((boltsOf f).map eCan), .sl 1 (first.map eI)] (.i (leastV f first)) := by
 refine pure_body hG hmix Try.func62 cb62 cc62 cs62 cn62 ?_
 have hv := validF_of h.ok
 have hk := h.k
 have hns := hv.ns
 have hng := hv.dome.ng
 have hper := hv.period
 have hpn : (f.period.toNat : Int) = f.period := by omega
 have hcond : ¬ (first.length : Int) = f.starts.length := by omega
 obtain ⟨j, hj⟩ : ∃ j, f.starts.length - first.length = j + 1 := ⟨f.starts.length - first.length - 1, by omega⟩
 have hle : leastV f first = (Zl f.period.toNat).foldl (fun best start => leastStep f (boltsOf f) first (leastF f (boltsOf f) j) best start) (-1) := by unfold leastV; rw [hj]; rfl
 rw [hle]
 simp only [rc62, rs62, hcond, ru_skip, ru_reg, ru_seq, ru_cnd, ru_block, ru_keep, thenQ, run_nil, run_cons, Fam.step, stepQ, evO, opv, qv, binV, ldV, lenV, V.cells, solid, hasRef, hasRefL, upd_some, lkp_cons, lkp_nil, ↓reduceIte, Nat.reduceEqDiff, Nat.reduceAdd, Nat.reduceLeDiff, Int.reduceNeg, Qb, Qc, Qh, Qg, Qj, Qt, Qk, vw_i, vw_sl, vw_ag, zipA, Qi, Qn, Qd, decide_false, true_and, and_self, reduceCtorEq, Qf, eFig]
 refine ru_count f.period.toNat (fun i => ⟨lkp [(1, .sl 1 ((boltsOf f).map eCan)), (2, .sl 1 (first.map eI)), (3, .pa (eFig f)), (7, .i first.length), (10, .i ((Zl i).foldl (fun best start => leastStep f (boltsOf f) first (leastF f (boltsOf f) j) best start) (-1))), (11, .i i)], []⟩) ?_ ?_ ?_
 ·simp only [Q6, Xt, Zv, Zv, cutH, kp, cutV, lkp_cons, lkp_nil, ↓reduceIte, Nat.reduceEqDiff, Int.reduceNeg, Qb, Qc, Q1, eFig]
 ·intro i hi
  have hlt : (i : Int) < f.period := by omega
  have h3 : inI ((i : Int) + 1) := by unfold inI; omega
  obtain ⟨best, hb⟩ : ∃ best, best = (Zl i).foldl (fun best start => leastStep f (boltsOf f) first (leastF f (boltsOf f) j) best start) (-1) := ⟨_, rfl⟩
  rw [Xb, Zz, Xu, Zv, ← hb]
  have hfl : (first.map eI).flatten ++ [[V.i (i : Int)]].flatten = ((first ++ [(i : Int)]).map eI).flatten := by simp [eI]
  have hrec : leastF f (boltsOf f) j (first ++ [(i : Int)]) = leastV f (first ++ [(i : Int)]) := by
   unfold leastV
   rw [Xc, List.length_singleton, show f.starts.length - (first.length + 1) = j by omega]
  have hin : ∀ x ∈ first ++ [(i : Int)], 0 ≤ x ∧ x < f.period := by
   intro x hx
   rcases Xv.1 hx with hx | hx
   ·exact h.in_ x hx
   ·have : x = i := by simpa using hx
    omega
  have hok : Ok62 k f (first ++ [(i : Int)]) := ⟨h.ok, hin, by simp; omega, by simp; omega⟩
  have g1 := qL62 k f (first ++ [(i : Int)])
  unfold eFig at g1
  have hll : (first ++ [(i : Int)]).length = first.length + 1 := by simp
  have hci := chunk_I (first ++ [(i : Int)])
  rw [hll] at hci
  have hfit : fitsLen first.length ∧ fitsLen (first.length + 1) := by unfold fitsLen; omega
  have hlenI : ((first.map eI).flatten).length = first.length := by rw [len_I, Zp]
  have hlenI2 : (((first ++ [(i : Int)]).map eI).flatten).length = first.length + 1 := by rw [len_I, hll, Zp]
  have hres : ∀ b : Int, leastStep f (boltsOf f) first (leastF f (boltsOf f) j) best i = b → ∀ τ : Int, τ = b → τ = leastStep f (boltsOf f) first (leastF f (boltsOf f) j) best i := fun b h τ h' => by rw [h, h']
  by_cases h0 : first = []
  ·have h0' : ¬ (0 : Int) < first.length := by rw [h0]; simp
   have hstep : leastStep f (boltsOf f) first (leastF f (boltsOf f) j) best i = if 0 ≤ leastV f (first ++ [(i : Int)]) ∧ (best < 0 ∨ leastV f (first ++ [(i : Int)]) < best) then leastV f (first ++ [(i : Int)]) else best := by
    unfold leastStep
    rw [if_neg (fun h => h.1 h0), hrec]
   rw [hstep]
   simp only [hlt, h3, h0', Zy, hfl, hlenI, hlenI2, hfit.1, hfit.2, Zp, Qf, Zw, hci, vw_I, g1, ru_skip, ru_reg, ru_any, ru_seq, ru_cnd, ite_P, ru_block, ru_keep, ru_drp, chunk1, ↓cut_lkp, putBs, cutH, putB, thenQ, blockQ, run_nil, run_cons, Fam.step, stepQ, stepW, needQ, needW, condB, ug, runX, eff, nextD, fpR, fpQ, fpV, disjB, hits, putB, nv, sv, newsV, evO, opv, qv, pickV_bb, pickV_f, binV, ldV, iadV, callV, foldParts, putAt, partsOk, partsOne, V.cells, solid, cellOk, hasRef, hasRefL, flat, kp, cutV, upd_some, lkp_cons, lkp_nil, ↓reduceIte, Nat.reduceEqDiff, Nat.reduceAdd, Nat.reduceLT, Nat.reduceLeDiff, Int.reduceNeg, Qb, Qc, Zg, Q0, Qh, Qg, Qj, Qt, Ql, Zb, Q1, Qk, Qz, Qv, Qm, Qp, Qu, Q7, Zk, Qw, Zt, Q8, vw_i, vw_sl, vw_ag, vw_rf, Qi, Qx, Q4, Za, Qn, Z0, Bool.or_true, Ze, Zc, Qd, decide_true, decide_false, decide_eq_true_eq, decide_eq_false_iff_not, true_and, and_true, and_self, false_and, forall_const, implies_true, reduceCtorEq, not_false_eq_true, ne_eq, Zj, Zq, Q5, beq_true, beq_false, ite_f, ite_t, imp_self, Qf, Qa, Qy, Zm, eFig]
   refine ⟨hok, fun e => ⟨e, fun e2 => ?_⟩, fun e => ?_, fun e => ?_⟩
   ·simp [e, e2]
   ·rw [Zf, Zu, decide_eq_true_eq, decide_eq_true_eq, decide_eq_true_eq] at e
    rw [if_pos e]
    simp only [Qr, Qs]
   ·rw [if_neg (fun h => by
     have : (decide (0 ≤ leastV f (first ++ [(i : Int)])) && (decide (best < 0) || decide (leastV f (first ++ [(i : Int)]) < best))) = true := by
      rw [Zf, Zu, decide_eq_true_eq, decide_eq_true_eq, decide_eq_true_eq]; exact h
     rw [this] at e; cases e)]
    simp only [Qr, Qs]
  ·have h0' : (0 : Int) < first.length := by have := Xl.2 h0; omega
   have ht : ((first.length : Int) - 1).toNat = first.length - 1 := by omega
   have hbl : (boltsOf f).length = f.dome.gores.length := by simp [boltsOf]
   obtain ⟨lb, hlb⟩ : ∃ lb, (boltsOf f)[first.length - 1]? = some lb := ⟨_, Qe (by omega)⟩
   obtain ⟨z, hz⟩ : ∃ z, first[first.length - 1]? = some z := ⟨_, Qe (by omega)⟩
   have hz2 : (first ++ [(i : Int)])[first.length - 1]? = some z := by rw [Z8 (by omega), hz]
   have hdh := drop_head hz2
   have hzi := h.in_ z (Qq hz)
   obtain ⟨hl1, hl2⟩ := numbers_in h.ok lb (Qq hlb)
   have g2 := qL91 k f lb z i
   unfold eFig at g2
   have i1 : inI ((first.length : Int) - 1) := by unfold inI; omega
   have i2 : (0 : Int) ≤ (first.length : Int) - 1 := by omega
   have i3 : (first.length : Int) - 1 < (boltsOf f).length := by omega
   have i4 : (first.length : Int) - 1 < ((first.length + 1 : Nat) : Int) := by omega
   have i5 : first.length - 1 ≤ first.length := by omega
   have hok91 : Ok91 f lb z i := ⟨hper, hv.run, ⟨hl1, fun s hs => by have := hl2 s hs; omega⟩, by unfold tame; omega⟩
   simp only [hlt, h3, h0', Zy, hfl, hlenI, hlenI2, hfit.1, hfit.2, Zp, Qf, Zw, hci, vw_I, g1, ht, hlb, eCan, hdh, g2, i1, i2, i3, i4, i5, ru_skip, ru_reg, ru_any, ru_seq, ru_cnd, ite_P, ru_block, ru_exit, ru_keep, ru_drp, chunk1, ↓cut_lkp, putBs, cutH, putB, thenQ, blockQ, run_nil, run_cons, Fam.step, stepQ, stepW, needQ, needW, condB, ug, runX, eff, nextD, fpR, fpQ, fpV, disjB, hits, putB, nv, sv, newsV, evO, opv, qv, pickV_bb, binV, ldV, iadV, callV, foldParts, putAt, partsOk, partsOne, V.cells, solid, cellOk, hasRef, hasRefL, flat, kp, cutV, upd_some, lkp_cons, lkp_nil, ↓reduceIte, Nat.reduceEqDiff, Nat.reduceAdd, Nat.reduceLT, Nat.reduceLeDiff, Int.reduceNeg, Qb, Qc, Zg, Q0, Qh, Qg, Qj, Qt, Ql, Zb, Q1, Qk, Qz, Qv, Qm, Qp, Qu, Qo, Q7, Zk, Qw, Zt, Q8, vw_i, vw_sl, vw_ag, vw_rf, beq_self_eq_true, Qi, Qx, Q4, Za, Qn, Bool.or_true, Ze, Zc, Qd, Bool.true_eq_false, decide_true, decide_eq_true_eq, decide_eq_false_iff_not, true_and, and_true, and_self, forall_const, implies_true, reduceCtorEq, not_false_eq_true, ne_eq, Zd, Zj, Zq, Q5, beq_true, beq_false, Q3, ite_f, ite_t, imp_self, Qf, Qa, Qy, Zm, Z4, eCan, eFig]
   refine ⟨hok91, fun hJ => ?_, fun hJ => ?_⟩
   ·have hstep : leastStep f (boltsOf f) first (leastF f (boltsOf f) j) best i = best := by
     unfold leastStep
     rw [if_pos ⟨h0, by rw [hlb, hz]; exact hJ⟩]
    rw [hstep]
    simp only [Qr, Qs]
   ·have hstep : leastStep f (boltsOf f) first (leastF f (boltsOf f) j) best i = if 0 ≤ leastV f (first ++ [(i : Int)]) ∧ (best < 0 ∨ leastV f (first ++ [(i : Int)]) < best) then leastV f (first ++ [(i : Int)]) else best := by
     unfold leastStep
     rw [if_neg (fun h => by have h2 := h.2; rw [hlb, hz] at h2; simp only [Qo] at h2; rw [hJ] at h2; cases h2), hrec]
    rw [hstep]
    refine ⟨hok, fun e => ⟨e, fun e2 => ?_⟩, fun e => ?_, fun e => ?_⟩
    ·simp [e, e2]
    ·rw [Zf, Zu, decide_eq_true_eq, decide_eq_true_eq, decide_eq_true_eq] at e
     rw [if_pos e]
     simp only [Qr, Qs]
    ·rw [if_neg (fun h => by
      have : (decide (0 ≤ leastV f (first ++ [(i : Int)])) && (decide (best < 0) || decide (leastV f (first ++ [(i : Int)]) < best))) = true := by
       rw [Zf, Zu, decide_eq_true_eq, decide_eq_true_eq, decide_eq_true_eq]; exact h
      rw [this] at e; cases e)]
     simp only [Qr, Qs]
 ·simp only [hpn, Q2, ru_reg, ru_seq, ru_cnd, ru_exit, ru_ret, ru_keep, thenQ, blockQ, run_nil, run_cons, Fam.step, stepQ, evO, opv, qv, binV, ldV, upd_some, lkp_cons, lkp_nil, ↓reduceIte, Nat.reduceEqDiff, Nat.reduceAdd, Nat.reduceLeDiff, Int.reduceNeg, Qb, Qc, Qh, Qg, Qj, Qt, Qk, endQ, rvs, rv1, resV, vw_i, Q2, Qi, Qd, decide_false, and_self, eFig]
theorem okHL : ∀ k, GOk Try.prog (HL k) := by
 intro k
 induction k with
 | zero => exact okH21.ext (f := 62) (r := s62 0) (fun a w => Try.call62 a w) (fnG_ok fun a h => W62z a.1 a.2 h)
 | succ k ih =>
  refine okH21.ext (f := 62) (r := s62 (k + 1)) (fun a w => Try.call62 a w) (fnG_ok fun a h => ?_)
  by_cases hn : a.2.length < a.1.starts.length
  ·exact W62 k ih a.1 a.2 h hn
  ·exact W62z a.1 a.2 ⟨h.ok, h.in_, h.len, by omega⟩
noncomputable def H22 : Gam := HL 100
theorem okH22 : GOk Try.prog H22 := okHL 100
theorem q62 (f : Fig) (first : List Int) : H22 62 [.ag (eFig f), .sl 1 ((boltsOf f).map eCan), .sl 1 (first.map eI)] = (Ok62 100 f first, .i (leastV f first)) := qL62 100 f first
end Go.C02
set_option linter.unusedSimpArgs false
set_option linter.unusedVariables false
namespace Go.C02
open Go.Fam Go.Proofs
structure NB (r : Ring) (near : Int) (l : List Int) : Prop where
 len : l.length = r.moves.length
 in_ : ∀ x ∈ l, 0 ≤ x ∧ x < r.fig.period
 meet : ∀ i : Nat, i < r.moves.length → meetsN r.fig.period (movesAt r i) (modN (l.getD ((i + 1) % r.moves.length) 0 - l.getD i 0) r.fig.period) near = 1
structure Part (r : Ring) (near first : Int) (k : Nat) (l : List Int) (a : Int) : Prop where
 len : l.length = k + 1
 hd : l.getD 0 0 = first
 lst : l.getD k 0 = a
 in_ : ∀ x ∈ l, 0 ≤ x ∧ x < r.fig.period
 meet : ∀ i : Nat, i < k → meetsN r.fig.period (movesAt r i) (modN (l.getD (i + 1) 0 - l.getD i 0) r.fig.period) near = 1
theorem stepsOf_get {r : Ring} {near : Int} {k : Nat} (h : k < r.moves.length) : (stepsOf r near)[k]? = some (stepTo r near k r.fig.period.toNat) := by
 unfold stepsOf stepsTo
 rw [Qy, List.getElem?_range h]; rfl
theorem mem_stepTo {r : Ring} {near : Int} {k n : Nat} {s : Int} : s ∈ stepTo r near k n ↔ (0 ≤ s ∧ s < n) ∧ meetsN r.fig.period (movesAt r k) s near = 1 := by
 unfold stepTo
 simp only [Ja, X5, Xn, decide_eq_true_eq]
 constructor
 ·rintro ⟨⟨i, hi, rfl⟩, h⟩
  exact ⟨by omega, h⟩
 ·rintro ⟨h1, h2⟩
  exact ⟨⟨s.toNat, by omega, by omega⟩, h2⟩
theorem modN_self {p a : Int} (hp : 0 < p) (h : 0 ≤ a ∧ a < p) : modN a p = a := by
 rw [modN_eq hp, Xh h.1 h.2]
theorem modN_step {p a s : Int} (hp : 0 < p) (hs : 0 ≤ s ∧ s < p) : modN (modN (a + s) p - a) p = s := by
 rw [modN_eq hp, modN_eq hp, Z3, show a + s - a = s by omega, Xh hs.1 hs.2]
theorem modN_back {p a b : Int} (hp : 0 < p) (hb : 0 ≤ b ∧ b < p) : modN (a + modN (b - a) p) p = b := by
 rw [modN_eq hp, modN_eq hp, Int.add_emod_emod, show a + (b - a) = b by omega, Xh hb.1 hb.2]
theorem getD_app_lt {l m : List Int} {i : Nat} (h : i < l.length) : (l ++ m).getD i 0 = l.getD i 0 := by
 simp only [Qa]; rw [Z8 h]
theorem getD_app_len {l : List Int} {x : Int} {i : Nat} (h : i = l.length) : (l ++ [x]).getD i 0 = x := by
 subst h
 simp only [Qa]; rw [Zs (Zw _), Xm]; rfl
theorem getD_in {l : List Int} {i : Nat} {P : Int → Prop} (h : i < l.length) (hP : ∀ x ∈ l, P x) : P (l.getD i 0) := hP _ (getD_mem' h)
theorem wy_part {r : Ring} (h : OkR r) {near first : Int} (hf : 0 ≤ first ∧ first < r.fig.period) : ∀ (k : Nat) (l : List Int) (a : Int), k < r.moves.length → (Wy r.fig.period first ((stepsOf r near).take k) l a ↔ Part r near first k l a) := by
  have hp := h.period
  intro k
  induction k with
  | zero =>
    intro l a _
    rw [Zb]
    constructor
    · intro hw
      obtain ⟨rfl, rfl⟩ := wy_nil hw
      exact ⟨rfl, rfl, rfl, fun x hx => by have : x = a := by simpa using hx
                                           rw [this]; exact hf, fun i hi => by omega⟩
    · rintro ⟨h1, h2, h3, _, _⟩
      obtain ⟨x, rfl⟩ := List.length_eq_one_iff.1 h1
      simp at h2 h3
      subst h2 h3
      exact .nil
  | succ k ih =>
    intro l a hk
    rw [take_succ_of (stepsOf_get (by omega))]
    constructor
    · intro hw
      obtain ⟨l0, a0, s, hw1, hs, rfl, rfl⟩ := wy_snoc hw
      obtain ⟨h1, h2, h3, h4, h5⟩ := (ih l0 a0 (by omega)).1 hw1
      rw [mem_stepTo] at hs
      obtain ⟨hs1, hs2⟩ := hs
      have hm := modN_in (a := a0 + s) (p := r.fig.period) (by omega)
      refine ⟨by simp [h1], by rw [getD_app_lt (by omega)]; exact h2, getD_app_len h1.symm, fun x hx => ?_, fun i hi => ?_⟩
      · rcases Xv.1 hx with hx | hx
        · exact h4 x hx
        · have : x = modN (a0 + s) r.fig.period := by simpa using hx
          rw [this]; exact hm
      · by_cases e : i = k
        · subst e
          rw [getD_app_len h1.symm, getD_app_lt (by omega), h3, modN_step (by omega) (by omega)]
          exact hs2
        · rw [getD_app_lt (by omega), getD_app_lt (by omega)]
          exact h5 i (by omega)
    · rintro ⟨h1, h2, h3, h4, h5⟩
      have hne : l ≠ [] := fun e => by rw [e] at h1; simp at h1
      obtain ⟨l0, x, rfl⟩ : ∃ l0 x, l = l0 ++ [x] := ⟨_, _, (List.dropLast_concat_getLast hne).symm⟩
      have hl0 : l0.length = k + 1 := by simpa using h1
      rw [getD_app_len hl0.symm] at h3
      subst h3
      have hx := h4 x (by simp)
      have hpart : Part r near first k l0 (l0.getD k 0) := by
        refine ⟨hl0, by rw [getD_app_lt (by omega)] at h2; exact h2, rfl, fun y hy => h4 y (by simp [hy]), fun i hi => ?_⟩
        have := h5 i (by omega)
        rwa [getD_app_lt (by omega), getD_app_lt (by omega)] at this
      have hw := (ih l0 _ (by omega)).2 hpart
      have h6 := h5 k (by omega)
      rw [getD_app_len hl0.symm, getD_app_lt (by omega)] at h6
      have hb := modN_in (a := x - l0.getD k 0) (p := r.fig.period) (by omega)
      have := Wy.snoc (st := stepTo r near k r.fig.period.toNat) (s := modN (x - l0.getD k 0) r.fig.period) hw (mem_stepTo.2 ⟨by omega, h6⟩)
      rw [modN_back (by omega) hx] at this
      exact this
theorem begs_iff {r : Ring} (h : OkR r) (near : Int) (l : List Int) : Begs r near l ↔ NB r near l := by
 have hp := h.period
 have hlen := h.len
 obtain ⟨n, hn⟩ : ∃ n, r.moves.length = n + 1 := ⟨r.moves.length - 1, by omega⟩
 constructor
 ·rintro ⟨first, hf, a, hw, hm⟩
  rw [hn, Xd] at hw
  obtain ⟨h1, h2, h3, h4, h5⟩ := (wy_part h hf n l a (by omega)).1 hw
  refine ⟨by omega, h4, fun i hi => ?_⟩
  by_cases e : i = n
  ·subst e
   rw [hn, Nat.mod_self, h2, h3]
   have e : ((i + 1 : Nat) : Int) - 1 = (i : Nat) := by omega
   rw [hn, e] at hm
   exact hm
  ·rw [hn, X8 (by omega)]
   exact h5 i (by omega)
 ·rintro ⟨h1, h2, h3⟩
  have hf : 0 ≤ l.getD 0 0 ∧ l.getD 0 0 < r.fig.period := getD_in (P := fun x => 0 ≤ x ∧ x < r.fig.period) (by omega) h2
  refine ⟨l.getD 0 0, hf, l.getD n 0, ?_, ?_⟩
  ·rw [hn, Xd]
   refine (wy_part h hf n l _ (by omega)).2 ⟨by omega, rfl, rfl, h2, fun i hi => ?_⟩
   have := h3 i (by omega)
   rwa [hn, X8 (by omega)] at this
  ·have := h3 n (by omega)
   rw [hn, Nat.mod_self] at this
   have e : ((n + 1 : Nat) : Int) - 1 = (n : Nat) := by omega
   rw [hn, e]
   exact this
theorem at_wy {p : Int} (steps : List (List Int)) : ∀ (k : Nat), k ≤ steps.length → ∀ y, atS p (steps.take k) (· = 0) y ↔ ∃ l, Wy p 0 (steps.take k) l y := by
 intro k
 induction k with
 | zero =>
  intro _ y
  rw [Zb]
  constructor
  ·intro h
   have : y = 0 := h
   subst this
   exact ⟨[0], .nil⟩
  ·rintro ⟨l, hw⟩
   exact (wy_nil hw).2
 | succ k ih =>
  intro hk y
  obtain ⟨st, hst⟩ : ∃ st, steps[k]? = some st := ⟨_, Qe hk⟩
  rw [take_succ_of hst]
  unfold atS at ih ⊢
  rw [Zz]
  constructor
  ·rintro ⟨a, ha, s, hs, rfl⟩
   obtain ⟨l, hw⟩ := (ih (by omega) a).1 ha
   exact ⟨_, .snoc hw hs⟩
  ·rintro ⟨l, hw⟩
   obtain ⟨l0, a, s, hw, hs, e, _⟩ := wy_snoc hw
   exact ⟨a, (ih (by omega) a).2 ⟨l0, hw⟩, s, hs, e⟩
theorem NB.shift {r : Ring} (h : OkR r) {near : Int} {l : List Int} (hl : NB r near l) (c : Int) : NB r near (l.map fun x => modN (x + c) r.fig.period) := by
 have hp := h.period
 have hlen := h.len
 refine ⟨by rw [Qf]; exact hl.len, fun x hx => ?_, fun i hi => ?_⟩
 ·obtain ⟨y, _, rfl⟩ := X5.1 hx
  exact modN_in (by omega)
 ·have hg : ∀ j, j < r.moves.length → (l.map fun x => modN (x + c) r.fig.period).getD j 0 = modN (l.getD j 0 + c) r.fig.period := fun j hj => by
   simp only [Qa, Qy]
   rw [Qe (by rw [hl.len]; exact hj)]; rfl
  rw [hg _ (Xs _ (by omega)), hg _ hi]
  have := hl.meet i hi
  rw [← this]
  congr 1
  simp only [modN_eq (show 0 < r.fig.period by omega)]
  rw [Z3, Xg]
  congr 1; omega
theorem closed_iff {r : Ring} (h : OkR r) (near : Int) : Closed r near ↔ ∃ l, NB r near l := by
 have hp := h.period
 have hlen := h.len
 obtain ⟨n, hn⟩ : ∃ n, r.moves.length = n + 1 := ⟨r.moves.length - 1, by omega⟩
 have hsl : (stepsOf r near).length = n + 1 := by simp [stepsOf, stepsTo, hn]
 have e0 : stepsOf r near = (stepsOf r near).take n ++ [stepTo r near n r.fig.period.toNat] := by
  rw [← take_succ_of (stepsOf_get (by omega)), Zr (by omega)]
 have key : Closed r near ↔ ∃ l, Beg r near 0 l := by
  unfold Closed Beg
  rw [e0]
  unfold atS
  rw [Zz, hn, Xd]
  have hta : List.take n ((stepsOf r near).take n ++ [stepTo r near n r.fig.period.toNat]) = (stepsOf r near).take n := by
   rw [List.take_append_of_le_length (by rw [Z2]; omega), List.take_take, Nat.min_self]
  have e1 : ((n + 1 : Nat) : Int) - 1 = (n : Nat) := by omega
  rw [hta, e1]
  constructor
  ·rintro ⟨a, ha, s, hs, e⟩
   obtain ⟨l, hw⟩ := (at_wy (p := r.fig.period) (stepsOf r near) n (by omega) a).1 ha
   rw [mem_stepTo] at hs
   refine ⟨l, a, hw, ?_⟩
   have : modN (0 - a) r.fig.period = s := by rw [e]; exact modN_step (by omega) (by omega)
   rw [this]; exact hs.2
  ·rintro ⟨l, a, hw, hm⟩
   refine ⟨a, (at_wy (p := r.fig.period) (stepsOf r near) n (by omega) a).2 ⟨l, hw⟩, modN (0 - a) r.fig.period, mem_stepTo.2 ⟨?_, hm⟩, (modN_back (by omega) (by omega)).symm⟩
   have := modN_in (a := 0 - a) (p := r.fig.period) (by omega)
   omega
 rw [key]
 constructor
 ·rintro ⟨l, hl⟩
  exact ⟨l, (begs_iff h near l).1 ⟨0, by omega, hl⟩⟩
 ·rintro ⟨l, hl⟩
  have h2 := hl.shift h (- l.getD 0 0)
  obtain ⟨first, hf, hb⟩ := (begs_iff h near _).2 h2
  have : first = 0 := by
   obtain ⟨a, hw, _⟩ := hb
   rw [hn, Xd] at hw
   have hpart := (wy_part h hf n _ a (by omega)).1 hw
   have e := hpart.hd
   simp only [Qa, Qy] at e
   have hl0 := hl.len
   rw [Qe (show 0 < l.length by omega)] at e
   simp only [Zd, Qo] at e
   rw [← e, Int.add_right_neg]
   exact modN_self (by omega) (by omega)
  subst this
  exact ⟨_, hb⟩
end Go.C02
set_option linter.unusedSimpArgs false
set_option linter.unusedVariables false
namespace Go.C02
open Go.Fam Go.Proofs
def IsB (f : Fig) (l : List Int) : Prop := l.length = f.starts.length ∧ (∀ x ∈ l, 0 ≤ x ∧ x < f.period) ∧ meetAll f (boltsOf f) l = true
theorem getD_atL (l : List Int) (i : Nat) : atL l (i : Nat) = l.getD i 0 := by
 unfold atL; rw [Q9, Qa]
theorem meets_one {p : Int} {ms : List Int} {later near : Int} : meetsN p ms later near = 1 ↔ goodN p ms later near = ms.length := by
 unfold meetsN
 split
 ·simp_all
 ·rename_i h
  split <;> simp [h]
theorem many_meets {f : Fig} (h : figCheck f = 0) {starts : List Int} (hl : starts.length = f.starts.length) {i : Nat} (hi : i < f.starts.length) :
  manyBy f ((boltsOf f)[i]?.getD []) starts i = ((boltsOf f)[i]?.getD []).length ↔
   meetsN f.period (movesAt (ringOf f) i) (modN (starts.getD ((i + 1) % f.starts.length) 0 - starts.getD i 0) f.period) f.near = 1 := by
 have hv := validF_of h
 have hns := hv.ns
 have hbl : (boltsOf f).length = f.dome.gores.length := by simp [boltsOf]
 obtain ⟨l, hlb⟩ : ∃ l, (boltsOf f)[i]? = some l := ⟨_, Qe (by omega)⟩
 obtain ⟨h1, h2⟩ := numbers_in h l (Qq hlb)
 have hm : movesAt (ringOf f) i = l.map (moveBy f) := movesAt_bolts (by rw [Q9]; exact hlb)
 have e1 : ((i : Int) + 1).tmod starts.length = (((i + 1) % f.starts.length : Nat) : Int) := by
  rw [Zo (by omega), Xk, hl]; simp only [Qr, Qs]
 rw [meets_one, hm, hlb, Qo, manyBy_eq hv.period.1 hv.run (fun s hs => by have := h2 s hs; omega), Qf, e1, getD_atL, getD_atL]
theorem meetAll_iff {f : Fig} (h : figCheck f = 0) {starts : List Int} (hl : starts.length = f.starts.length) :
  meetAll f (boltsOf f) starts = true ↔ ∀ i : Nat, i < f.starts.length → meetsN f.period (movesAt (ringOf f) i) (modN (starts.getD ((i + 1) % f.starts.length) 0 - starts.getD i 0) f.period) f.near = 1 := by
 unfold meetAll
 rw [Z6]
 constructor
 ·intro ha i hi
  have := ha i (Xn.2 (by omega))
  rw [decide_eq_true_eq] at this
  exact (many_meets h hl hi).1 this
 ·intro ha i hi
  rw [Xn] at hi
  rw [decide_eq_true_eq]
  exact (many_meets h hl (by omega)).2 (ha i (by omega))
theorem isB_iff {f : Fig} (h : figCheck f = 0) (l : List Int) : IsB f l ↔ NB (ringOf f) f.near l := by
 have hns := (validF_of h).ns
 have hml : (ringOf f).moves.length = f.starts.length := by rw [hns]; simp [ringOf]
 constructor
 ·rintro ⟨h1, h2, h3⟩
  refine ⟨by rw [hml]; exact h1, h2, fun i hi => ?_⟩
  rw [hml]
  exact (meetAll_iff h h1).1 h3 i (by omega)
 ·rintro ⟨h1, h2, h3⟩
  rw [hml] at h1 h3
  exact ⟨h1, h2, (meetAll_iff h h1).2 h3⟩
def BestFrom (f : Fig) (T : List Int → Prop) (v : Int) : Prop := (v = -1 ∧ ∀ l, ¬ (T l ∧ IsB f l)) ∨ (∃ l, T l ∧ IsB f l ∧ v = l.sum ∧ ∀ l', T l' → IsB f l' → l.sum ≤ l'.sum)
theorem isB_sum {f : Fig} {l : List Int} (h : IsB f l) : 0 ≤ l.sum := by
 have := sum_le (l := l) (fun x hx => (h.2.1 x hx).1) l.length
 rw [Zx] at this
 exact this.1
theorem joins_meets {f : Fig} {l : List Int} {z b : Int} : joinsR f l z b = true ↔ l.length = (l.filter fun s => nearF f (modN (z + pull f.run s) f.period) b).length := by
 unfold joinsR
 rw [Z6]
 constructor
 ·intro h
  rw [X0.2 h]
 ·intro h s hs
  have := X0.1 (List.Sublist.eq_of_length (List.filter_sublist) h.symm)
  exact this s hs
theorem leastF_spec {f : Fig} (h : figCheck f = 0) : ∀ (k : Nat) (first : List Int), first.length + k = f.starts.length → (∀ x ∈ first, 0 ≤ x ∧ x < f.period) → BestFrom f (fun l => first <+: l) (leastF f (boltsOf f) k first) := by
 have hper := (validF_of h).period
 have hns := (validF_of h).ns
 intro k
 induction k with
 | zero =>
  intro first hl hf
  unfold leastF
  by_cases hm : meetAll f (boltsOf f) first = true
  ·rw [if_pos hm]
   refine .inr ⟨first, List.prefix_refl _, ⟨by omega, hf, hm⟩, rfl, fun l' hp hb => ?_⟩
   have : first = l' := hp.eq_of_length (by have := hb.1; omega)
   rw [this]; exact Int.le_refl _
  ·rw [if_neg hm]
   refine .inl ⟨rfl, fun l ⟨hp, hb⟩ => ?_⟩
   have : first = l := hp.eq_of_length (by have := hb.1; omega)
   subst this
   exact hm hb.2.2
 | succ k ih =>
  intro first hl hf
  unfold leastF
  have key : ∀ n : Nat, (n : Int) ≤ f.period → BestFrom f (fun l => first <+: l ∧ l.getD first.length 0 < n) ((Zl n).foldl (fun best start => leastStep f (boltsOf f) first (leastF f (boltsOf f) k) best start) (-1)) := by
   intro n
   induction n with
   | zero =>
    intro _
    refine .inl ⟨rfl, fun l ⟨⟨hp, hlt⟩, hb⟩ => ?_⟩
    have := getD_in (P := fun x => 0 ≤ x ∧ x < f.period) (show first.length < l.length by have := hb.1; omega) hb.2.1
    omega
   | succ n ihn =>
    intro hn
    have ihn := ihn (by omega)
    rw [Xb, Zz, Xu, Zv]
    obtain ⟨best, hbest⟩ : ∃ best, best = (Zl n).foldl (fun best start => leastStep f (boltsOf f) first (leastF f (boltsOf f) k) best start) (-1) := ⟨_, rfl⟩
    rw [← hbest] at ihn ⊢
    have hin : ∀ x ∈ first ++ [(n : Int)], 0 ≤ x ∧ x < f.period := by
     intro x hx
     rcases Xv.1 hx with hx | hx
     ·exact hf x hx
     ·have : x = n := by simpa using hx
      omega
    have hrec := ih (first ++ [(n : Int)]) (by simp; omega) hin
    have hsplit : ∀ l, IsB f l → (first <+: l ∧ l.getD first.length 0 < ((n + 1 : Nat) : Int)) → (first <+: l ∧ l.getD first.length 0 < n) ∨ first ++ [(n : Int)] <+: l := by
     rintro l hb ⟨hp, hlt⟩
     by_cases e : l.getD first.length 0 < n
     ·exact .inl ⟨hp, e⟩
     ·right
      obtain ⟨t, rfl⟩ := hp
      have hb1 := hb.1
      cases t with
      | nil => simp at hb1; omega
      | cons x t =>
       have : (first ++ x :: t).getD first.length 0 = x := by
        simp only [Qa]; rw [Zs (Zw _), Xm]; rfl
       rw [this] at hlt e
       have : x = n := by omega
       subst this
       exact ⟨t, by simp⟩
    have hpre : ∀ l, first ++ [(n : Int)] <+: l → first <+: l ∧ l.getD first.length 0 < ((n + 1 : Nat) : Int) := by
     rintro l ⟨t, rfl⟩
     refine ⟨⟨(n : Int) :: t, by simp⟩, ?_⟩
     have : (first ++ [(n : Int)] ++ t).getD first.length 0 = n := by
      simp only [Qa, Xf]; rw [Zs (Zw _), Xm]; rfl
     rw [this]; omega
    unfold leastStep
    by_cases hj : first ≠ [] ∧ joinsR f ((boltsOf f)[first.length - 1]?.getD []) (first[first.length - 1]?.getD 0) n = false
    ·rw [if_pos hj]
     have hnone : ∀ l, IsB f l → ¬ first ++ [(n : Int)] <+: l := by
      rintro l hb ⟨t, rfl⟩
      have hlen : 0 < first.length := Xl.2 hj.1
      have hb1 := hb.1
      have h1 := (meetAll_iff h hb1).1 hb.2.2 (first.length - 1) (by simp at hb1; omega)
      rw [← many_meets h hb1 (by simp at hb1; omega)] at h1
      have hnot := hj.2
      rw [X6] at hnot
      apply hnot
      rw [joins_meets]
      unfold manyBy at h1
      rw [← h1]
      congr 1
      refine X4 fun s _ => ?_
      unfold meetsBy
      have e1 : (((first.length - 1 : Nat) : Int) + 1).tmod (first ++ [(n : Int)] ++ t).length = (first.length : Nat) := by
       rw [Zo (by omega), show ((first.length - 1 : Nat) : Int) + 1 = first.length by omega, Xh (by omega) (by simp; omega)]
      rw [e1, getD_atL, getD_atL]
      have e2 : (first ++ [(n : Int)] ++ t).getD first.length 0 = n := by
       simp only [Qa, Xf]; rw [Zs (Zw _), Xm]; rfl
      have e3 : (first ++ [(n : Int)] ++ t).getD (first.length - 1) 0 = first[first.length - 1]?.getD 0 := by
       simp only [Qa, Xf]; rw [Z8 (by omega)]
      rw [e2, e3]
     rcases ihn with ⟨e, hno⟩ | ⟨l, ⟨hT, hlt⟩, hb, e, hmin⟩
     ·exact .inl ⟨e, fun l ⟨hT, hb⟩ => by
       rcases hsplit l hb hT with h' | h'
       ·exact hno l ⟨h', hb⟩
       ·exact hnone l hb h'⟩
     ·refine .inr ⟨l, ⟨hT, by omega⟩, hb, e, fun l' hT' hb' => ?_⟩
      rcases hsplit l' hb' hT' with h' | h'
      ·exact hmin l' h' hb'
      ·exact absurd h' (hnone l' hb')
    ·rw [if_neg hj]
     rcases hrec with ⟨e2, hno2⟩ | ⟨l2, hT2, hb2, e2, hmin2⟩
     ·rw [if_neg (by rw [e2]; omega)]
      rcases ihn with ⟨e, hno⟩ | ⟨l, ⟨hT, hlt⟩, hb, e, hmin⟩
      ·exact .inl ⟨e, fun l ⟨hT, hb⟩ => by
        rcases hsplit l hb hT with h' | h'
        ·exact hno l ⟨h', hb⟩
        ·exact hno2 l ⟨h', hb⟩⟩
      ·refine .inr ⟨l, ⟨hT, by omega⟩, hb, e, fun l' hT' hb' => ?_⟩
       rcases hsplit l' hb' hT' with h' | h'
       ·exact hmin l' h' hb'
       ·exact absurd ⟨h', hb'⟩ (hno2 l')
     ·have h0 := isB_sum hb2
      rcases ihn with ⟨e, hno⟩ | ⟨l, ⟨hT, hlt⟩, hb, e, hmin⟩
      ·rw [if_pos ⟨by omega, .inl (by omega)⟩]
       refine .inr ⟨l2, hpre l2 hT2, hb2, e2, fun l' hT' hb' => ?_⟩
       rcases hsplit l' hb' hT' with h' | h'
       ·exact absurd ⟨h', hb'⟩ (hno l')
       ·exact hmin2 l' h' hb'
      ·have h1 := isB_sum hb
       by_cases hlt2 : l2.sum < l.sum
       ·rw [if_pos ⟨by omega, .inr (by omega)⟩]
        refine .inr ⟨l2, hpre l2 hT2, hb2, e2, fun l' hT' hb' => ?_⟩
        rcases hsplit l' hb' hT' with h' | h'
        ·have := hmin l' h' hb'; omega
        ·exact hmin2 l' h' hb'
       ·rw [if_neg (by omega)]
        refine .inr ⟨l, ⟨hT, by omega⟩, hb, e, fun l' hT' hb' => ?_⟩
        rcases hsplit l' hb' hT' with h' | h'
        ·exact hmin l' h' hb'
        ·have := hmin2 l' h' hb'; omega
  have hk := key f.period.toNat (by omega)
  have hall : ∀ l, IsB f l → first <+: l → (first <+: l ∧ l.getD first.length 0 < (f.period.toNat : Int)) := fun l hb hp => by
   refine ⟨hp, ?_⟩
   have := getD_in (P := fun x => 0 ≤ x ∧ x < f.period) (show first.length < l.length by have := hb.1; omega) hb.2.1
   omega
  rcases hk with ⟨e, hno⟩ | ⟨l, ⟨hT, hlt⟩, hb, e, hmin⟩
  ·exact .inl ⟨e, fun l ⟨hp, hb⟩ => hno l ⟨hall l hb hp, hb⟩⟩
  ·exact .inr ⟨l, hT, hb, e, fun l' hp hb' => hmin l' (hall l' hb' hp) hb'⟩
theorem leastV_spec {f : Fig} (h : figCheck f = 0) : (leastV f [] = -1 ∧ ∀ l, ¬ NB (ringOf f) f.near l) ∨ (∃ l, NB (ringOf f) f.near l ∧ leastV f [] = l.sum ∧ 0 ≤ l.sum ∧ ∀ l', NB (ringOf f) f.near l' → l.sum ≤ l'.sum) := by
 have := leastF_spec h f.starts.length [] (by simp) (by simp)
 unfold leastV
 rw [Qg, Nat.sub_zero]
 rcases this with ⟨e, hno⟩ | ⟨l, _, hb, e, hmin⟩
 ·exact .inl ⟨e, fun l hl => hno l ⟨Jb, (isB_iff h l).2 hl⟩⟩
 ·exact .inr ⟨l, (isB_iff h l).1 hb, e, isB_sum hb, fun l' hl => hmin l' Jb ((isB_iff h l').2 hl)⟩
theorem leastV_best {f : Fig} (h : figCheck f = 0) : leastV f [] = (leastB (Begs (ringOf f) f.near)).getD (-1) ∧ (leastV f [] < 0 ↔ leastB (Begs (ringOf f) f.near) = none) := by
 have hb := fun l => begs_iff (okR_of h) f.near l
 rcases leastV_spec h with ⟨e, hno⟩ | ⟨l, hl, e, h0, hmin⟩
 ·have : BestOf (Begs (ringOf f) f.near) none := fun l hl => hno l ((hb l).1 hl)
  rw [leastB_eq this, e]; simp
 ·have : BestOf (Begs (ringOf f) f.near) (some l) := ⟨(hb l).2 hl, fun l' hl' => hmin l' ((hb l').1 hl')⟩
  rw [leastB_eq this, e]; simp; omega
end Go.C02
set_option linter.unusedSimpArgs false
set_option linter.unusedVariables false
namespace Go.C02
open Go.Fam Go.Proofs
theorem ok62_nil {f : Fig} (h : figCheck f = 0) : Ok62 100 f [] := ⟨h, by simp, by simp, by have hv := validF_of h; have := hv.ns; have := hv.dome.ng; simp; omega⟩
theorem q61w (f : Fig) (n : Int) : H22 61 [.ag (eFig f), .i n] = (f.starts.length < 10000000 ∧ f.times.length < 10000000, .i (openE f (within n 0 (f.dome.gores.length - 1)))) := q61 f n
theorem q54w (f : Fig) : H22 54 [.ag (eFig f)] = (figCheck f = 0 ∧ pitchE f.dome true = 0, .sl 1 ((boltsOf f).map eCan)) := q54 f
theorem W30 (f : Fig) (hs : f.starts.length < 10000000) (ht : f.times.length < 10000000) : PureCall Try.prog 30 [.ag (eFig f)] (.tp [.i (leastR f).1, .i (leastR f).2]) := by
 refine pure_body okH22 hmix Try.func30 cb30 cc30 cs30 cn30 ?_
 have g1 := q61w f 0
 rw [openE0] at g1
 have g2 := q54w f
 have g3 := q62 f []
 unfold eFig at g1 g2 g3
 simp only [rc30, rs30, g1, ru_skip, ru_reg, ru_any, ru_seq, ru_cnd, ite_P, ru_ret, ru_keep, putBs, thenQ, run_nil, run_cons, Fam.step, stepQ, runX, eff, nextD, fpR, fpQ, fpV, disjB, hits, evO, opv, qv, binV, ldV, callV, V.cells, solid, hasRef, hasRefL, flat, upd_some, lkp_cons, lkp_nil, ↓reduceIte, Nat.reduceEqDiff, Nat.reduceAdd, Nat.reduceLT, Nat.reduceLeDiff, Qb, Qc, Q0, Qh, Qg, Ql, Q1, Qz, Qv, Qm, Qu, Q7, Qw, Q8, endQ, rvs, rv1, resV, vw_i, vw_z, vw_sl, vw_ag, vw_tp, zipA, Qi, Qx, Q4, Za, Qn, Z0, Ze, Zc, Qd, decide_eq_false_iff_not, true_and, and_true, and_self, false_implies, implies_true, Zj, Q5, Q3, Qa, Zm, Classical.not_not, eFig]
 refine ⟨⟨hs, ht⟩, fun h => by simp [leastR, h], fun h => ?_⟩
 obtain ⟨h1, h2, h3⟩ := openE_ok h
 simp only [Qc] at g3
 simp only [g2, g3, hasRef, flat, vw_i, vw_sl, Qd, decide_eq_true_eq, decide_eq_false_iff_not, true_and, and_true, implies_true]
 obtain ⟨b1, b2⟩ := leastV_best h1
 refine ⟨⟨h1, h3⟩, ok62_nil h1, fun e => ?_, fun e => ?_⟩
 ·simp only [leastR, h, if_pos, b2.1 e]
 ·cases hb : leastB (Begs (ringOf f) f.near) with
  | none => exact absurd (b2.2 hb) e
  | some n => rw [hb] at b1; simp only [leastR, h, if_pos, hb, b1, Qo]
def withNear (f : Fig) (n : Int) : Fig := { f with near := n }
theorem withNear_ok {f : Fig} (h : figCheck f = 0) {n : Int} (hn : 0 ≤ n ∧ n ≤ f.period / 2) : figCheck (withNear f n) = 0 := by
 have hv := validF_of h
 have hp := hv.period
 unfold figCheck at h ⊢
 show (if check f.dome ≠ 0 then check f.dome else if goodFig (withNear f n) then 0 else 40) = 0
 split at h
 ·rename_i h1; exact absurd h h1
 ·rename_i h1
  rw [if_neg h1, if_pos]
  have hg : goodFig f = true := by
   split at h
   ·assumption
   ·cases h
  unfold goodFig at hg ⊢
  simp only [Zf] at hg ⊢
  obtain ⟨⟨⟨⟨⟨⟨a1, a2⟩, a3⟩, a4⟩, a5⟩, a6⟩, a7⟩ := hg
  refine ⟨⟨⟨⟨⟨⟨a1, a2⟩, ?_⟩, a4⟩, a5⟩, a6⟩, a7⟩
  show within n 0 (f.period.tdiv 2) = true
  rw [Z5 (by omega)]
  simp only [within, Zf, decide_eq_true_eq]
  exact hn
theorem nb_near (f : Fig) (n m : Int) (l : List Int) : NB (ringOf (withNear f n)) m l ↔ NB (ringOf f) m l :=
 ⟨fun h => ⟨h.len, h.in_, h.meet⟩, fun h => ⟨h.len, h.in_, h.meet⟩⟩
theorem least_closed {f : Fig} (h : figCheck f = 0) {n : Int} (hn : 0 ≤ n ∧ n ≤ f.period / 2) : leastV (withNear f n) [] < 0 ↔ closedB (ringOf f) n = false := by
 have hc : closedB (ringOf f) n = false ↔ ¬ Closed (ringOf f) n := by
  rw [← closedB_iff]; simp
 rw [hc, closed_iff (okR_of h) n]
 have hw := withNear_ok h hn
 rcases leastV_spec hw with ⟨e, hno⟩ | ⟨l, hl, e, h0, hmin⟩
 ·rw [e]
  constructor
  ·rintro _ ⟨l, hl⟩
   exact hno l ((nb_near f n n l).2 hl)
  ·intro _; omega
 ·rw [e]
  constructor
  ·intro h1; omega
  ·intro h1
   exact absurd ⟨l, (nb_near f n n l).1 hl⟩ h1
theorem W31 (f : Fig) (hs : f.starts.length < 10000000) (ht : f.times.length < 10000000) : PureCall Try.prog 31 [.ag (eFig f)] (.tp [.i (closestR f).1, .i (closestR f).2]) := by
 refine pure_body okH22 hmix Try.func31 cb31 cc31 cs31 cn31 ?_
 have g1 := q61w f 0
 rw [openE0] at g1
 unfold eFig at g1
 simp only [rc31, rs31, g1, ru_skip, ru_reg, ru_seq, ru_cnd, ite_P, ru_block, ru_ret, ru_keep, putB, thenQ, run_nil, run_cons, Fam.step, stepQ, stepW, needW, putB, nv, sv, evO, opv, qv, binV, ldV, curG, callV, putAt, V.cells, solid, cellOk, hasRef, hasRefL, flat, upd_some, upd_none, lkp_cons, lkp_nil, ↓reduceIte, Nat.reduceEqDiff, Nat.reduceAdd, Nat.reduceLT, Nat.reduceLeDiff, Qb, Qc, Zg, Q0, Qh, Qg, Qj, Qt, Ql, Zb, Q1, Qz, Qv, Qm, Qp, Zk, endQ, rvs, rv1, resV, vw_i, vw_sl, vw_ag, vw_tp, zipA, beq_self_eq_true, Qi, Qx, Qn, Qd, decide_eq_false_iff_not, true_and, and_true, and_self, implies_true, Q3, Classical.not_not, eFig]
 refine ⟨⟨hs, ht⟩, fun h => by simp [closestR, h], fun h => ?_⟩
 obtain ⟨h1, h2, h3⟩ := openE_ok h
 have hR := okR_of h1
 have hp := hR.period
 obtain ⟨c1, c2, c3⟩ := closestN_spec hR
 have hpe : (ringOf f).fig.period = f.period := rfl
 rw [hpe] at c1 hp
 refine ru_count (closestN (ringOf f)) (fun i => ⟨lkp [(1, .ad 0 0 0)], [.cells 0 (eFig (withNear f (i : Nat)))]⟩) ?_ ?_ ?_
 ·simp only [Q6, withNear, kp, lkp_cons, lkp_nil, ↓reduceIte, Qb, Qc, eFig]
 ·intro i hi
  have hin : 0 ≤ (i : Int) ∧ (i : Int) ≤ f.period / 2 := by omega
  have g2 := q54w (withNear f i)
  have g3 := q62 (withNear f i) []
  simp only [Qc] at g3
  have hlt := (least_closed h1 hin).2 (c3 i hi)
  have hw := withNear_ok h1 hin
  have h4 : inI ((i : Int) + 1) := by unfold inI; omega
  simp only [eFig, withNear] at g2 g3 hlt hw
  simp only [withNear, g2, g3, hlt, h4, Qr, Qs, ru_skip, ru_reg, ru_any, ru_seq, ru_cnd, ru_block, ru_keep, putBs, putB, thenQ, blockQ, run_nil, run_cons, Fam.step, stepQ, stepW, needW, runX, eff, nextD, fpR, fpQ, fpV, disjB, hits, putB, nv, sv, evO, opv, qv, binV, ldV, curG, callV, putAt, V.cells, solid, cellOk, hasRef, hasRefL, flat, kp, upd_some, upd_none, lkp_cons, lkp_nil, ↓reduceIte, Nat.reduceEqDiff, Nat.reduceAdd, Nat.reduceLT, Nat.reduceLeDiff, Qb, Qc, Zg, Q0, Qh, Qg, Qj, Qt, Ql, Zb, Q1, Qk, Qz, Qv, Qm, Qp, Qu, Q7, Zk, Qw, Q8, vw_i, vw_z, vw_sl, vw_ag, beq_self_eq_true, Qi, Qx, Q4, Za, Qn, Ze, Zc, Qd, decide_true, true_and, and_true, and_self, implies_true, Zj, Zq, Q5, imp_self, Qa, eFig]
  exact ⟨⟨hw, h3⟩, ok62_nil hw⟩
 ·have hin : 0 ≤ (closestN (ringOf f) : Int) ∧ (closestN (ringOf f) : Int) ≤ f.period / 2 := by omega
  have g2 := q54w (withNear f (closestN (ringOf f)))
  have g3 := q62 (withNear f (closestN (ringOf f))) []
  simp only [Qc] at g3
  have hlt : ¬ leastV (withNear f (closestN (ringOf f))) [] < 0 := fun h => by
   have := (least_closed h1 hin).1 h
   rw [c2] at this; cases this
  have hw := withNear_ok h1 hin
  simp only [eFig, withNear] at g2 g3 hlt hw
  simp only [withNear, g2, g3, hlt, closestR, h, ru_reg, ru_any, ru_seq, ru_cnd, ru_exit, ru_ret, ru_keep, putBs, thenQ, blockQ, run_nil, run_cons, Fam.step, stepQ, runX, eff, nextD, fpR, fpQ, fpV, disjB, hits, evO, opv, qv, binV, ldV, curG, callV, hasRef, hasRefL, flat, upd_some, lkp_cons, lkp_nil, ↓reduceIte, Nat.reduceEqDiff, Nat.reduceAdd, Nat.reduceLT, Nat.reduceLeDiff, Qb, Qc, Q0, Qh, Qg, Qj, Qt, Ql, Q1, Qk, Qz, Qv, Qm, Qp, Qu, Q7, Qw, Q8, endQ, rvs, rv1, resV, vw_i, vw_z, vw_sl, vw_ag, vw_tp, beq_self_eq_true, Qi, Qx, Q4, Za, Qn, Ze, Zc, Qd, decide_false, true_and, and_true, and_self, implies_true, Zj, Zq, Q5, imp_self, Qa, eFig]
  exact ⟨⟨hw, h3⟩, ok62_nil hw⟩
end Go.C02
set_option linter.unusedSimpArgs false
set_option linter.unusedVariables false
namespace Go.C02
open Go.Fam Go.Proofs
noncomputable def H23 : Gam := (H22.ext 30 (fnG (fun f => [.ag (eFig f)]) decF (fun f => f.starts.length < 10000000 ∧ f.times.length < 10000000) leastR (fun r => .tp [.i r.1, .i r.2]))).ext 31 (fnG (fun f => [.ag (eFig f)]) decF (fun f => f.starts.length < 10000000 ∧ f.times.length < 10000000) closestR (fun r => .tp [.i r.1, .i r.2]))
theorem okH23 : GOk Try.prog H23 := by
 have k1 := okH22.ext (f := 30) (fun a w => Try.call30 a w) (fnG_ok (e := fun f => [.ag (eFig f)]) (d := decF) (ok := fun f => f.starts.length < 10000000 ∧ f.times.length < 10000000) (g := leastR) (eb := fun r => .tp [.i r.1, .i r.2]) fun f h => W30 f h.1 h.2)
 exact k1.ext (f := 31) (fun a w => Try.call31 a w) (fnG_ok fun f h => W31 f h.1 h.2)
theorem seg_mod (t : List Int) (f m : Nat) : seg t (f % t.length) m = seg t f m := by
 unfold seg
 refine List.map_congr_left fun q _ => ?_
 rw [Nat.mod_add_mod]
def eFNat (a : Fig × Nat × Nat) : List V := [.ag (eFig a.1), .i a.2.1, .i a.2.2]
def dFNat : List V → Fig × Nat × Nat | [.ag r, .i n, .i m] => (dFig r, n.toNat, m.toNat) | _ => (dFig [], 0, 0)
theorem dFNat_e (a : Fig × Nat × Nat) : dFNat (eFNat a) = a := by obtain ⟨r, n, m⟩ := a; simp [dFNat, eFNat, dFig_e]
structure Ok64 (k : Nat) (f : Fig) (fr m : Nat) : Prop where
 t : OkT f.times
 hfr : fr + 20 * m ≤ 1000
 hm : m ≤ 16
 hk : m ≤ k
def s64 (k : Nat) : List V → Prop × V := fnG eFNat dFNat (fun a => Ok64 k a.1 a.2.1 a.2.2) (fun a => Dn (seg a.1.times (a.2.1 + 1) a.2.2)) .i
noncomputable def HS (k : Nat) : Gam := H23.ext 64 (s64 k)
theorem q64 (k : Nat) (f : Fig) (fr m : Nat) : HS k 64 [.ag (eFig f), .i fr, .i m] = (Ok64 k f fr m, .i (Dn (seg f.times (fr + 1) m))) :=
 (show HS k 64 _ = s64 k (eFNat (f, fr, m)) from rfl).trans (fnG_at _ (dFNat_e _))
def bestTo (l : List Int) (i : Nat) : Int := if i = 0 then -1 else minL (l.take i)
theorem bestTo_succ {l : List Int} {i : Nat} {x : Int} (hx : l[i]? = some x) (h0 : ∀ y ∈ l, 0 ≤ y) : bestTo l (i + 1) = if bestTo l i < 0 ∨ x < bestTo l i then x else bestTo l i := by
 unfold bestTo
 rw [if_neg (by omega), take_succ_of hx, minL_snoc]
 have hl := getElemLt hx
 by_cases hi : i = 0
 ·subst hi; simp
 ·rw [if_neg hi]
  have hne : l.take i ≠ [] := by intro e; have := congrArg List.length e; rw [Z2, Qg] at this; omega
  have := h0 _ (List.mem_of_mem_take (minL_mem hne))
  have h2 : ¬ minL (l.take i) < 0 := by omega
  simp only [hne, false_or, h2]
theorem W64z (f : Fig) (fr : Nat) : PureCall Try.prog 64 [.ag (eFig f), .i fr, .i ((0 : Nat) : Int)] (.i (Dn (seg f.times (fr + 1) 0))) := by
 refine pure_body okH23 hmix Try.func64 cb64 cc64 cs64 cn64 ?_
 simp only [rc64, rs64, Q6, ru_reg, ru_seq, ru_cnd, ru_ret, ru_keep, thenQ, run_nil, run_cons, Fam.step, stepQ, evO, opv, qv, binV, V.cells, solid, hasRef, hasRefL, upd_some, lkp_cons, lkp_nil, ↓reduceIte, Nat.reduceEqDiff, Nat.reduceAdd, Int.reduceNeg, Qb, Qc, endQ, rvs, rv1, resV, vw_i, vw_sl, vw_ag, zipA, Qi, V.i.injEq, Qn, decide_true, true_and, and_self, reduceCtorEq, eFig]
 rfl
theorem W64 (k : Nat) (hG : GOk Try.prog (HS k)) (f : Fig) (fr m : Nat) (h : Ok64 (k + 1) f fr m) (hm : m ≠ 0) : PureCall Try.prog 64 [.ag (eFig f), .i fr, .i m] (.i (Dn (seg f.times (fr + 1) m))) := by
 refine pure_body hG hmix Try.func64 cb64 cc64 cs64 cn64 ?_
 have hT := h.t
 have hl1 := hT.1
 have hl2 := hT.2.1
 have hm16 := h.hm
 have hfr := h.hfr
 have hk := h.hk
 have hm0 : ¬ (m : Int) = 0 := by omega
 obtain ⟨C, hC⟩ : ∃ C, C = costs (seg f.times (fr + 1) m) := ⟨_, rfl⟩
 have hCl : C.length = m := by rw [hC, costs_len, seg_len]
 have hCp : ∀ y ∈ C, 0 ≤ y := by
  intro y hy
  obtain ⟨i, hi⟩ := Xx hy
  have hil := getElemLt hi
  rw [hCl] at hil
  rw [hC, costs_get (by rw [seg_len]; exact hil)] at hi
  rw [← Xp.inj hi, seg_take (Nat.le_of_lt hil), seg_get hil]
  have d1 := Dn_seg hT (f := fr + 1) (m := i) (by omega)
  have := getD_in (P := fun x => 1 ≤ x ∧ x ≤ 99) (Xs (fr + 1 + i) (show 0 < f.times.length by omega)) hT.2.2
  omega
 simp only [rc64, rs64, hm0, ru_skip, ru_reg, ru_seq, ru_cnd, ru_block, ru_keep, thenQ, run_nil, run_cons, Fam.step, stepQ, evO, opv, qv, binV, ldV, lenV, V.cells, solid, hasRef, hasRefL, upd_some, lkp_cons, lkp_nil, ↓reduceIte, Nat.reduceEqDiff, Nat.reduceAdd, Nat.reduceLeDiff, Int.reduceNeg, Qb, Qc, Qh, Qg, Qj, Qt, Qk, vw_i, vw_sl, vw_ag, zipA, Qi, Qn, Qd, decide_false, true_and, and_self, reduceCtorEq, Qf, eFig]
 refine ru_count m (fun i => ⟨lkp [(1, .i fr), (2, .i m), (3, .pa (eFig f)), (7, .i f.times.length), (8, .i (bestTo C i)), (9, .i ((i : Int) + 1))], []⟩) ?_ ?_ ?_
 ·simp only [Q6, bestTo, kp, lkp_cons, lkp_nil, ↓reduceIte, Nat.reduceEqDiff, Int.reduceNeg, Int.reduceAdd, Qb, Qc, eFig]
 ·intro i hi
  have hlt : (i : Int) + 1 ≤ m := by omega
  have i1 : inI ((i : Int) + 1 + 1) := by unfold inI; omega
  have i2 : inI ((i : Int) + 1 - 1) := by unfold inI; omega
  have i3 : inI ((fr : Int) + ((i : Int) + 1)) := by unfold inI; omega
  have i4 : inI ((m : Int) - ((i : Int) + 1)) := by unfold inI; omega
  have e1 : (i : Int) + 1 - 1 = (i : Nat) := by omega
  have e2 : (fr : Int) + ((i : Int) + 1) = ((fr + i + 1 : Nat) : Int) := by omega
  have e3 : (m : Int) - ((i : Int) + 1) = ((m - i - 1 : Nat) : Int) := by omega
  have g1 := q64 k f fr i
  have g2 := q64 k f (fr + i + 1) (m - i - 1)
  unfold eFig at g1 g2
  have hcg := costs_get (l := seg f.times (fr + 1) m) (i := i) (by rw [seg_len]; exact hi)
  rw [seg_take (Nat.le_of_lt hi), seg_get hi, seg_drop, seg_mod, ← hC] at hcg
  have hmod : (fr + 1 + i) % f.times.length < f.times.length := Xs _ (by omega)
  obtain ⟨x, hx⟩ : ∃ x, f.times[(fr + 1 + i) % f.times.length]? = some x := ⟨_, Qe hmod⟩
  have hx1 := hT.2.2 x (Qq hx)
  have hx2 : f.times.getD ((fr + 1 + i) % f.times.length) 0 = x := by rw [Qa, hx]; rfl
  rw [hx2] at hcg
  have d1 := Dn_seg hT (f := fr + 1) (m := i) (by omega)
  have d2 := Dn_seg hT (f := fr + i + 1 + 1) (m := m - i - 1) (by omega)
  have e4 : ((fr + i + 1 : Nat) : Int).tmod f.times.length = (((fr + 1 + i) % f.times.length : Nat) : Int) := by
   rw [Zo (by omega), Xk, show fr + i + 1 = fr + 1 + i by omega]
  have i5 : (((fr + 1 + i) % f.times.length : Nat) : Int) < f.times.length := by omega
  rw [show fr + 1 + i + 1 = fr + i + 1 + 1 by omega] at hcg
  obtain ⟨y, hy⟩ : ∃ y, y = max (Dn (seg f.times (fr + 1) i)) (Dn (seg f.times (fr + i + 1 + 1) (m - i - 1))) + x := ⟨_, rfl⟩
  rw [← hy] at hcg
  have i6 : inI y := by unfold inI; omega
  have i7 : ¬ (f.times.length : Int) = 0 := by omega
  rw [bestTo_succ hcg hCp]
  have i9 : (0 : Int) ≤ ((fr + i + 1 : Nat) : Int) := by omega
  simp only [hlt, i1, e1, e2, e3, g1, g2, e4, i5, hx, ← hy, i6, i7, ru_skip, ru_reg, ru_any, ru_seq, ru_cnd, ite_P, ru_block, ru_keep, putBs, thenQ, blockQ, run_nil, run_cons, Fam.step, stepQ, needQ, condB, ug, runX, eff, nextD, fpR, fpQ, fpV, disjB, hits, evO, opv, qv, pickV_bb, binV, ldV, iadV, callV, hasRef, hasRefL, flat, kp, upd_some, lkp_cons, lkp_nil, ↓reduceIte, Nat.reduceEqDiff, Nat.reduceAdd, Nat.reduceLT, Nat.reduceLeDiff, Qb, Qc, Zg, Q0, Qh, Qg, Qj, Qt, Ql, Q1, Qk, Qz, Qv, Qm, Qu, Qo, Q7, Qw, Q8, vw_i, vw_sl, vw_ag, Zh, Qi, Qx, Q4, Za, Qn, Ze, Zc, Qd, decide_true, decide_eq_true_eq, decide_eq_false_iff_not, true_and, and_true, and_self, implies_true, not_false_eq_true, ne_eq, Zd, Zj, Q5, beq_false, Q3, ite_t, imp_self, Qf, Q9, Qa, Qy, Zm, eI, eFig]
  refine ⟨by unfold inI; omega, ⟨hT, by omega, by omega, by omega⟩, by unfold inI; omega, by unfold inI; omega, ⟨hT, by omega, by omega, by omega⟩, by unfold inI; omega, fun e => ?_, fun e => ?_⟩
  ·rw [Zu, decide_eq_true_eq, decide_eq_true_eq] at e
   simp only [if_pos e, Qr, Qs]
  ·rw [Zn, decide_eq_false_iff_not, decide_eq_false_iff_not] at e
   simp only [if_neg (not_or.2 e), Qr, Qs]
 ·have hne : ¬ (m : Int) + 1 ≤ m := by omega
  have hfull : bestTo C m = Dn (seg f.times (fr + 1) m) := by
   unfold bestTo
   rw [if_neg hm, Dn_eq, ← hC, Zr (by omega)]
  simp only [hne, hfull, ru_reg, ru_seq, ru_cnd, ru_exit, ru_ret, ru_keep, thenQ, blockQ, run_nil, run_cons, Fam.step, stepQ, evO, opv, qv, binV, upd_some, lkp_cons, lkp_nil, ↓reduceIte, Nat.reduceEqDiff, Qb, Qc, endQ, rvs, rv1, resV, vw_i, Qd, decide_false, and_self, eFig]
theorem okHS : ∀ k, GOk Try.prog (HS k) := by
 intro k
 induction k with
 | zero =>
  refine okH23.ext (f := 64) (r := s64 0) (fun a w => Try.call64 a w) (fnG_ok fun a h => ?_)
  have := h.hk
  have e : a.2.2 = 0 := by omega
  unfold eFNat
  rw [e]
  exact W64z a.1 a.2.1
 | succ k ih =>
  refine okH23.ext (f := 64) (r := s64 (k + 1)) (fun a w => Try.call64 a w) (fnG_ok fun a h => ?_)
  by_cases hm : a.2.2 = 0
  ·unfold eFNat
   rw [hm]
   exact W64z a.1 a.2.1
  ·exact W64 k ih a.1 a.2.1 a.2.2 h hm
noncomputable def H24 : Gam := HS 100
theorem okH24 : GOk Try.prog H24 := okHS 100
theorem q64' (f : Fig) (fr m : Nat) : H24 64 [.ag (eFig f), .i fr, .i m] = (Ok64 100 f fr m, .i (Dn (seg f.times (fr + 1) m))) := q64 100 f fr m
theorem q25x (f : Fig) : H24 25 [.ag (eFig f)] = (f.starts.length < 10000000 ∧ f.times.length < 10000000, .i (figCheck f)) := q25 f
def soonestR (f : Fig) : Int × Int := if figCheck f ≠ 0 then (0, figCheck f) else (minL (ringC f.times), 0)
theorem ringC_pos {t : List Int} (h : OkT t) : ∀ y ∈ ringC t, 0 ≤ y ∧ y ≤ 2000 := by
 intro y hy
 obtain ⟨i, hi⟩ := Xx hy
 have hil := getElemLt hi
 rw [ringC_len] at hil
 rw [ringC_get hil] at hi
 rw [← Xp.inj hi]
 have := h.2.1
 have d1 := Dn_seg h (f := (i + 1) % t.length) (m := t.length - 1) (by omega)
 have := getD_in (P := fun x => 1 ≤ x ∧ x ≤ 99) hil h.2.2
 omega
theorem W34 (f : Fig) (hs : f.starts.length < 10000000) (ht : f.times.length < 10000000) : PureCall Try.prog 34 [.ag (eFig f)] (.tp [.i (soonestR f).1, .i (soonestR f).2]) := by
 refine pure_body okH24 hmix Try.func34 cb34 cc34 cs34 cn34 ?_
 have g1 := q25x f
 unfold eFig at g1
 simp only [rc34, rs34, g1, ru_skip, ru_reg, ru_seq, ru_cnd, ite_P, ru_block, ru_ret, ru_keep, thenQ, run_nil, run_cons, Fam.step, stepQ, evO, opv, qv, binV, ldV, callV, V.cells, solid, hasRef, hasRefL, flat, upd_some, lkp_cons, lkp_nil, ↓reduceIte, Nat.reduceEqDiff, Nat.reduceAdd, Nat.reduceLT, Nat.reduceLeDiff, Int.reduceNeg, Qb, Qc, Qh, Qg, Ql, Q1, Qm, Qu, endQ, rvs, rv1, resV, vw_i, vw_sl, vw_ag, vw_tp, zipA, Qi, Qn, Qd, decide_eq_false_iff_not, true_and, and_true, and_self, implies_true, Q3, Classical.not_not, eFig]
 refine ⟨⟨hs, ht⟩, fun h => by simp [soonestR, h], fun h => ?_⟩
 have hT := okT_of h
 have hl1 := hT.1
 have hl2 := hT.2.1
 have hCl := ringC_len f.times
 refine ru_count f.times.length (fun i => ⟨lkp [(1, .pa (eFig f)), (5, .i (bestTo (ringC f.times) i)), (6, .i i)], []⟩) ?_ ?_ ?_
 ·simp only [Q6, bestTo, kp, lkp_cons, lkp_nil, ↓reduceIte, Nat.reduceEqDiff, Int.reduceNeg, Qb, Qc, eFig]
 ·intro i hi
  have hlt : (i : Int) < f.times.length := by omega
  have i1 : inI ((i : Int) + 1) := by unfold inI; omega
  have e3 : (f.times.length : Int) - 1 = ((f.times.length - 1 : Nat) : Int) := by omega
  have g2 := q64' f i (f.times.length - 1)
  unfold eFig at g2
  have hcg := ringC_get hi
  rw [seg_mod] at hcg
  obtain ⟨x, hx⟩ : ∃ x, f.times[i]? = some x := ⟨_, Qe hi⟩
  have hx1 := hT.2.2 x (Qq hx)
  have hx2 : f.times.getD i 0 = x := by rw [Qa, hx]; rfl
  rw [hx2] at hcg
  have d1 := Dn_seg hT (f := i + 1) (m := f.times.length - 1) (by omega)
  obtain ⟨y, hy⟩ : ∃ y, y = Dn (seg f.times (i + 1) (f.times.length - 1)) + x := ⟨_, rfl⟩
  rw [← hy] at hcg
  have i6 : inI y := by unfold inI; omega
  rw [bestTo_succ hcg fun y hy => (ringC_pos hT y hy).1]
  simp only [hlt, i1, e3, g2, hx, ← hy, i6, ru_skip, ru_reg, ru_any, ru_seq, ru_cnd, ite_P, ru_block, ru_keep, putBs, thenQ, blockQ, run_nil, run_cons, Fam.step, stepQ, needQ, condB, ug, runX, eff, nextD, fpR, fpQ, fpV, disjB, hits, evO, opv, qv, pickV_bb, binV, ldV, iadV, lenV, callV, hasRef, hasRefL, flat, kp, upd_some, lkp_cons, lkp_nil, ↓reduceIte, Nat.reduceEqDiff, Nat.reduceAdd, Nat.reduceLT, Nat.reduceLeDiff, Qb, Qc, Zg, Q0, Qh, Qg, Qj, Qt, Ql, Q1, Qk, Qz, Qv, Qm, Qu, Qo, Q7, Qw, Q8, vw_i, vw_sl, vw_ag, Zh, Qi, Qx, Q4, Za, Qn, Ze, Zc, Qd, decide_true, decide_eq_true_eq, decide_eq_false_iff_not, true_and, and_true, and_self, implies_true, Zd, Zj, Q5, beq_false, Q3, ite_t, imp_self, Qf, Q9, Qa, Qy, Zm, eI, eFig]
  refine ⟨by unfold inI; omega, ⟨hT, by omega, by omega, by omega⟩, fun e => ?_, fun e => ?_⟩
  ·rw [Zu, decide_eq_true_eq, decide_eq_true_eq] at e
   simp only [if_pos e, Qr, Qs]
  ·rw [Zn, decide_eq_false_iff_not, decide_eq_false_iff_not] at e
   simp only [if_neg (not_or.2 e), Qr, Qs]
 ·have hfull : bestTo (ringC f.times) f.times.length = minL (ringC f.times) := by
   unfold bestTo
   rw [if_neg (by omega), Zr (by omega)]
  simp only [Q2, hfull, soonestR, h, ru_reg, ru_seq, ru_cnd, ru_exit, ru_ret, ru_keep, thenQ, blockQ, run_nil, run_cons, Fam.step, stepQ, evO, opv, qv, binV, ldV, lenV, upd_some, lkp_cons, lkp_nil, ↓reduceIte, Nat.reduceEqDiff, Nat.reduceLeDiff, Qb, Qc, Qh, Qg, Qj, Qt, Qk, Qu, endQ, rvs, rv1, resV, vw_i, vw_tp, Q2, Qi, Qd, decide_false, and_self, not_true_eq_false, ne_eq, Qf, eFig]
def endF (t b : List Int) : Nat → Int
 | 0 => 0
 | i + 1 => max (endF t b i) (b.getD i 0 + t.getD i 0)
theorem W28 (f : Fig) (b : List Int) (hl : b.length ≤ f.times.length) (hn : f.times.length < 100000) (ht : ∀ x ∈ f.times, tame 1000000 x) (hb : ∀ x ∈ b, tame 10000000 x) : PureCall Try.prog 28 [.ag (eFig f), .sl 1 (b.map eI)] (.i (endF f.times b b.length)) := by
 refine pure_body okH24 hmix Try.func28 cb28 cc28 cs28 cn28 ?_
 simp only [rc28, rs28, ru_reg, ru_seq, ru_block, ru_keep, thenQ, run_nil, run_cons, Fam.step, stepQ, evO, opv, qv, V.cells, solid, hasRef, hasRefL, upd_some, lkp_cons, lkp_nil, ↓reduceIte, Nat.reduceEqDiff, Qb, Qc, vw_i, vw_sl, vw_ag, zipA, Qi, Qn, true_and, and_self, reduceCtorEq, eFig]
 refine ru_count b.length (fun i => ⟨lkp [(1, .sl 1 (b.map eI)), (2, .pa (eFig f)), (5, .i (endF f.times b i)), (6, .i i)], []⟩) ?_ ?_ ?_
 ·simp only [Q6, endF, kp, lkp_cons, lkp_nil, ↓reduceIte, Nat.reduceEqDiff, Qb, Qc, eFig]
 ·intro i hi
  obtain ⟨x, hx⟩ : ∃ x, f.times[i]? = some x := ⟨_, Qe (by omega)⟩
  obtain ⟨y, hy⟩ : ∃ y, b[i]? = some y := ⟨_, Qe hi⟩
  have hx1 := ht x (Qq hx)
  have hy1 := hb y (Qq hy)
  have hlt : (i : Int) < b.length := by omega
  have hlt2 : (i : Int) < f.times.length := by omega
  have i1 : inI ((i : Int) + 1) := by unfold inI; omega
  have i2 : inI (y + x) := by unfold tame at hx1 hy1; unfold inI; omega
  have e1 : b.getD i 0 = y := by rw [Qa, hy]; rfl
  have e2 : f.times.getD i 0 = x := by rw [Qa, hx]; rfl
  simp only [hlt, hlt2, i1, i2, hx, hy, endF, e1, e2, Qr, Qs, ru_skip, ru_reg, ru_any, ru_seq, ru_cnd, ru_block, ru_keep, putBs, thenQ, blockQ, run_nil, run_cons, Fam.step, stepQ, runX, eff, nextD, fpR, fpQ, fpV, disjB, hits, evO, opv, qv, binV, ldV, iadV, lenV, kp, upd_some, lkp_cons, lkp_nil, ↓reduceIte, Nat.reduceEqDiff, Nat.reduceLeDiff, Qb, Qc, Q0, Qh, Qg, Qj, Qt, Qk, Qz, Qv, Qm, Qu, Qo, Q7, Qw, Q8, Zh, Qi, Qx, Q4, Za, Qn, Ze, Zc, Qd, decide_true, and_self, Zd, Zj, Q5, Qf, Q9, Qa, Qy, eI, eFig]
 ·simp only [Q2, ru_reg, ru_seq, ru_cnd, ru_exit, ru_ret, ru_keep, thenQ, blockQ, run_nil, run_cons, Fam.step, stepQ, evO, opv, qv, binV, lenV, upd_some, lkp_cons, lkp_nil, ↓reduceIte, Nat.reduceEqDiff, Qb, Qc, endQ, rvs, rv1, resV, vw_i, Q2, Qd, decide_false, and_self, Qf, eFig]
end Go.C02
set_option linter.unusedSimpArgs false
set_option linter.unusedVariables false
namespace Go.C02
open Go.Fam Go.Proofs
def occ1 (t b : List Int) (seam : Nat) (out : List Bool) (i : Nat) : List Bool :=
 if b.getD i 0 + t.getD i 0 ≤ b.getD seam 0 ∧ (out.getD i false = true ∨ out.getD ((i + 1) % b.length) false = true) then (out.set i true).set ((i + 1) % b.length) true else out
def occR (t b : List Int) (seam : Nat) (out : List Bool) (j : Nat) : List Bool := (Zl j).foldl (occ1 t b seam) out
def occ0 (b : List Int) (seam : Nat) : List Bool := ((Xi b.length false).set seam true).set ((seam + 1) % b.length) true
def occI (t b : List Int) (seam : Nat) : Nat → List Bool
 | 0 => occ0 b seam
 | k + 1 => occR t b seam (occI t b seam k) b.length
def occN (t b : List Int) (seam : Nat) : List Bool := occI t b seam b.length
theorem occ1_len (t b : List Int) (seam : Nat) (out : List Bool) (i : Nat) : (occ1 t b seam out i).length = out.length := by
 unfold occ1; split <;> simp
theorem occR_len (t b : List Int) (seam : Nat) (out : List Bool) (j : Nat) : (occR t b seam out j).length = out.length := by
 unfold occR
 induction j with
 | zero => rfl
 | succ j ih => rw [Xb, Zz, Xu, Zv, occ1_len]; exact ih
theorem occI_len (t b : List Int) (seam k : Nat) : (occI t b seam k).length = b.length := by
 induction k with
 | zero => simp [occI, occ0]
 | succ k ih => rw [occI, occR_len, ih]
theorem occR_succ (t b : List Int) (seam : Nat) (out : List Bool) (j : Nat) : occR t b seam out (j + 1) = occ1 t b seam (occR t b seam out j) j := by
 unfold occR; rw [Xb, Zz]; rfl
def eB (x : Bool) : List V := [.b x]
theorem putB_set {l : List Bool} {i : Nat} (h : i < l.length) (v : Bool) : (l.map V.b).take i ++ [V.b v] ++ (l.map V.b).drop (i + 1) = (l.set i v).map V.b := by
 have := putAt_set i (.b v) (l.map V.b) (by simpa using h)
 rw [List.map_set, ← this]; rfl
theorem dropB_head {l : List Bool} {k : Nat} (h : k < l.length) : (X7 k (l.map V.b)).headD .u = .b (l.getD k false) := by
 rw [← List.map_drop, Z7 h, Qa, Qe h]; rfl
theorem chunk_B (l : List Bool) : chunk 1 (l.map V.b) 0 l.length = l.map eB := by
 have := chunk_flat (e := eB) (k := 1) (fun _ => rfl) l
 have e : (l.map eB).flatten = l.map V.b := by
  clear this
  induction l with
  | nil => rfl
  | cons a l ih => rw [Qb, Xe, ih]; rfl
 rwa [e] at this
theorem vw_B (hp : List Blk) (n : Nat) (l : List Bool) : (l.map eB).map (fun r => r.map (vw hp (n + 1))) = l.map eB := map_vw_rows (e := eB) hp (n + 1) (fun _ => rfl) l
structure Ok60 (t b : List Int) (seam : Nat) : Prop where
 hb : b.length = t.length ∧ t.length ≤ 1000
 hs : seam < b.length
 ht : ∀ x ∈ t, tame 1000000 x
 hv : ∀ x ∈ b, tame 1000000 x
set_option maxHeartbeats 1000000 in
theorem W60 (f : Fig) (b : List Int) (seam : Nat) (h : Ok60 f.times b seam) : PureCall Try.prog 60 [.ag (eFig f), .sl 1 (b.map eI), .i seam] (.sl 1 ((occN f.times b seam).map eB)) := by
 refine pure_body okH24 hmix Try.func60 cb60 cc60 cs60 cn60 ?_
 have hb1 := h.hb.1
 have hb2 := h.hb.2
 have hsm := h.hs
 have hn1 : (seam + 1) % b.length < b.length := Xs _ (by omega)
 have e1 : ((seam : Int) + 1).tmod b.length = (((seam + 1) % b.length : Nat) : Int) := by
  rw [Zo (by omega), Xk]; simp only [Qr, Qs]
 have i1 : inI ((seam : Int) + 1) := by unfold inI; omega
 have i2 : ¬ (b.length : Int) = 0 := by omega
 have i3 : (seam : Int) < b.length := by omega
 have i4 : (((seam + 1) % b.length : Nat) : Int) < b.length := by omega
 have hrep : (Xi b.length [V.b false]).flatten = (Xi b.length false).map V.b := by
  rw [List.flatten_replicate_singleton, List.map_replicate]
 have hp1 := putB_set (l := Xi b.length false) (i := seam) (by simpa using hsm) true
 have hp2 := putB_set (l := (Xi b.length false).set seam true) (i := (seam + 1) % b.length) (by simpa using hn1) true
 simp only [rc60, rs60, e1, i1, i2, i3, i4, hrep, Zp, hp1, hp2, Xw, Q9, ru_reg, ru_any, ru_seq, ru_block, ru_keep, putBs, optL, thenQ, run_nil, run_cons, Fam.step, stepQ, stepW, needW, runX, eff, nextD, fpR, fpQ, fpV, disjB, hits, nv, sv, evO, opv, qv, binV, iadV, lenV, putAt, V.cells, solid, cellOk, hasRef, hasRefL, upd_some, upd_none, lkp_cons, lkp_nil, ↓reduceIte, Nat.reduceEqDiff, Nat.reduceAdd, Qb, Qc, Zg, Q0, Qh, Qg, Qz, Qv, Qm, Qp, Zi, Qu, Qo, Q7, Zk, Qw, Q8, Xj, vw_i, vw_sl, vw_ag, zipA, Zh, Qi, Qx, Q4, Z9, Za, Qn, Z0, Ze, Zc, true_and, and_true, and_self, reduceCtorEq, not_false_eq_true, ne_eq, Xr, Zj, Zq, Q5, Qf, Q9, Qa, List.length_replicate, eFig]
 refine ⟨⟨Int.le_refl _, by omega⟩, by omega, by omega, ?_⟩
 refine ru_count b.length (fun j => ⟨lkp [(1, .sl 1 (b.map eI)), (2, .i seam), (3, .pa (eFig f)), (7, .i b.length), (8, .rf 0 0 0 b.length 1), (9, .i j)], [.cells 0 ((occI f.times b seam j).map V.b)]⟩) ?_ ?_ ?_
 ·simp only [Q6, occI, occ0, kp, lkp_cons, lkp_nil, ↓reduceIte, Nat.reduceEqDiff, Qb, Qc, eFig]
 ·intro j hj
  have hlt : (j : Int) < b.length := by omega
  have i5 : inI ((j : Int) + 1) := by unfold inI; omega
  obtain ⟨O, hO⟩ : ∃ O, O = occI f.times b seam j := ⟨_, rfl⟩
  have hOl : O.length = b.length := by rw [hO, occI_len]
  rw [← hO]
  simp only [hlt, ru_skip, ru_reg, ru_seq, ru_cnd, ru_block, ru_keep, thenQ, run_nil, run_cons, Fam.step, stepQ, evO, opv, qv, binV, kp, upd_some, lkp_cons, lkp_nil, ↓reduceIte, Nat.reduceEqDiff, Qb, Qc, decide_true, true_and, eFig]
  refine ru_count b.length (fun i => ⟨lkp [(1, .sl 1 (b.map eI)), (2, .i seam), (3, .pa (eFig f)), (7, .i b.length), (8, .rf 0 0 0 b.length 1), (9, .i j), (10, .i i)], [.cells 0 ((occR f.times b seam O i).map V.b)]⟩) ?_ ?_ ?_
  ·simp only [Q6, occR, Xt, Zv, Zv, kp, lkp_cons, lkp_nil, ↓reduceIte, Nat.reduceEqDiff, Qb, Qc, eFig]
  ·intro i hi
   obtain ⟨R, hR⟩ : ∃ R, R = occR f.times b seam O i := ⟨_, rfl⟩
   have hRl : R.length = b.length := by rw [hR, occR_len, hOl]
   rw [occR_succ, ← hR]
   have hlti : (i : Int) < b.length := by omega
   have hlti2 : (i : Int) < f.times.length := by omega
   have i6 : inI ((i : Int) + 1) := by unfold inI; omega
   have hn2 : (i + 1) % b.length < b.length := Xs _ (by omega)
   have i7 : (((i + 1) % b.length : Nat) : Int) < b.length := by omega
   have e2 : ((i : Int) + 1).tmod b.length = (((i + 1) % b.length : Nat) : Int) := by
    rw [Zo (by omega), Xk]; simp only [Qr, Qs]
   obtain ⟨x, hx⟩ : ∃ x, f.times[i]? = some x := ⟨_, Qe (by omega)⟩
   obtain ⟨y, hy⟩ : ∃ y, b[i]? = some y := ⟨_, Qe hi⟩
   obtain ⟨z, hz⟩ : ∃ z, b[seam]? = some z := ⟨_, Qe hsm⟩
   have hx1 := h.ht x (Qq hx)
   have hy1 := h.hv y (Qq hy)
   have i8 : inI (y + x) := by unfold tame at hx1 hy1; unfold inI; omega
   have c1 : b.getD i 0 = y := by rw [Qa, hy]; rfl
   have c2 : f.times.getD i 0 = x := by rw [Qa, hx]; rfl
   have c3 : b.getD seam 0 = z := by rw [Qa, hz]; rfl
   have hd1 := dropB_head (l := R) (k := i) (by omega)
   have hd2 := dropB_head (l := R) (k := (i + 1) % b.length) (by omega)
   have hl1 : i + 1 ≤ b.length := by omega
   have hl2 : (i + 1) % b.length + 1 ≤ b.length := by omega
   have hq1 := putB_set (l := R) (i := i) (by omega) true
   have hq2 := putB_set (l := R.set i true) (i := (i + 1) % b.length) (by rw [Xw]; omega) true
   obtain ⟨o1, ho1⟩ : ∃ o1, o1 = R.getD i false := ⟨_, rfl⟩
   obtain ⟨o2, ho2⟩ : ∃ o2, o2 = R.getD ((i + 1) % b.length) false := ⟨_, rfl⟩
   rw [← ho1] at hd1
   rw [← ho2] at hd2
   unfold occ1
   rw [c1, c2, c3, ← ho1, ← ho2]
   simp only [hlti, hlti2, i6, i7, i2, i3, e2, hx, hy, hz, i8, Zp, hd1, hd2, hRl, hl1, hl2, hq1, hq2, Xw, ru_skip, ru_reg, ru_any, ru_seq, ru_cnd, ite_P, ru_block, ru_keep, putBs, optL, thenQ, blockQ, run_nil, run_cons, Fam.step, stepQ, needQ, needW, condB, ug, runX, eff, nextD, fpR, fpQ, fpV, disjB, hits, nv, sv, evO, opv, qv, pickV_bb, binV, ldV, iadV, putAt, V.cells, solid, cellOk, kp, upd_some, upd_none, lkp_cons, lkp_nil, ↓reduceIte, Nat.reduceEqDiff, Nat.reduceLeDiff, Qb, Qc, Zg, Q0, Qh, Qg, Qj, Qt, Qk, Qz, Qv, Qm, Qp, Zi, Qu, Qo, Q7, Zk, Qw, Q8, Xj, Zh, Qi, Qx, Q4, Z9, Za, Qn, Z0, Ze, Zc, Qd, decide_true, decide_eq_true_eq, decide_eq_false_iff_not, true_and, and_true, and_self, implies_true, not_false_eq_true, ne_eq, Zd, Xr, Zj, Zq, Q5, beq_true, beq_false, ite_f, ite_t, Z1, imp_self, Qf, Q9, Qa, Qy, Zm, eI, eFig]
   refine ⟨fun e => ⟨e, fun e2 => by simp [e, e2]⟩, fun e => ?_, fun e => ?_⟩
   ·rw [Zf, decide_eq_true_eq, Zu] at e
    simp only [if_pos e, Qr, Qs]
   ·have e' : ¬ (y + x ≤ z ∧ (o1 = true ∨ o2 = true)) := fun h => by
     have : (decide (y + x ≤ z) && (o1 || o2)) = true := by rw [Zf, decide_eq_true_eq, Zu]; exact h
     rw [this] at e; cases e
    simp only [if_neg e', Qr, Qs]
  ·have e3 : occI f.times b seam (j + 1) = occR f.times b seam O b.length := by rw [occI, ← hO]
   simp only [Q2, Qr, Qs, e3, i5, ru_reg, ru_seq, ru_cnd, ru_exit, ru_keep, thenQ, blockQ, run_nil, run_cons, Fam.step, stepQ, evO, opv, qv, binV, upd_some, lkp_cons, lkp_nil, ↓reduceIte, Nat.reduceEqDiff, Qb, Qc, Q2, Qd, decide_false, and_self, eFig]
 ·have e4 := occI_len f.times b seam b.length
  have e5 := chunk_B (occI f.times b seam b.length)
  rw [e4] at e5
  simp only [Q2, Zp, e4, e5, Zw, vw_B, ru_reg, ru_seq, ru_cnd, ru_exit, ru_ret, ru_keep, thenQ, blockQ, run_nil, run_cons, Fam.step, stepQ, evO, opv, qv, binV, upd_some, lkp_cons, lkp_nil, ↓reduceIte, Nat.reduceEqDiff, Qb, Qc, Qp, endQ, rvs, rv1, resV, vw_rf, Q2, Qi, Qd, decide_false, true_and, and_self, Qf, eFig]
  rfl
def eFBN (a : Fig × List Int × Nat) : List V := [.ag (eFig a.1), .sl 1 (a.2.1.map eI), .i a.2.2]
def dFBN : List V → Fig × List Int × Nat | [.ag r, .sl _ k, .i n] => (dFig r, k.map dI, n.toNat) | _ => (dFig [], [], 0)
theorem dFBN_e (a : Fig × List Int × Nat) : dFBN (eFBN a) = a := by obtain ⟨r, k, n⟩ := a; simp [dFBN, eFBN, dFig_e, Function.comp_def, dI_eI]
def s60 : List V → Prop × V := fnG eFBN dFBN (fun a => Ok60 a.1.times a.2.1 a.2.2) (fun a => occN a.1.times a.2.1 a.2.2) (fun l => .sl 1 (l.map eB))
noncomputable def H25 : Gam := H24.ext 60 s60
theorem okH25 : GOk Try.prog H25 := okH24.ext (f := 60) (r := s60) (fun a w => Try.call60 a w) (fnG_ok fun a h => W60 a.1 a.2.1 a.2.2 h)
theorem q60 (f : Fig) (b : List Int) (n : Nat) : H25 60 [.ag (eFig f), .sl 1 (b.map eI), .i n] = (Ok60 f.times b n, .sl 1 ((occN f.times b n).map eB)) :=
 (show H25 60 _ = s60 (eFBN (f, b, n)) from rfl).trans (fnG_at _ (dFBN_e _))
theorem q52y (l : List Int) (m lo up : Int) : H25 52 [.sl 1 (l.map eI), .i m, .i lo, .i up] = (l.length < 10000000, .b (allN l m lo up)) := h52 l m lo up
def noClash (t b : List Int) (a c : Nat) : Bool :=
 decide (b.getD c 0 + t.getD c 0 ≤ b.getD a 0) || decide (b.getD a 0 + t.getD a 0 ≤ b.getD c 0) || (Zl b.length).all fun g => !((occN t b a).getD g false && (occN t b c).getD g false)
def canSewR (t b : List Int) : Bool := allN b t.length 0 1000000 && (Zl b.length).all fun a => (Zl a).all fun c => noClash t b a c
theorem occN_len (t b : List Int) (seam : Nat) : (occN t b seam).length = b.length := occI_len _ _ _ _
set_option maxHeartbeats 1000000 in
theorem W27 (f : Fig) (b : List Int) (hT : OkT f.times) (hl : b.length < 10000000) : PureCall Try.prog 27 [.ag (eFig f), .sl 1 (b.map eI)] (.b (canSewR f.times b)) := by
 refine pure_body okH25 hmix Try.func27 cb27 cc27 cs27 cn27 ?_
 have hl1 := hT.1
 have hl2 := hT.2.1
 simp only [rc27, rs27, q52y, ru_skip, ru_reg, ru_seq, ru_cnd, ite_P, ru_block, ru_ret, ru_keep, thenQ, run_nil, run_cons, Fam.step, stepQ, evO, opv, qv, ldV, lenV, callV, V.cells, solid, hasRef, hasRefL, flat, upd_some, lkp_cons, lkp_nil, ↓reduceIte, Nat.reduceEqDiff, Nat.reduceLT, Nat.reduceLeDiff, Qb, Qc, Qh, Qg, Qj, Qt, Qk, Qm, endQ, rvs, rv1, resV, vw_i, vw_b, vw_sl, vw_ag, zipA, Qi, V.b.injEq, Qn, Qd, true_and, and_true, and_self, implies_true, reduceCtorEq, Q3, Qf, Z4, eFig]
 refine ⟨hl, fun e => by simp [canSewR, e], fun e => ?_⟩
 have hcs : canSewR f.times b = (Zl b.length).all fun a => (Zl a).all fun c => noClash f.times b a c := by simp [canSewR, e]
 rw [allN_eq, Zf, decide_eq_true_eq, Z6] at e
 obtain ⟨hbl, hbx⟩ := e
 have hbt : ∀ x ∈ b, tame 1000000 x := fun x hx => by have := hbx x hx; simp only [within, Zf, decide_eq_true_eq] at this; unfold tame; omega
 have htt : ∀ x ∈ f.times, tame 1000000 x := fun x hx => by have := hT.2.2 x hx; unfold tame; omega
 have hok : ∀ a : Nat, a < b.length → Ok60 f.times b a := fun a ha => ⟨⟨hbl, by omega⟩, ha, htt, hbt⟩
 rw [hcs]
 refine ru_countC b.length (fun a => ⟨lkp [(1, .sl 1 (b.map eI)), (2, .pa (eFig f)), (5, .i a)], []⟩) (fun a => (Zl a).all (fun a => (Zl a).all fun c => noClash f.times b a c) = true) ?_ rfl ?_ ?_
 ·simp only [Q6, kp, lkp_cons, lkp_nil, ↓reduceIte, Nat.reduceEqDiff, Qb, Qc, eFig]
 ·intro a ha hA
  have hlta : (a : Int) < b.length := by omega
  have hlta2 : (a : Int) < f.times.length := by omega
  have i1 : inI ((a : Int) + 1) := by unfold inI; omega
  obtain ⟨xa, hxa⟩ : ∃ x, f.times[a]? = some x := ⟨_, Qe (by omega)⟩
  obtain ⟨ya, hya⟩ : ∃ y, b[a]? = some y := ⟨_, Qe ha⟩
  have hxa1 := htt xa (Qq hxa)
  have hya1 := hbt ya (Qq hya)
  have i2 : inI (ya + xa) := by unfold tame at hxa1 hya1; unfold inI; omega
  have ca1 : b.getD a 0 = ya := by rw [Qa, hya]; rfl
  have ca2 : f.times.getD a 0 = xa := by rw [Qa, hxa]; rfl
  simp only [hlta, ru_skip, ru_reg, ru_seq, ru_cnd, ru_block, ru_keep, thenQ, run_nil, run_cons, Fam.step, stepQ, evO, opv, qv, binV, lenV, kp, upd_some, lkp_cons, lkp_nil, ↓reduceIte, Nat.reduceEqDiff, Qb, Qc, decide_true, true_and, Qf, eFig]
  refine ru_countC a (fun c => ⟨lkp [(1, .sl 1 (b.map eI)), (2, .pa (eFig f)), (5, .i a), (6, .i c)], []⟩) (fun c => (Zl c).all (fun c => noClash f.times b a c) = true) ?_ rfl ?_ ?_
  ·simp only [Q6, kp, lkp_cons, lkp_nil, ↓reduceIte, Nat.reduceEqDiff, Qb, Qc, eFig]
  ·intro c hc hC
   have hltc : (c : Int) < a := by omega
   have hltcb : (c : Int) < b.length := by omega
   have hltc2 : (c : Int) < f.times.length := by omega
   have i3 : inI ((c : Int) + 1) := by unfold inI; omega
   obtain ⟨xc, hxc⟩ : ∃ x, f.times[c]? = some x := ⟨_, Qe (by omega)⟩
   obtain ⟨yc, hyc⟩ : ∃ y, b[c]? = some y := ⟨_, Qe (by omega)⟩
   have hxc1 := htt xc (Qq hxc)
   have hyc1 := hbt yc (Qq hyc)
   have i4 : inI (yc + xc) := by unfold tame at hxc1 hyc1; unfold inI; omega
   have cc1 : b.getD c 0 = yc := by rw [Qa, hyc]; rfl
   have cc2 : f.times.getD c 0 = xc := by rw [Qa, hxc]; rfl
   have hnc : noClash f.times b a c = (decide (yc + xc ≤ ya) || decide (ya + xa ≤ yc) || (Zl b.length).all fun g => !((occN f.times b a).getD g false && (occN f.times b c).getD g false)) := by unfold noClash; rw [ca1, ca2, cc1, cc2]
   have g1 := q60 f b a
   have g2 := q60 f b c
   unfold eFig at g1 g2
   simp only [hltc, hlta, hlta2, hltcb, hltc2, i2, i3, i4, hxa, hya, hxc, hyc, g1, g2, ru_skip, ru_reg, ru_any, ru_seq, ru_cnd, ite_P, ru_block, ru_exit, ru_keep, putBs, thenQ, blockQ, run_nil, run_cons, Fam.step, stepQ, needQ, condB, ug, runX, eff, nextD, fpR, fpQ, fpV, disjB, hits, evO, opv, qv, pickV_bb, binV, ldV, iadV, callV, hasRef, hasRefL, flat, kp, upd_some, lkp_cons, lkp_nil, ↓reduceIte, Nat.reduceEqDiff, Nat.reduceAdd, Nat.reduceLT, Nat.reduceLeDiff, Qb, Qc, Zg, Q0, Qh, Qg, Qj, Qt, Ql, Q1, Qk, Qz, Qv, Qm, Qu, Qo, Q7, Qw, Q8, vw_i, vw_sl, vw_ag, Zh, Qi, Qx, Q4, Za, Qn, Ze, Zc, Qd, decide_true, decide_eq_true_eq, decide_eq_false_iff_not, true_and, and_true, and_self, implies_true, Zd, Zj, Q5, beq_false, Q3, ite_t, imp_self, Qf, Q9, Qa, Qy, Zm, eI, eFig]
   refine ⟨fun e => ⟨allR_succ hC (by rw [hnc, e]; rfl), ?_⟩, fun e => ⟨hok a ha, hok c (by omega), ?_⟩⟩
   ·simp only [Qr, Qs]
   refine ru_countC b.length (fun g => ⟨lkp [(1, .sl 1 (b.map eI)), (2, .pa (eFig f)), (5, .i a), (6, .i c), (7, .sl 1 ((occN f.times b a).map eB)), (8, .sl 1 ((occN f.times b c).map eB)), (9, .i g)], []⟩) (fun g => (Zl g).all (fun g => !((occN f.times b a).getD g false && (occN f.times b c).getD g false)) = true) ?_ rfl ?_ ?_
   ·simp only [Q6, kp, lkp_cons, lkp_nil, ↓reduceIte, Nat.reduceEqDiff, Qb, Qc, eFig]
   ·intro g hg hG
    have hltg : (g : Int) < b.length := by omega
    have i5 : inI ((g : Int) + 1) := by unfold inI; omega
    obtain ⟨u, hu⟩ : ∃ u, (occN f.times b a)[g]? = some u := ⟨_, Qe (by rw [occN_len]; exact hg)⟩
    obtain ⟨v, hv⟩ : ∃ v, (occN f.times b c)[g]? = some v := ⟨_, Qe (by rw [occN_len]; exact hg)⟩
    have cu : (occN f.times b a).getD g false = u := by rw [Qa, hu]; rfl
    have cv : (occN f.times b c).getD g false = v := by rw [Qa, hv]; rfl
    simp only [hltg, i5, hu, hv, occN_len, eB, ru_skip, ru_reg, ru_seq, ru_cnd, ite_P, ru_block, ru_ret, ru_keep, thenQ, blockQ, run_nil, run_cons, Fam.step, stepQ, needQ, condB, ug, evO, opv, qv, pickV_bb, binV, ldV, iadV, lenV, kp, upd_some, lkp_cons, lkp_nil, ↓reduceIte, Nat.reduceEqDiff, Nat.reduceLeDiff, Qb, Qc, Zg, Q0, Qh, Qg, Qk, Qo, endQ, rvs, rv1, resV, vw_b, Zh, Qi, V.b.injEq, Qx, Q4, Qd, decide_true, true_and, and_true, and_self, implies_true, Zd, beq_true, ite_f, Z1, imp_self, Qf, Q9, Qa, Qy, Zm, eFig]
    refine ⟨fun e1 => ?_, fun e1 => ⟨?_, ?_⟩⟩
    ·rw [allR_false ha]
     refine allR_false hc ?_
     rw [hnc, e, Z0]
     exact allR_false hg (by rw [cu, cv]; simp [e1])
    ·have := allR_succ hG (i := g) (by rw [cu, cv]; simp [e1])
     simpa only [Qa] using this
    ·simp only [Qr, Qs]
   ·intro hG
    simp only [Q2, ru_reg, ru_seq, ru_cnd, ru_exit, ru_keep, thenQ, blockQ, run_nil, run_cons, Fam.step, stepQ, evO, opv, qv, binV, lenV, upd_some, lkp_cons, lkp_nil, ↓reduceIte, Nat.reduceEqDiff, Qb, Qc, Q2, Qd, decide_false, true_and, Qf, eFig]
    refine ⟨i3, allR_succ hC (by rw [hnc, e, hG]; rfl), ?_⟩
    simp only [Qr, Qs]
  ·intro hC
   simp only [Q2, Qr, Qs, ru_reg, ru_seq, ru_cnd, ru_exit, ru_keep, thenQ, blockQ, run_nil, run_cons, Fam.step, stepQ, evO, opv, qv, binV, upd_some, lkp_cons, lkp_nil, ↓reduceIte, Nat.reduceEqDiff, Qb, Qc, Q2, Qd, decide_false, true_and, and_true, eFig]
   exact ⟨i1, allR_succ hA hC⟩
 ·intro hA
  simp only [Q2, hA, ru_reg, ru_seq, ru_cnd, ru_exit, ru_ret, ru_keep, thenQ, blockQ, run_nil, run_cons, Fam.step, stepQ, evO, opv, qv, binV, lenV, upd_some, lkp_cons, lkp_nil, ↓reduceIte, Nat.reduceEqDiff, Qb, Qc, endQ, rvs, rv1, resV, vw_b, Q2, Qd, decide_false, and_self, Qf, eFig]
end Go.C02
set_option linter.unusedSimpArgs false
set_option linter.unusedVariables false
namespace Go.C02
open Go.Fam Go.Proofs
theorem far_ok22 {d : Dome} (h : far d = false) : Ok22 d := by
 unfold far at h
 split at h
 ·cases h
 rename_i h1
 split at h
 ·cases h
 rename_i h2
 have h1 : bigs d = false := by simpa using h1
 unfold bigs at h1
 simp only [Zn, decide_eq_false_iff_not] at h1
 refine ⟨by omega, by omega, by omega, by omega, fun b hb => ?_⟩
 have h2 : d.bolts.any (fun b => decide ((60 : Int) < b.strips.length)) = false := by simpa using h2
 have := List.any_eq_false.1 h2 b hb
 simp only [decide_eq_true_eq] at this
 omega
theorem z61 (f : Fig) (n : Int) : H25 61 [.ag (eFig f), .i n] = (f.starts.length < 10000000 ∧ f.times.length < 10000000, .i (openE f (within n 0 (f.dome.gores.length - 1)))) := q61 f n
theorem z57 (d : Dome) : H25 57 [.ag (eDome d)] = (True, .b (far d)) :=
 (show H25 57 _ = r21 [.ag (eDome d)] from rfl).trans (fnG_at (e := fun d => [.ag (eDome d)]) _ (dDome_e _))
theorem z55 (d : Dome) : H25 55 [.ag (eDome d)] = (Ok22 d, .ag (eDome d)) :=
 (show H25 55 _ = r22 [.ag (eDome d)] from rfl).trans (fnG_at (e := fun d => [.ag (eDome d)]) _ (dDome_e _))
theorem W36 (f : Fig) (hs : f.starts.length < 10000000) (ht : f.times.length < 10000000) : PureCall Try.prog 36 [.ag (eFig f)] (.i (openE f true)) := by
 refine pure_body okH25 hmix Try.func36 cb36 cc36 cs36 cn36 ?_
 have g1 := z61 f 0
 rw [openE0] at g1
 unfold eFig at g1
 simp only [rc36, rs36, g1, ru_reg, ru_seq, ru_ret, ru_keep, thenQ, run_nil, run_cons, Fam.step, stepQ, evO, opv, qv, ldV, callV, V.cells, solid, hasRef, hasRefL, flat, upd_some, lkp_cons, lkp_nil, ↓reduceIte, Nat.reduceEqDiff, Nat.reduceAdd, Nat.reduceLT, Nat.reduceLeDiff, Qb, Qc, Qh, Qg, Ql, Q1, Qm, endQ, rvs, rv1, resV, vw_i, vw_sl, vw_ag, zipA, Qi, Qn, Qd, true_and, and_true, and_self, implies_true, eFig]
 exact ⟨hs, ht⟩
def farRing (f : Fig) : Bool := far f.dome || decide (60 < f.starts.length) || decide (60 < f.times.length)
theorem W24 (f : Fig) : PureCall Try.prog 24 [.ag (eFig f)] (.b (farRing f)) := by
 refine pure_body okH25 hmix Try.func24 cb24 cc24 cs24 cn24 ?_
 have g1 := z57 f.dome
 unfold eDome at g1
 simp only [rc24, rs24, g1, ru_reg, ru_seq, ru_ret, ru_keep, thenQ, run_nil, run_cons, Fam.step, stepQ, needQ, condB, ug, evO, opv, qv, pickV_bb, binV, ldV, lenV, callV, V.cells, solid, hasRef, hasRefL, flat, upd_some, lkp_cons, lkp_nil, ↓reduceIte, Nat.reduceEqDiff, Nat.reduceAdd, Nat.reduceLT, Nat.reduceLeDiff, Qb, Qc, Zg, Q0, Qh, Qg, Qj, Qt, Ql, Zb, Qk, Qm, endQ, rvs, rv1, resV, vw_i, vw_b, vw_sl, vw_ag, zipA, Qi, V.b.injEq, Qx, Q4, Qn, Qd, true_and, and_true, and_self, implies_true, beq_false, Q3, ite_t, Z1, imp_self, Qf, eFig]
 have e1 : decide ((60 : Int) < f.starts.length) = decide (60 < f.starts.length) := by simp only [decide_eq_decide]; omega
 have e2 : decide ((60 : Int) < f.times.length) = decide (60 < f.times.length) := by simp only [decide_eq_decide]; omega
 simp only [farRing, e1, e2]
structure Ok21 (f : Fig) : Prop where
 d : Ok22 f.dome
 s : f.starts.length < 1000000
 t : f.times.length < 1000000
theorem farRing_ok {f : Fig} (h : farRing f = false) : Ok21 f := by
 unfold farRing at h
 simp only [Zn, decide_eq_false_iff_not] at h
 exact ⟨far_ok22 h.1.1, by omega, by omega⟩
theorem W21 (f : Fig) (h : Ok21 f) : PureCall Try.prog 21 [.ag (eFig f)] (.ag (eFig f)) := by
 refine pure_body okH25 hmix Try.func21 cb21 cc21 cs21 cn21 ?_
 have g1 := z55 f.dome
 unfold eDome at g1
 have hs := h.s
 have ht := h.t
 simp only [rc21, rs21, g1, Zy, len_I, Zp, Qf, Zw, chunk_I, vw_I, ru_reg, ru_any, ru_seq, ru_ret, ru_keep, putBs, optL, putB, thenQ, run_nil, run_cons, Fam.step, stepQ, stepW, needW, runX, eff, nextD, fpR, fpQ, fpV, disjB, hits, putB, nv, sv, newsV, evO, opv, qv, ldV, curG, callV, foldParts, putAt, partsOk, partsOne, V.cells, solid, cellOk, hasRef, hasRefL, flat, flatL, upd_some, upd_none, lkp_cons, lkp_nil, ↓reduceIte, Nat.reduceEqDiff, Nat.reduceAdd, Nat.reduceLT, Nat.reduceLeDiff, Nat.reduceBEq, Qb, Qc, Zg, Q0, Qh, Qg, Qj, Qt, Xq, Ql, Zb, Q1, Qk, Qz, Qv, Qm, Qp, Zi, Qu, Qo, Q7, Zk, X2, Qw, Zt, Q8, Xj, endQ, rvs, rv1, resV, vw_i, vw_sl, vw_ag, vw_rf, zipA, beq_self_eq_true, Qi, X3, Qx, Q4, Z9, Za, Xy, Qn, Z0, Ze, Zc, Qd, true_and, and_true, and_self, Xr, Zj, Zq, Q5, imp_self, Qf, Qa, eFig]
 exact ⟨h.d, by unfold fitsLen; omega, by unfold fitsLen; omega⟩
def copyF (f : Fig) : List V := [.sl 4 (f.dome.bolts.map eBolt), .sl 1 (f.dome.gores.map eI), .i f.dome.loss, .sl 2 (f.dome.rounds.map eSpan), .sl 1 (f.dome.widths.map eI), .i f.dome.slope,
 .i f.period, .i f.run, .i f.near, .rf 2 1 0 f.starts.length 1, .rf 4 1 0 f.times.length 1]
def copyFH (f : Fig) : List Blk := [.cells 0 (copyF f), .cells 0 (copyF f), .cells 1 (f.starts.map eI).flatten, .hole, .cells 1 (f.times.map eI).flatten, .hole]
theorem O21 (f : Fig) (h : Ok21 f) : OwnCall Try.prog 21 [.ag (eFig f)] (.ag (copyF f)) (copyFH f) := by
 refine own_body okH25 hmix Try.func21 cb21 cc21 cs21 cn21 ?_
 have g1 := z55 f.dome
 unfold eDome at g1
 have hs := h.s
 have ht := h.t
 simp only [rc21, rs21, g1, endO, Zy, copyF, copyFH, Qf, ru_reg, ru_any, ru_seq, ru_ret, ru_keep, putBs, optL, putB, endO, thenQ, run_nil, run_cons, Fam.step, stepQ, stepW, needW, runX, eff, nextD, fpR, fpQ, fpV, disjB, hits, putB, nv, sv, newsV, evO, opv, qv, ldV, curG, callV, foldParts, putAt, partsOk, partsOne, V.cells, solid, cellOk, hasRef, hasRefL, flat, flatL, upd_some, upd_none, lkp_cons, lkp_nil, ↓reduceIte, Nat.reduceEqDiff, Nat.reduceAdd, Nat.reduceMul, Nat.reduceLT, Nat.reduceLeDiff, Nat.reduceBEq, Qb, Qc, Zg, Q0, Qh, Qg, Qj, Qt, Xq, Ql, Zb, Q1, Qk, Qz, Qv, Qm, Qp, Zi, Qu, Qo, Q7, Zk, X2, Qw, Zt, Q8, Xj, rvs, rv1, resV, vw_i, vw_sl, vw_ag, zipA, beq_self_eq_true, Qi, X3, Qx, Q4, Z9, Za, Xy, Qn, Z0, Ze, Zc, Qd, true_and, and_true, and_self, Xr, Zj, Zq, Q5, imp_self, Qf, Qa, eFig]
 exact ⟨h.d, by unfold fitsLen; omega, by unfold fitsLen; omega⟩
theorem mem_take_succ {l : List Int} {i : Nat} {x n : Int} (hx : l[i]? = some x) : n ∈ l.take (i + 1) ↔ n ∈ l.take i ∨ n = x := by
 rw [take_succ_of hx]; simp
theorem W23 (l : List Int) (n : Int) (h : l.length < 10000000) : PureCall Try.prog 23 [.sl 1 (l.map eI), .i n] (.b (decide (n ∈ l))) := by
 refine pure_body okH25 hmix Try.func23 cb23 cc23 cs23 cn23 ?_
 simp only [rc23, rs23, ru_reg, ru_seq, ru_block, ru_keep, thenQ, run_nil, run_cons, Fam.step, stepQ, evO, opv, qv, upd_some, lkp_cons, lkp_nil, ↓reduceIte, Nat.reduceEqDiff, Qb, Qc, zipA, Qi, true_and, reduceCtorEq]
 refine ru_countC l.length (fun i => ⟨lkp [(0, .sl 1 (l.map eI)), (1, .i n), (5, .i i)], []⟩) (fun i => n ∉ l.take i) ?_ (by simp) ?_ ?_
 ·simp only [Q6, kp, lkp_cons, lkp_nil, ↓reduceIte, Nat.reduceEqDiff, Qb, Qc, reduceCtorEq]
 ·intro i hi hC
  obtain ⟨x, hx⟩ : ∃ x, l[i]? = some x := ⟨_, Qe hi⟩
  have hlt : (i : Int) < l.length := by omega
  have h3 : inI ((i : Int) + 1) := by unfold inI; omega
  simp only [hx, hlt, h3, Qr, Qs, ru_skip, ru_reg, ru_seq, ru_cnd, ite_P, ru_block, ru_ret, ru_keep, thenQ, blockQ, run_nil, run_cons, Fam.step, stepQ, evO, opv, qv, binV, ldV, iadV, lenV, kp, upd_some, lkp_cons, lkp_nil, ↓reduceIte, Nat.reduceEqDiff, Nat.reduceLeDiff, Qb, Qc, Qh, Qg, Qk, Qo, endQ, rvs, rv1, resV, vw_b, Zh, Qi, V.b.injEq, Qd, decide_true, decide_eq_true_eq, true_and, and_true, and_self, reduceCtorEq, Zd, Qf, Q9, Qa, Qy, eI]
  refine ⟨fun e => ?_, fun e => ?_⟩
  ·rw [decide_eq_true]
   rw [← e]; exact Qq hx
  ·rw [mem_take_succ hx]
   rintro (h | h)
   ·exact hC h
   ·exact e h.symm
 ·intro hC
  rw [Zx] at hC
  simp only [Q2, ru_reg, ru_seq, ru_cnd, ru_exit, ru_ret, ru_keep, thenQ, blockQ, run_nil, run_cons, Fam.step, stepQ, evO, opv, qv, binV, lenV, upd_some, lkp_cons, lkp_nil, ↓reduceIte, Nat.reduceEqDiff, Qb, Qc, endQ, rvs, rv1, resV, vw_b, Q2, V.b.injEq, Qd, decide_false, true_and, and_self, reduceCtorEq, Qf]
  rw [decide_eq_false hC]
theorem W32 (a b : List Int) (h : a.length < 10000000) : PureCall Try.prog 32 [.sl 1 (a.map eI), .sl 1 (b.map eI)] (.b (decide (a = b))) := by
 refine pure_body okH25 hmix Try.func32 cb32 cc32 cs32 cn32 ?_
 simp only [rc32, rs32, ru_skip, ru_reg, ru_seq, ru_cnd, ite_P, ru_block, ru_ret, ru_keep, thenQ, run_nil, run_cons, Fam.step, stepQ, evO, opv, qv, binV, lenV, upd_some, lkp_cons, lkp_nil, ↓reduceIte, Nat.reduceEqDiff, Qb, Qc, endQ, rvs, rv1, resV, vw_b, zipA, Qi, V.b.injEq, decide_eq_false_iff_not, true_and, and_self, reduceCtorEq, Q3, Qf, Classical.not_not]
 refine ⟨fun e => ?_, fun e => ?_⟩
 ·have : ¬ a = b := fun h => e (by rw [h])
  rw [decide_eq_false this]
 have e : a.length = b.length := by omega
 refine ru_countC a.length (fun i => ⟨lkp [(0, .sl 1 (a.map eI)), (1, .sl 1 (b.map eI)), (5, .i i)], []⟩) (fun i => a.take i = b.take i) ?_ rfl ?_ ?_
 ·simp only [Q6, kp, lkp_cons, lkp_nil, ↓reduceIte, Nat.reduceEqDiff, Qb, Qc, reduceCtorEq]
 ·intro i hi hC
  obtain ⟨x, hx⟩ : ∃ x, a[i]? = some x := ⟨_, Qe hi⟩
  obtain ⟨y, hy⟩ : ∃ y, b[i]? = some y := ⟨_, Qe (by omega)⟩
  have hlt : (i : Int) < a.length := by omega
  have hlt2 : (i : Int) < b.length := by omega
  have h3 : inI ((i : Int) + 1) := by unfold inI; omega
  simp only [hx, hy, hlt, hlt2, h3, Qr, Qs, ru_skip, ru_reg, ru_any, ru_seq, ru_cnd, ite_P, ru_block, ru_ret, ru_keep, putBs, thenQ, blockQ, run_nil, run_cons, Fam.step, stepQ, runX, eff, nextD, fpR, fpQ, fpV, disjB, hits, evO, opv, qv, binV, ldV, iadV, lenV, kp, upd_some, lkp_cons, lkp_nil, ↓reduceIte, Nat.reduceEqDiff, Nat.reduceLeDiff, Qb, Qc, Q0, Qh, Qg, Qk, Qz, Qv, Qm, Qu, Qo, Q7, Qw, Q8, endQ, rvs, rv1, resV, vw_b, Zh, Qi, V.b.injEq, Qx, Q4, Za, Qn, Ze, Zc, Qd, decide_true, decide_eq_false_iff_not, true_and, and_true, and_self, reduceCtorEq, Zd, Zj, Q5, Q3, Qf, Q9, Qa, Qy, Classical.not_not, eI]
  refine ⟨fun e1 => ?_, fun e1 => ?_⟩
  ·have : ¬ a = b := fun h => e1 (by rw [h, hy] at hx; exact (Xp.inj hx).symm)
   rw [decide_eq_false this]
  ·rw [take_succ_of hx, take_succ_of hy, hC, e1]
 ·intro hC
  have : a = b := by
   rw [Zx] at hC
   rw [hC, Zr (by omega)]
  simp only [Q2, ru_reg, ru_seq, ru_cnd, ru_exit, ru_ret, ru_keep, thenQ, blockQ, run_nil, run_cons, Fam.step, stepQ, evO, opv, qv, binV, lenV, upd_some, lkp_cons, lkp_nil, ↓reduceIte, Nat.reduceEqDiff, Qb, Qc, endQ, rvs, rv1, resV, vw_b, Q2, V.b.injEq, Qd, decide_false, true_and, and_self, reduceCtorEq, Qf]
  rw [decide_eq_true this]
def s23 : List V → Prop × V | [.sl 1 l, .i n] => (l = (l.map dI).map eI ∧ l.length < 10000000, .b (decide (n ∈ l.map dI))) | _ => (False, .u)
def s32 : List V → Prop × V | [.sl 1 l, .sl 1 k] => ((l = (l.map dI).map eI ∧ k = (k.map dI).map eI) ∧ l.length < 10000000, .b (decide (l.map dI = k.map dI))) | _ => (False, .u)
theorem s23_ok (vs : List V) (h : (s23 vs).1) : PureCall Try.prog 23 vs (s23 vs).2 := by
 unfold s23 at h ⊢
 split at h
 ·rename_i l n
  have := W23 (l.map dI) n (by simpa using h.2)
  rw [← h.1] at this
  exact this
 ·exact h.elim
theorem s32_ok (vs : List V) (h : (s32 vs).1) : PureCall Try.prog 32 vs (s32 vs).2 := by
 unfold s32 at h ⊢
 split at h
 ·rename_i l k
  have := W32 (l.map dI) (k.map dI) (by simpa using h.2)
  rw [← h.1.1, ← h.1.2] at this
  exact this
 ·exact h.elim
def s21o : List V → Prop × V := fnG (fun f => [.ag (eFig f)]) decF Ok21 (fun f => f) (fun f => .tp [.ag (copyF f), .tp ((copyFH f).map bV)])
theorem copyFH_vB (f : Fig) : ((copyFH f).map bV).map vB = copyFH f := by simp [copyFH, copyF, bV, vB]
noncomputable def H26 : Gam := ((((((H25.ext 36 (fnG (fun f => [.ag (eFig f)]) decF (fun f => f.starts.length < 10000000 ∧ f.times.length < 10000000) (fun f => openE f true) .i)).ext 24 (fnG (fun f => [.ag (eFig f)]) decF (fun _ => True) farRing .b)).ext 21 (fnG (fun f => [.ag (eFig f)]) decF Ok21 (fun f => f) (fun f => .ag (eFig f)))).ext 23 s23).ext 32 s32).ext 1000021 s21o)
theorem okH26 : GOk Try.prog H26 := by
 have k1 := okH25.ext (f := 36) (fun a w => Try.call36 a w) (fnG_ok (e := fun f => [.ag (eFig f)]) (d := decF) (ok := fun f => f.starts.length < 10000000 ∧ f.times.length < 10000000) (g := fun f => openE f true) (eb := V.i) fun f h => W36 f h.1 h.2)
 have k2 := k1.ext (f := 24) (fun a w => Try.call24 a w) (fnG_ok (e := fun f => [.ag (eFig f)]) (d := decF) (ok := fun _ => True) (g := farRing) (eb := V.b) fun f _ => W24 f)
 have k3 := k2.ext (f := 21) (fun a w => Try.call21 a w) (fnG_ok (e := fun f => [.ag (eFig f)]) (d := decF) (ok := Ok21) (g := fun f => f) (eb := fun f => V.ag (eFig f)) fun f h => W21 f h)
 have k4 := k3.ext (f := 23) (r := s23) (fun a w => Try.call23 a w) s23_ok
 have k5 := k4.ext (f := 32) (r := s32) (fun a w => Try.call32 a w) s32_ok
 exact k5.extO (f := 21) (r := s21o) (fun a w => Try.call21 a w) fun vs v bs h e => fnO_ok (e := fun f => [.ag (eFig f)]) (d := decF) (ok := Ok21) (v := fun f => .ag (copyF f)) (hp := copyFH) copyFH_vB (fun f h => O21 f h) vs v bs h e
theorem z36 (f : Fig) : H26 36 [.ag (eFig f)] = (f.starts.length < 10000000 ∧ f.times.length < 10000000, .i (openE f true)) :=
 (show H26 36 _ = fnG (fun f => [.ag (eFig f)]) decF (fun f => f.starts.length < 10000000 ∧ f.times.length < 10000000) (fun f => openE f true) .i [.ag (eFig f)] from rfl).trans (fnG_at _ (dFig_e _))
theorem z24 (f : Fig) : H26 24 [.ag (eFig f)] = (True, .b (farRing f)) :=
 (show H26 24 _ = fnG (fun f => [.ag (eFig f)]) decF (fun _ => True) farRing .b [.ag (eFig f)] from rfl).trans (fnG_at _ (dFig_e _))
theorem z21 (f : Fig) : H26 21 [.ag (eFig f)] = (Ok21 f, .ag (eFig f)) :=
 (show H26 21 _ = fnG (fun f => [.ag (eFig f)]) decF Ok21 (fun f => f) (fun f => .ag (eFig f)) [.ag (eFig f)] from rfl).trans (fnG_at _ (dFig_e _))
theorem z21o (f : Fig) : H26 1000021 [.ag (eFig f)] = (Ok21 f, .tp [.ag (copyF f), .tp ((copyFH f).map bV)]) :=
 (show H26 1000021 _ = s21o [.ag (eFig f)] from rfl).trans (fnG_at _ (dFig_e _))
theorem z32 (l k : List Int) : H26 32 [.sl 1 (l.map eI), .sl 1 (k.map eI)] = (l.length < 10000000, .b (decide (l = k))) := by
 refine (show H26 32 _ = s32 [.sl 1 (l.map eI), .sl 1 (k.map eI)] from rfl).trans ?_
 simp [s32, map_de dI_eI]
def farF (f : Fig) : Bool := farRing f || (decide (figCheck f = 0) && (decide (5 < f.starts.length) || decide (8 < f.period)))
theorem z25' (f : Fig) : H26 25 [.ag (eFig f)] = (f.starts.length < 10000000 ∧ f.times.length < 10000000, .i (figCheck f)) := q25 f
theorem W29 (f : Fig) : PureCall Try.prog 29 [.ag (eFig f)] (.b (farF f)) := by
 refine pure_body okH26 hmix Try.func29 cb29 cc29 cs29 cn29 ?_
 have g1 := z24 f
 have g2 := z25' f
 unfold eFig at g1 g2
 have e1 : decide ((5 : Int) < f.starts.length) = decide (5 < f.starts.length) := by simp only [decide_eq_decide]; omega
 simp only [rc29, rs29, g1, g2, e1, farF, ru_reg, ru_seq, ru_ret, ru_keep, thenQ, run_nil, run_cons, Fam.step, stepQ, needQ, condB, ug, evO, opv, qv, pickV_bb, binV, ldV, lenV, callV, V.cells, solid, hasRef, hasRefL, flat, upd_some, lkp_cons, lkp_nil, ↓reduceIte, Nat.reduceEqDiff, Nat.reduceAdd, Nat.reduceLT, Nat.reduceLeDiff, Qb, Qc, Zg, Q0, Qh, Qg, Qj, Qt, Ql, Q1, Qk, Qm, endQ, rvs, rv1, resV, vw_i, vw_b, vw_sl, vw_ag, zipA, Qi, Qx, Q4, Qn, Qd, decide_eq_true_eq, decide_eq_false_iff_not, true_and, and_true, and_self, implies_true, beq_true, beq_false, Q3, ite_f, ite_t, Z1, imp_self, Qf, eFig]
 refine ⟨fun h => ⟨h, ?_⟩, fun h => ⟨h, fun h2 => by rw [h]; simpa using h2⟩, fun h => ⟨h, fun h2 => by simp [h, h2]⟩⟩
 have := farRing_ok h
 have := this.s
 have := ‹Ok21 f›.t
 omega
noncomputable def H27 : Gam := H26.ext 29 (fnG (fun f => [.ag (eFig f)]) decF (fun _ => True) farF .b)
theorem okH27 : GOk Try.prog H27 := okH26.ext (f := 29) (fun a w => Try.call29 a w) (fnG_ok (e := fun f => [.ag (eFig f)]) (d := decF) (ok := fun _ => True) (g := farF) (eb := V.b) fun f _ => W29 f)
theorem z29 (f : Fig) : H27 29 [.ag (eFig f)] = (True, .b (farF f)) :=
 (show H27 29 _ = fnG (fun f => [.ag (eFig f)]) decF (fun _ => True) farF .b [.ag (eFig f)] from rfl).trans (fnG_at _ (dFig_e _))
theorem z36' (f : Fig) : H27 36 [.ag (eFig f)] = (f.starts.length < 10000000 ∧ f.times.length < 10000000, .i (openE f true)) := z36 f
def readyF (f : Fig) : Bool := !farF f && decide (openE f true = 0)
theorem farF_ring {f : Fig} (h : farF f = false) : farRing f = false := by
 unfold farF at h
 rw [Zn] at h
 exact h.1
theorem W16 (f : Fig) : PureCall Try.prog 16 [.ag (eFig f)] (.b (readyF f)) := by
 refine pure_body okH27 hmix Try.func16 cb16 cc16 cs16 cn16 ?_
 have g1 := z29 f
 have g2 := z36' f
 unfold eFig at g1 g2
 simp only [rc16, rs16, g1, g2, readyF, ru_reg, ru_seq, ru_ret, ru_keep, thenQ, run_nil, run_cons, Fam.step, stepQ, needQ, condB, ug, evO, opv, qv, pickV_bb, binV, ldV, callV, V.cells, solid, hasRef, hasRefL, flat, upd_some, lkp_cons, lkp_nil, ↓reduceIte, Nat.reduceEqDiff, Nat.reduceAdd, Nat.reduceLT, Nat.reduceLeDiff, Qb, Qc, Zg, Q0, Qh, Qg, Ql, Q1, Qm, endQ, rvs, rv1, resV, vw_i, vw_b, vw_sl, vw_ag, zipA, Qi, Qx, Q4, Qn, Qd, true_and, and_true, and_self, implies_true, beq_true, X1, Q3, ite_f, Bool.decide_eq_false, imp_self, eFig]
 intro h
 have := farRing_ok (farF_ring h)
 have := this.s
 have := ‹Ok21 f›.t
 exact ⟨h, by omega, by omega⟩
def exF : Fig := ⟨exD, 12, 100, 1, [0, 3, 8, 0], [5, 3, 8, 2]⟩
def exF2 : Fig := { exF with near := 2 }
theorem exF_ok : figCheck exF = 0 := by kernel_rfl
theorem exF_open : openE exF true = 0 := by kernel_rfl
theorem exF2_open : openE exF2 true = 0 := by kernel_rfl
theorem exF2_ok : figCheck exF2 = 0 := by kernel_rfl
theorem exF_bad : badR exF = ([0, 3], 0) := by kernel_rfl
theorem exF_plan : maxL (endsN exF.times (planN exF.times)) = 13 := by kernel_rfl
theorem exF_soon : soonR exF = (13, 0) := by
 unfold soonR
 rw [exF_ok, exF_plan]; rfl
theorem exF_b : boltsOf exF = [[5, 6, 7, 8, 9, 10], [5, 6, 7, 8, 9, 10], [0, 1, 2, 3, 4, 5, 6, 7, 8, 9, 10], [0, 1, 2, 3, 4, 5, 6, 7, 8, 9, 10]] := by kernel_rfl
def exBs : List (List Int) := [[5, 6, 7, 8, 9, 10], [5, 6, 7, 8, 9, 10], [0, 1, 2, 3, 4, 5, 6, 7, 8, 9, 10], [0, 1, 2, 3, 4, 5, 6, 7, 8, 9, 10]]
theorem ex_least0 : leastF (withNear exF 0) exBs 4 [] = -1 := by kernel_rfl
theorem ex_least1 : leastF (withNear exF 1) exBs 4 [] = -1 := by kernel_rfl
theorem ex_least2 : leastF (withNear exF 2) exBs 4 [] = 12 := by kernel_rfl
theorem exF_closed : closestR exF = (2, 0) := by
 unfold closestR
 rw [exF_open, if_pos rfl]
 obtain ⟨h1, h2, h3⟩ := closestN_spec (okR_of exF_ok)
 have e0 : leastV (withNear exF 0) [] = -1 := by unfold leastV; rw [show boltsOf (withNear exF 0) = exBs from exF_b]; exact ex_least0
 have e1 : leastV (withNear exF 1) [] = -1 := by unfold leastV; rw [show boltsOf (withNear exF 1) = exBs from exF_b]; exact ex_least1
 have e2 : leastV (withNear exF 2) [] = 12 := by unfold leastV; rw [show boltsOf (withNear exF 2) = exBs from exF_b]; exact ex_least2
 have c0 := (least_closed exF_ok (n := 0) (by decide)).1 (by rw [e0]; decide)
 have c1 := (least_closed exF_ok (n := 1) (by decide)).1 (by rw [e1]; decide)
 have c2 : ¬ closedB (ringOf exF) 2 = false := fun h => by
  have := (least_closed exF_ok (n := 2) (by decide)).2 h
  rw [e2] at this; exact absurd this (by decide)
 have : closestN (ringOf exF) = 2 := by
  rcases Nat.lt_trichotomy (closestN (ringOf exF)) 2 with h | h | h
  ·exfalso
   rcases (show closestN (ringOf exF) = 0 ∨ closestN (ringOf exF) = 1 by omega) with e | e
   ·rw [e] at h2; rw [show ((0 : Nat) : Int) = 0 from rfl, c0] at h2; cases h2
   ·rw [e] at h2; rw [show ((1 : Nat) : Int) = 1 from rfl, c1] at h2; cases h2
  ·exact h
  ·exact absurd (h3 2 h) c2
 rw [this]; rfl
theorem exF_least : leastR exF2 = (12, 0) := by
 unfold leastR
 rw [exF2_open, if_pos rfl]
 have e2 : leastV exF2 [] = 12 := by unfold leastV; rw [show boltsOf exF2 = exBs from exF_b]; exact ex_least2
 obtain ⟨b1, b2⟩ := leastV_best exF2_ok
 rw [e2] at b1
 cases hb : leastB (Begs (ringOf exF2) exF2.near) with
 | none => have := b2.2 hb; rw [e2] at this; exact absurd this (by decide)
 | some n => rw [hb] at b1; simp only [Qo] at b1; rw [← b1]
theorem PX78 : PureCall Try.prog 78 [] (.ag (eDome exD)) := by
 have := O44.toPure
 exact this
noncomputable def H28 : Gam := ((H27.ext 16 (fnG (fun f => [.ag (eFig f)]) decF (fun _ => True) readyF .b)).ext 78 (fnG (fun _ : Unit => []) (fun _ => ()) (fun _ => True) (fun a => a) (fun _ => .ag (eDome exD))))
theorem okH28 : GOk Try.prog H28 := by
 have k1 := okH27.ext (f := 16) (fun a w => Try.call16 a w) (fnG_ok (e := fun f => [.ag (eFig f)]) (d := decF) (ok := fun _ => True) (g := readyF) (eb := V.b) fun f _ => W16 f)
 exact k1.ext (f := 78) (fun a w => Try.call78 a w) (fnG_ok (e := fun _ : Unit => []) (d := fun _ => ()) (ok := fun _ => True) (g := fun a => a) (eb := fun _ => V.ag (eDome exD)) fun _ _ => PX78)
theorem z78 : H28 78 [] = (True, .ag (eDome exD)) := by
 refine (show H28 78 [] = fnG (fun _ : Unit => []) (fun _ => ()) (fun _ => True) (fun a => a) (fun _ => .ag (eDome exD)) [] from rfl).trans ?_
 simp [fnG]
theorem W49 : PureCall Try.prog 49 [] (.ag (eFig exF)) := by
 refine pure_body okH28 hmix Try.func49 cb49 cc49 cs49 cn49 ?_
 have g1 := z78
 simp only [rc49, rs49, g1, ru_reg, ru_seq, ru_ret, ru_keep, putB, thenQ, run_nil, run_cons, Fam.step, stepQ, stepW, needW, putB, nv, sv, evO, opv, qv, ldV, callV, foldParts, putAt, partsOk, partsOne, V.cells, solid, cellOk, hasRef, hasRefL, flat, flatL, upd_some, upd_none, lkp_cons, lkp_nil, ↓reduceIte, Nat.reduceEqDiff, Nat.reduceAdd, Nat.reduceMul, Nat.reduceLT, Nat.reduceLeDiff, Qb, Qc, Zg, Q0, Qh, Qg, Qj, Qt, Xq, Ql, Zb, Q1, Qz, Qv, Qm, Qp, Zk, Qw, Zt, endQ, rvs, rv1, resV, vw_i, vw_sl, vw_ag, zipA, Qi, Qx, Q4, Xy, Qn, Qd, true_and, and_self, reduceCtorEq, not_false_eq_true, ne_eq, imp_self, eDome, eFig]
 rfl
end Go.C02
