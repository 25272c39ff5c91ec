import Derived.Test.YtcdgojonaloclaaG6
import Derived.Test.YtcdgojonaloclaaG3
import Derived.Test.YtcdgojonaloclaaChecked
set_option linter.all false
open List renaming getElem?_cons_zero → Qa, map_cons → Qb, map_nil → Qc, length_cons → Qe, getElem?_cons_succ → Qf, take_succ_cons → Qg, length_nil → Qh, nil_append → Qi, drop_succ_cons → Qk, cons_append → Ql, getD_eq_getElem?_getD → Qm, append_nil → Qn, length_map → Qo, headD_cons → Qp, drop_zero → Qq, take_zero → Qr, set_cons_zero → Qs, take_nil → Qv, set_cons_succ → Q0, getElem?_nil → Q1, getElem?_map → Q3, all_cons → Q4, all_nil → Q5, getElem?_eq_getElem → Q6, replicate_zero → Q7, mem_of_getElem? → Za, drop_nil → Zb, contains_nil → Zh, replicate → Zi, contains_cons → Zj, isEmpty_nil → Zl, length_take → Zm, replicate_succ → Zn, eq_nil_of_length_eq_zero → Zo, getLast?_concat → Zp, isEmpty_cons → Zr, range → Zs, length_append → Zt, any_nil → Zw, map_append → Zz, mem_map → Z0, any_cons → Z3, getElem?_range → Z4, mem_append → Z7, sum_append → Z8, idxOf_lt_length_of_mem → Z9, flatten_replicate_singleton → Xe, take_of_length_le → Xf, take_length → Xg, mem_range → Xi, append_assoc → Xk, getLast?_nil → Xl, foldl_append → Xm, flatMap_cons → Xn, length_drop → Xo, flatMap_nil → Xp, range_succ → Xq, range_zero → Xr, length_set → Xu, length_filter_le → Xv, length_singleton → Xw, getElem?_eq_none → Xx, length_replicate → Xy, getElem?_of_mem → Xz, mem_of_mem_take → X0, mem_of_mem_drop → X1, mem_cons_of_mem → X2, flatten_append → X3, filter_eq_self → X4, map_congr_left → X5, sum_cons → X6, filter_append → X7, sum_singleton → X8, mem_singleton → X9, idxOf_append → Jc, flatten_nil → Jd, drop_append → Je, mem_filter → Jh, filter_nil → Ji, take_left' → Jj, foldl_cons → Jk, cons → Jl
open Nat renaming zero_add → Qj, le_refl → Zv, mul_one → Z2, add_zero → Xa, mod_lt → Xc, le_trans → Ja, sub_self → Jb
open Bool renaming false_eq_true → Qd, and_self → Qy, or_false → Qz, and_true → Zd, not_false → Zf, not_true → Zg, false_and → Zq, true_and → Zx, false_or → Zy, not_eq_true' → Z1, true_eq_false → Xb, and_false → Xj, not_eq_true → Jf
open Option renaming getD_some → Qt, map_some → Zc, getD_none → Ze, isSome_some → Zu, isSome_none → Z6, some → Jg
open Int renaming natCast_add → Qu, natCast_one → Qw, lt_irrefl → Qx, toNat_natCast → Q2, natCast_zero → Q8, natCast_nonneg → Q9, tmod_eq_emod_of_nonneg → Zk, natCast_emod → Z5, le_refl → Xd, emod_lt_of_pos → Xh, emod_nonneg → Xs, natCast_inj → Xt
set_option linter.unusedSimpArgs false
set_option linter.unusedVariables false
namespace Go.C02
open Go.Fam Go.Proofs
def eFB (a : Fig × Bool) : List V := [.ag (eFig a.1), .b a.2]
def dFB : List V → Fig × Bool | [.ag r, .b x] => (dFig r, x) | _ => (dFig [], false)
theorem dFB_e (a : Fig × Bool) : dFB (eFB a) = a := by obtain ⟨f, b⟩ := a; simp [dFB, eFB, dFig_e]
def s50 : List V → Prop × V := fnG eFB dFB (fun _ => True) (fun a => a) (fun a => openV a.1 a.2)
def s51 : List V → Prop × V := fnG eRN dRN (fun a => OkR a.1 ∧ 0 ≤ a.2 ∧ a.2 < a.1.moves.length) (fun a => ownN a.1 a.2) .i
noncomputable def H5 : Gam := (H4.ext 50 s50).ext 51 s51
theorem okH5 : GOk Try.prog H5 := by
 have k1 := okH4.ext (f := 50) (r := s50) (fun a w => Try.call50 a w) (fnG_ok fun a h => W50 a.1 a.2)
 exact k1.ext (f := 51) (r := s51) (fun a w => Try.call51 a w) (fnG_ok fun a h => W51 a.1 a.2 h.1 h.2)
theorem h50 (f : Fig) (b : Bool) : H5 50 [.ag (eFig f), .b b] = (True, openV f b) :=
 (show H5 50 _ = s50 (eFB (f, b)) from rfl).trans (fnG_at _ (dFB_e _))
theorem h51 (r : Ring) (n : Int) : H5 51 [.pa (eRing r), .i n] = (OkR r ∧ 0 ≤ n ∧ n < r.moves.length, .i (ownN r n)) :=
 (show H5 51 _ = s51 (eRN (r, n)) from rfl).trans (fnG_at _ (dRN_e _))
theorem h70' (n lo hi : Int) : H5 70 [.i n, .i lo, .i hi] = (True, .b (within n lo hi)) := rfl
theorem openE_ok {f : Fig} {is : Bool} (h : openE f is = 0) : figCheck f = 0 ∧ is = true ∧ pitchE f.dome true = 0 := by
 unfold openE at h
 split at h
 ·rename_i h1; exact absurd h h1
 ·rename_i h1
  split at h
  ·rename_i h2; exact ⟨by omega, h2, h⟩
  ·cases h
theorem okR_of {f : Fig} (h : figCheck f = 0) : OkR (ringOf f) := by
 have hv := validF_of h
 have hd := hv.dome
 have hg := hd.ng
 refine ⟨hv.period, hv.near, by simpa [ringOf] using hg, by simp [ringOf, hv.ns], hv.starts, ?_⟩
 intro l hl
 simp only [ringOf, Z0] at hl
 obtain ⟨g, hgm, rfl⟩ := hl
 have hgb := hd.gores g hgm
 obtain ⟨b, hbb⟩ : ∃ b, f.dome.bolts[g.toNat]? = some b := ⟨_, Q6 (by omega)⟩
 have hvb := hd.bolts b (Za hbb)
 have hba : boltAt f.dome g = b := by simp [boltAt, hbb]
 have hnl := numbersOf_len hvb
 have hst := hvb.st
 have hrun := hv.run
 have hper := hv.period
 unfold movesOf
 rw [hba]
 refine ⟨by rw [Qo]; omega, fun x hx => ?_⟩
 obtain ⟨s, hs, rfl⟩ := Z0.1 hx
 simp only [numbersOf, Jh, mem_ints] at hs
 unfold moveBy
 have m1 : 0 ≤ f.run * (1000 + s) := Int.mul_nonneg hrun.1 (by omega)
 rw [Int.tdiv_eq_ediv_of_nonneg m1]
 have m2 : 0 ≤ f.run * (1000 + s) / 1000 := Int.ediv_nonneg m1 (by decide)
 exact ⟨Int.tmod_nonneg _ m2, Int.tmod_lt_of_pos _ (by omega)⟩
def meetsR (f : Fig) (seam : Int) : Int × Int := if openE f (within seam 0 (f.dome.gores.length - 1)) = 0 then (ownN (ringOf f) seam, 0) else (0, openE f (within seam 0 (f.dome.gores.length - 1)))
theorem W38 (f : Fig) (seam : Int) (hg : f.dome.gores.length < 1000000) : PureCall Try.prog 38 [.ag (eFig f), .i seam] (.tp [.i (meetsR f seam).1, .i (meetsR f seam).2]) := by
 refine pure_body okH5 hmix Try.func38 cb38 cc38 cs38 cn38 ?_
 have g1 := h50 f (within seam 0 (f.dome.gores.length - 1))
 unfold openV eFig at g1
 have hin : inI ((f.dome.gores.length : Int) - 1) := by unfold inI; omega
 simp only [rc38, rs38, h70', g1, hin, ru_skip, ru_reg, ru_any, ru_seq, ru_cnd, ite_P, ru_ret, ru_keep, putBs, thenQ, run_nil, run_cons, Fam.step, stepQ, runX, eff, nextD, fpR, fpQ, fpV, disjB, hits, evO, opv, qv, binV, ldV, lenV, callV, V.cells, solid, hasRef, hasRefL, flat, flatL, upd_some, lkp_cons, lkp_nil, ↓reduceIte, Nat.reduceEqDiff, Nat.reduceAdd, Nat.reduceLT, Nat.reduceLeDiff, Qb, Qc, Q5, Qe, Qh, Qk, Qq, Qg, Qv, Qp, Ql, Qi, Qn, Qa, Qf, Q1, Qt, Ze, Q7, Zl, endQ, rvs, rv1, resV, vw_i, vw_b, vw_sl, vw_ag, vw_tp, zipA, Qj, Qy, Zd, Zq, Qz, Zg, Zf, Qd, decide_eq_false_iff_not, true_and, and_self, false_implies, implies_true, reduceCtorEq, Zw, Zh, Z1, Qo, Qm, Classical.not_not, eFig, eRing]
 refine ⟨fun h => ?_, fun h => ?_⟩
 ·simp only [meetsR, if_neg h]
 ·obtain ⟨h1, h2, h3⟩ := openE_ok h
  have g2 := h51 (ringOf f) seam
  unfold eRing at g2
  simp only [h, g2, meetsR, hasRef, flat, ↓reduceIte, vw_i, vw_pa, Qd, and_true, implies_true]
  have := within_nat h2
  exact ⟨okR_of h1, this.1, by simpa [ringOf] using this.2⟩
def badTo (f : Fig) (n : Nat) : List Int := ((Zs n).map fun i : Nat => (i : Int)).filter fun s => decide (ownN (ringOf f) s ≠ 1)
theorem badTo_succ (f : Fig) (n : Nat) : badTo f (n + 1) = if ownN (ringOf f) n ≠ 1 then badTo f n ++ [(n : Int)] else badTo f n := by
 unfold badTo
 rw [Xq, Zz, X7]
 by_cases h : ownN (ringOf f) n = 1 <;> simp [h]
theorem badTo_len (f : Fig) (n : Nat) : (badTo f n).length ≤ n := by
 unfold badTo
 refine Ja (Xv _ _) ?_
 simp
def badR (f : Fig) : List Int × Int := if openE f true = 0 then (badTo f f.dome.gores.length, 0) else ([], openE f true)
theorem W19 (f : Fig) : PureCall Try.prog 19 [.ag (eFig f)] (eLE (badR f)) := by
 refine pure_body okH5 hmix Try.func19 cb19 cc19 cs19 cn19 ?_
 have g1 := h50 f true
 unfold openV eFig at g1
 simp only [rc19, rs19, g1, ru_skip, ru_reg, ru_seq, ru_cnd, ite_P, ru_block, ru_ret, ru_keep, ru_own, thenQ, run_nil, run_cons, Fam.step, stepQ, evO, opv, qv, binV, ldV, lenV, curG, callV, V.cells, solid, hasRef, hasRefL, flat, flatL, upd_some, lkp_cons, lkp_nil, ↓reduceIte, Nat.reduceEqDiff, Nat.reduceAdd, Nat.reduceLT, Nat.reduceLeDiff, Qb, Qc, Qe, Qh, Qg, Qv, Qi, Qn, Qa, Qf, Q1, Qt, endQ, rvs, rv1, resV, vw_i, vw_b, vw_z, vw_sl, vw_ag, vw_tp, zipA, Qj, Qy, Zd, Qz, Qd, decide_eq_false_iff_not, true_and, and_self, false_implies, Z1, Classical.not_not, eFig, eRing]
 refine ⟨fun h => ?_, fun h => ?_⟩
 ·simp only [badR, if_neg h, eLE, Qc]
 ·obtain ⟨h1, h2, h3⟩ := openE_ok h
  have hR := okR_of h1
  have hlen := hR.len
  have hml : (ringOf f).moves.length = f.dome.gores.length := by simp [ringOf]
  simp only [h, ↓reduceIte, Nat.reduceLeDiff, Qe, Qh, Qk, Qq, Qp, Qj, true_and, Qo]
  refine ru_countC (ringOf f).moves.length (fun i => ⟨lkp [(4, .pa (eRing (ringOf f))), (6, .rf 0 (badTo f i).length 0 (badTo f i).length 1), (20, .i (ringOf f).moves.length), (21, .i i)],
   [.cells (badTo f i).length ((badTo f i).map eI).flatten]⟩) (fun i => True) ?_ trivial ?_ ?_
  ·simp only [Q8, badTo, Xr, Qc, Ji, Qh, Jd, kp, lkp_cons, lkp_nil, ↓reduceIte, Nat.reduceEqDiff, Qb, Qc, Qh, ne_eq, eRing]
  ·intro i hi _
   have hlt : (i : Int) < (ringOf f).moves.length := by omega
   have h4 : inI ((i : Int) + 1) := by unfold inI; omega
   have h5 := badTo_len f i
   have g2 := h51 (ringOf f) i
   unfold eRing at g2
   simp only [hlt, h4, g2, Qu, Qw, badTo_succ, len_I, Z2, ru_skip, ru_reg, ru_seq, ru_cnd, ite_P, ru_block, ru_keep, chunk1, putB, thenQ, blockQ, run_nil, run_cons, Fam.step, stepQ, stepW, needW, putB, nv, sv, newsV, evO, opv, qv, binV, callV, foldParts, putAt, partsOk, partsOne, V.cells, solid, cellOk, hasRef, hasRefL, flat, kp, upd_some, lkp_cons, lkp_nil, ↓reduceIte, Nat.reduceEqDiff, Nat.reduceLT, Nat.reduceLeDiff, Qb, Qc, Q4, Q5, Qe, Qh, Qg, Qr, Ql, Qi, Qn, Qa, Qs, Q7, Zn, vw_i, vw_pa, Q9, Qj, Qy, Qz, Qd, decide_true, decide_eq_false_iff_not, true_and, and_true, and_self, implies_true, reduceCtorEq, not_false_eq_true, ne_eq, Z1, Classical.not_not, eRing]
   refine ⟨hR, fun e => ?_, fun e => ?_⟩
   ·simp only [e, not_false_eq_true, Zt, Zz, X3, ↓reduceIte, Qb, Qc, Qe, Qh, Qj, and_true, not_false_eq_true, eI]
    unfold fitsLen; omega
   ·simp only [e, not_true_eq_false, ↓reduceIte, not_true_eq_false]
  ·intro _
   rw [hml]
   simp only [badR, h, eLE, len_I, Z2, Zv, chunk_I, vw_I, hpF, upB, upL_noref _ _ (noref_I (badTo f f.dome.gores.length)), ru_reg, ru_seq, ru_cnd, ru_exit, ru_ret, ru_keep, ru_drp, ↓cut_lkp, cutH, thenQ, blockQ, run_nil, run_cons, Fam.step, stepQ, evO, opv, qv, binV, ldV, cutV, upd_some, lkp_cons, lkp_nil, ↓reduceIte, Nat.reduceEqDiff, Nat.reduceLT, Qb, Qc, Qq, Qr, Qi, Qa, Q1, endQ, rvs, rv1, resV, vw_i, vw_sl, vw_tp, vw_rf, Qx, Qj, Qd, decide_false, and_self, eRing]
end Go.C02
set_option linter.unusedSimpArgs false
set_option linter.unusedVariables false
namespace Go.C02
open Go.Fam Go.Proofs
def stepTo (r : Ring) (near : Int) (seam n : Nat) : List Int := ((Zs n).map fun i : Nat => (i : Int)).filter fun l => decide (meetsN r.fig.period (movesAt r seam) l near = 1)
def stepsTo (r : Ring) (near : Int) (k : Nat) : List (List Int) := (Zs k).map fun s => stepTo r near s r.fig.period.toNat
def stepsOf (r : Ring) (near : Int) : List (List Int) := stepsTo r near r.moves.length
theorem stepTo_succ (r : Ring) (near : Int) (seam n : Nat) : stepTo r near seam (n + 1) = if meetsN r.fig.period (movesAt r seam) n near = 1 then stepTo r near seam n ++ [(n : Int)] else stepTo r near seam n := by
 unfold stepTo
 rw [Xq, Zz, X7]
 by_cases h : meetsN r.fig.period (movesAt r seam) n near = 1 <;> simp [h]
theorem stepTo_len (r : Ring) (near : Int) (seam n : Nat) : (stepTo r near seam n).length ≤ n := by
 unfold stepTo
 refine Ja (Xv _ _) ?_
 simp
theorem stepsTo_succ (r : Ring) (near : Int) (k : Nat) : stepsTo r near (k + 1) = stepsTo r near k ++ [stepTo r near k r.fig.period.toNat] := by
 unfold stepsTo; rw [Xq, Zz]; rfl
def outC (r : Ring) (near : Int) (i : Nat) : List V := ((stepsTo r near i).map fun l => V.sl 1 (l.map eI)) ++ Zi (r.moves.length - i) (.z 1)
theorem noref_sl (l : List (List Int)) : hasRefL (l.map fun l => V.sl 1 (l.map eI)) = false := by
 induction l with
 | nil => rfl
 | cons x l ih => simp only [Qb, hasRefL, hasRef, ih, Bool.or_self]
theorem noref_zs (n : Nat) : hasRefL (Zi n (V.z 1)) = false := by
 induction n with
 | zero => rfl
 | succ n ih => simp only [Zn, hasRefL, hasRef, ih, Bool.or_self]
theorem h83' (r : Ring) (a b c : Int) : H5 83 [.pa (eRing r), .i a, .i b, .i c] = (OkR r ∧ (0 ≤ a ∧ a < r.moves.length) ∧ tame 1000000 b, .i (meetsN r.fig.period (movesAt r a) b c)) := h83 r a b c
theorem W87 (r : Ring) (near : Int) (h : OkR r) : PureCall Try.prog 87 [.pa (eRing r), .i near] (.sl 1 ((stepsOf r near).map eCan)) := by
 refine pure_body okH5 hmix Try.func87 cb87 cc87 cs87 cn87 ?_
 have hlen := h.len
 simp only [rc87, rs87, ru_reg, ru_seq, ru_block, ru_keep, thenQ, run_nil, run_cons, Fam.step, stepQ, stepW, needW, nv, evO, opv, qv, ldV, lenV, upd_some, lkp_cons, lkp_nil, ↓reduceIte, Nat.reduceEqDiff, Nat.reduceLeDiff, Qb, Qc, Qe, Qh, Qk, Qq, Qp, Qi, zipA, Q9, Qj, Qd, true_and, reduceCtorEq, Qo, Q2, eRing]
 refine ⟨⟨by omega, by omega⟩, ?_⟩
 refine ru_countC r.moves.length (fun i => ⟨lkp [(0, .pa (eRing r)), (1, .i near), (5, .rf 0 0 0 r.moves.length 1), (18, .i r.moves.length), (19, .i i)], [.cells 0 (outC r near i)]⟩) (fun i => True) ?_ trivial ?_ ?_
 ·simp only [Q8, outC, stepsTo, Xr, Qc, Qi, Nat.sub_zero, Xe, kp, lkp_cons, lkp_nil, ↓reduceIte, Nat.reduceEqDiff, Qb, Qc, Qi, reduceCtorEq, eRing]
 ·intro i hi _
  have hlt : (i : Int) < r.moves.length := by omega
  have h4 : inI ((i : Int) + 1) := by unfold inI; omega
  have hp := h.period
  obtain ⟨pre, hpre⟩ : ∃ pre, pre = (stepsTo r near i).map fun l => V.sl 1 (l.map eI) := ⟨_, rfl⟩
  obtain ⟨post, hpost⟩ : ∃ post, post = Zi (r.moves.length - (i + 1)) (V.z 1) := ⟨_, rfl⟩
  have hpl : pre.length = i := by rw [hpre]; simp [stepsTo]
  have hpo : post.length = r.moves.length - (i + 1) := by rw [hpost]; simp
  have ho : outC r near i = pre ++ V.z 1 :: post := by
   unfold outC
   rw [← hpre, hpost, show r.moves.length - i = (r.moves.length - (i + 1)) + 1 by omega, Zn]
  have hget : ∀ x : V, (pre ++ x :: post)[i]? = some x := fun x => by rw [List.getElem?_append_right (by omega), hpl, Jb]; rfl
  have hset : ∀ x y : V, (pre ++ x :: post).set i y = pre ++ y :: post := fun x y => by rw [List.set_append_right _ _ (by omega), hpl, Jb]; rfl
  simp only [ho, hlt, hget, hset, Q2, Z2, Qj, Xa, ru_skip, ru_reg, ru_seq, ru_cnd, ru_block, ru_keep, ru_owni, thenQ, run_nil, run_cons, Fam.step, stepQ, evO, opv, qv, binV, ldV, kp, upd_some, lkp_cons, lkp_nil, ↓reduceIte, Nat.reduceEqDiff, Nat.reduceAdd, Nat.reduceLeDiff, Qb, Qc, Qe, Qh, Qk, Qq, Qp, Ql, Qi, Qa, Qs, Qj, Xa, Qd, decide_true, true_and, reduceCtorEq, Q2, eRing]
  have hput : ∀ x y : V, putAt i [y] (pre ++ x :: post) = pre ++ y :: post := fun x y => by
   unfold putAt
   rw [Jj hpl]
   simp [Je, hpl]
  have hdrop : ∀ x : V, List.drop i (pre ++ x :: post) = x :: post := fun x => by simp [hpl]
  have htake : ∀ x : V, List.take i (pre ++ x :: post) = pre := fun x => Jj hpl
  have hdrop1 : ∀ x : V, List.drop (i + 1) (pre ++ x :: post) = post := fun x => by simp [Je, hpl]
  have hle : i + 1 ≤ i + (r.moves.length - (i + 1) + 1) := by omega
  have hpn : (r.fig.period.toNat : Int) = r.fig.period := by omega
  refine ru_countC r.fig.period.toNat (fun j => ⟨lkp [(0, .pa (eRing r)), (1, .i near), (5, .rf 0 0 0 r.moves.length 1), (6, .i i), (18, .i r.moves.length), (19, .i i), (26, .i r.fig.period), (27, .i j)],
   [.cells 0 (pre ++ V.rf 1 (stepTo r near i j).length 0 (stepTo r near i j).length 1 :: post), .cells (stepTo r near i j).length ((stepTo r near i j).map eI).flatten]⟩) (fun i => True) ?_ trivial ?_ ?_
  ·simp only [Q8, stepTo, Xr, Qc, Ji, Qh, Jd, kp, lkp_cons, lkp_nil, ↓reduceIte, Nat.reduceEqDiff, Qb, Qc, Qh, reduceCtorEq, eRing]
  ·intro j hj _
   have hlt' : (j : Int) < r.fig.period := by omega
   have h5 : inI ((j : Int) + 1) := by unfold inI; omega
   have h6 := stepTo_len r near i j
   have g1 := h83' r i j near
   unfold eRing at g1
   simp only [hlt', h5, g1, hlt, hdrop, hle, htake, hdrop1, Qp, stepTo_succ, Q2, Z2, Qj, Qu, Qw, len_I, Zt, Qe, hpl, hpo, ru_skip, ru_reg, ru_seq, ru_cnd, ite_P, ru_block, ru_keep, chunk1, putB, thenQ, blockQ, run_nil, run_cons, Fam.step, stepQ, stepW, needW, putB, nv, sv, newsV, evO, opv, qv, binV, ldV, iadV, callV, foldParts, putAt, partsOk, partsOne, V.cells, solid, cellOk, hasRef, hasRefL, flat, kp, upd_some, upd_none, lkp_cons, lkp_nil, ↓reduceIte, Nat.reduceEqDiff, Nat.reduceLT, Nat.reduceLeDiff, Qb, Qc, Q4, Q5, Qe, Qh, Qg, Qr, Qp, Ql, Qi, Qn, Qa, Qf, Qs, Q0, Q7, Zn, vw_i, vw_pa, Q9, Qj, Qy, Qz, Qd, decide_true, decide_eq_true_eq, true_and, and_true, and_self, implies_true, reduceCtorEq, not_false_eq_true, ne_eq, Q2, eRing]
   refine ⟨⟨h, by unfold tame; omega⟩, fun e => ?_, fun e => ?_⟩
   ·refine ⟨by unfold fitsLen; omega, ?_⟩
    simp only [e, Zt, Zz, X3, Xk, ↓reduceIte, Qb, Qc, Qe, Qh, Ql, Qi, Qj, eI]
   ·simp only [e, ↓reduceIte]
  ·intro _
   have hcp : ∀ hp n, cutL hp n pre = pre := fun hp n => cutL_noref hp n pre (by rw [hpre]; exact noref_sl _)
   have hco : ∀ hp n, cutL hp n post = post := fun hp n => cutL_noref hp n post (by rw [hpost]; exact noref_zs _)
   have hcI := fun hp n => cutL_noref hp n _ (noref_I (stepTo r near i r.fig.period.toNat))
   have huI := fun n => upL_noref n _ (noref_I (stepTo r near i r.fig.period.toNat))
   simp only [hpn, Qx, h4, cutL_append, hcp, hco, huI, hpF, upB, len_I, Z2, Zv, chunk_I, vw_I, Qu, Qw, ru_reg, ru_seq, ru_cnd, ru_exit, ru_keep, ru_drp, ↓cut_lkp, cutH, thenQ, blockQ, run_nil, run_cons, Fam.step, stepQ, evO, opv, qv, binV, cutV, cutL, cutB, upd_some, lkp_cons, lkp_nil, ↓reduceIte, Nat.reduceEqDiff, Nat.reduceLT, Qb, Qc, Qk, Qq, Qg, Qr, Ql, Qi, Qa, Qf, vw_rf, Qx, Qj, Qd, decide_false, true_and, and_self, reduceCtorEq, eRing]
   have e : outC r near (i + 1) = pre ++ V.sl 1 ((stepTo r near i r.fig.period.toNat).map eI) :: post := by
    unfold outC
    rw [stepsTo_succ, Zz, ← hpre, ← hpost, Xk]; rfl
   rw [e]
 ·intro _
  have e : outC r near r.moves.length = ((stepsOf r near).map eCan).flatten := by
   unfold outC stepsOf
   rw [Jb, Q7, Qn]
   generalize stepsTo r near r.moves.length = l
   induction l with
   | nil => rfl
   | cons x l ih => simp only [Qb, List.flatten_cons, ih]; rfl
  have hl : r.moves.length = (stepsOf r near).length := by simp [stepsOf, stepsTo]
  rw [hl] at e
  simp only [e, hl, Qx, len_C, Z2, Zv, chunk_C, vw_C, upL_noref _ _ (noref_C (stepsOf r near)), hpF, upB, ru_reg, ru_seq, ru_cnd, ru_exit, ru_ret, ru_keep, ru_drp, ↓cut_lkp, cutH, thenQ, blockQ, run_nil, run_cons, Fam.step, stepQ, evO, opv, qv, binV, cutV, upd_some, lkp_cons, lkp_nil, ↓reduceIte, Nat.reduceEqDiff, Nat.reduceLT, Qb, Qc, Qq, Qr, Qi, Qa, endQ, rvs, rv1, resV, vw_sl, vw_rf, Qx, Qj, Qd, decide_false, and_self, reduceCtorEq, eRing]
end Go.C02
set_option linter.unusedSimpArgs false
set_option linter.unusedVariables false
namespace Go.C02
open Go.Fam Go.Proofs
def s87 : List V → Prop × V := fnG eRN dRN (fun a => OkR a.1) (fun a => stepsOf a.1 a.2) (fun l => .sl 1 (l.map eCan))
noncomputable def H6 : Gam := H5.ext 87 s87
theorem okH6 : GOk Try.prog H6 := okH5.ext (f := 87) (r := s87) (fun a w => Try.call87 a w) (fnG_ok fun a h => W87 a.1 a.2 h)
theorem h87 (r : Ring) (n : Int) : H6 87 [.pa (eRing r), .i n] = (OkR r, .sl 1 ((stepsOf r n).map eCan)) :=
 (show H6 87 _ = s87 (eRN (r, n)) from rfl).trans (fnG_at _ (dRN_e _))
theorem h84c (r : Ring) (a : Int) : H6 84 [.pa (eRing r), .i a] = (0 < r.fig.period ∧ r.fig.period ≤ 1000000, .i (modN a r.fig.period)) := h84 r a
theorem ru_countE {Γ : Gam} {E : TypeId → Nat → Prop} {Q : Exit → St → Prop} {σ : St} {α : Type} {l : List Nat} {d : Option Nat} {a : RC} (n : Nat) (S : Nat → α → St) (C : Nat → α → Prop) (x0 : α) (h0 : kp l d σ = S 0 x0) (c0 : C 0 x0)
  (hs : ∀ i x, i < n → C i x → wpR Γ E a (thenQ (fun σ'' => ∃ y, C (i + 1) y ∧ kp l d σ'' = S (i + 1) y) Q) (S i x)) (hn : ∀ x, C n x → wpR Γ E a (thenQ (fun _ => False) Q) (S n x)) : wpR Γ E (.loop l d a) Q σ := by
 refine ru_loop (fun k σ => ∃ (i : Nat) (x : α), i ≤ n ∧ k = n - i ∧ C i x ∧ σ = S i x) ⟨n, 0, x0, Nat.zero_le _, rfl, c0, h0⟩ ?_
 rintro k _ ⟨i, x, hi, rfl, hc, rfl⟩
 rcases Nat.lt_or_ge i n with h | h
 ·refine wpR_mono _ _ _ _ (fun e σ he => ?_) (hs i x h hc)
  cases e <;> first | exact he | skip
  obtain ⟨y, hc', hk⟩ := he
  exact ⟨n - (i + 1), by omega, i + 1, y, h, rfl, hc', hk⟩
 ·have : i = n := by omega
  subst this
  refine wpR_mono _ _ _ _ (fun e σ he => ?_) (hn x hc)
  cases e <;> first | exact he | exact he.elim
def atF (p : Int) (S : Int → Prop) (l : List Int) : Int → Prop := fun y => ∃ a, S a ∧ ∃ s ∈ l, y = modN (a + s) p
def atS (p : Int) (steps : List (List Int)) (S : Int → Prop) : Int → Prop := steps.foldl (atF p) S
def Holds (S : Int → Prop) (xs : List Int) : Prop := ∀ x, x ∈ xs ↔ S x
structure Inv56 (p : Int) (xs l : List Int) (pre : List Nat) (ys : List Int) : Prop where
 mem : ∀ y, y ∈ ys ↔ ∃ j ∈ pre, ∃ a, (cmKs xs)[j]? = some [a] ∧ ∃ s ∈ l, y = modN (a + s) p
 len : ys.length ≤ pre.length * l.length
theorem inv56_all {p : Int} {xs l ys : List Int} {pre : List Nat} (h : Inv56 p xs l pre ys) (hp : ∀ j, j < (cmKs xs).length → j ∈ pre) {S : Int → Prop} (hS : Holds S xs) : Holds (atF p S l) ys := by
 intro y
 rw [h.mem]
 constructor
 ·rintro ⟨j, _, a, ha, s, hs, rfl⟩
  obtain ⟨x, hx, e⟩ := (mem_cmKs xs _).1 (Za ha)
  have : a = x := by simpa using e
  subst this
  exact ⟨a, (hS a).1 hx, s, hs, rfl⟩
 ·rintro ⟨a, ha, s, hs, rfl⟩
  have hm : [a] ∈ cmKs xs := (mem_cmKs xs _).2 ⟨a, (hS a).2 ha, rfl⟩
  exact ⟨_, hp _ (Z9 hm), a, idxOf_get hm, s, hs, rfl⟩
theorem modN_in {a p : Int} (hp : 0 < p) : 0 ≤ modN a p ∧ modN a p < p := by
 rw [modN_eq hp]
 exact ⟨Xs _ (by omega), Xh _ hp⟩
theorem atS_in {p : Int} (hp : 0 < p) (steps : List (List Int)) {S : Int → Prop} (hS : ∀ y, S y → 0 ≤ y ∧ y < p) : ∀ y, atS p steps S y → 0 ≤ y ∧ y < p := by
 induction steps generalizing S with
 | nil => exact hS
 | cons l ls ih =>
  refine ih (S := atF p S l) ?_
  rintro y ⟨a, _, s, _, rfl⟩
  exact modN_in hp
theorem mem_stepsOf {r : Ring} {near : Int} {l : List Int} (h : l ∈ stepsOf r near) : l.length ≤ r.fig.period.toNat ∧ ∀ s ∈ l, 0 ≤ s ∧ s < r.fig.period := by
 simp only [stepsOf, stepsTo, Z0] at h
 obtain ⟨k, _, rfl⟩ := h
 refine ⟨stepTo_len _ _ _ _, fun s hs => ?_⟩
 simp only [stepTo, Jh, Z0, Xi] at hs
 obtain ⟨⟨j, hj, rfl⟩, _⟩ := hs
 omega
theorem cmKs_few {xs : List Int} {p : Nat} (h : ∀ x ∈ xs, 0 ≤ x ∧ x < p) : (cmKs xs).length ≤ p := by
 have h1 : ((cmKs xs).map fun k => (k.headD 0).toNat).Nodup := by
  refine List.pairwise_map.2 (List.Pairwise.imp_of_mem (fun {a b} ha hb hne e => hne ?_) (cmKs_nodup xs))
  obtain ⟨x, hx, rfl⟩ := (mem_cmKs xs _).1 ha
  obtain ⟨y, hy, rfl⟩ := (mem_cmKs xs _).1 hb
  have := h x hx; have := h y hy
  simp only [Qp] at e
  have : x = y := by omega
  rw [this]
 have := nodup_len h1 (n := p) (by
  intro j hj
  obtain ⟨k, hk, rfl⟩ := Z0.1 hj
  obtain ⟨x, hx, rfl⟩ := (mem_cmKs xs _).1 hk
  have := h x hx
  simp only [Qp]; omega)
 simpa using this
theorem inv56_snoc {p : Int} {xs l ys : List Int} {pre : List Nat} {j : Nat} {a : Int} (h : Inv56 p xs l pre ys) (hk : (cmKs xs)[j]? = some [a]) : Inv56 p xs l (pre ++ [j]) (ys ++ l.map fun s => modN (a + s) p) := by
 constructor
 ·intro y
  rw [Z7, h.mem]
  constructor
  ·rintro (⟨i, hi, b, hb, s, hs, rfl⟩ | hm)
   ·exact ⟨i, by simp [hi], b, hb, s, hs, rfl⟩
   ·obtain ⟨s, hs, rfl⟩ := Z0.1 hm
    exact ⟨j, by simp, a, hk, s, hs, rfl⟩
  ·rintro ⟨i, hi, b, hb, s, hs, rfl⟩
   rcases Z7.1 hi with hi | hi
   ·exact .inl ⟨i, hi, b, hb, s, hs, rfl⟩
   ·have : i = j := by simpa using hi
    subst this
    rw [hk] at hb
    have : a = b := by simpa using hb
    subst this
    exact .inr (Z0.2 ⟨s, hs, rfl⟩)
 ·rw [Zt, Qo, Zt, Xw, Nat.add_mul, Nat.one_mul]
  have := h.len
  omega
theorem W56 (r : Ring) (near : Int) (h : OkR r) : PureCall Try.prog 56 [.pa (eRing r), .i near] (.b (@decide (atS r.fig.period (stepsOf r near) (· = 0) 0) (Classical.propDecidable _))) := by
  refine pure_body okH6 hmix Try.func56 cb56 cc56 cs56 cn56 ?_
  have hlen := h.len
  have hp := h.period
  have g1 := h87 r near
  unfold eRing at g1
  simp only [rc56, rs56, g1, ru_reg, ru_seq, ru_block, ru_keep, putB, keyL, keyFits, thenQ, run_nil, run_cons, Fam.step, stepQ, stepW, needW, putB, nv, sv, evO, opv, qv, lenV, callV, hasRef, hasRefL, flat, upd_some, upd_none, lkp_cons, lkp_nil, ↓reduceIte, Nat.reduceEqDiff, Nat.reduceLT, Qb, Qc, Qe, Qh, Qi, Qn, Qa, Qs, vw_i, vw_pa, zipA, Qj, Qz, Qd, true_and, and_true, and_self, false_implies, reduceCtorEq, imp_self, Qo, eRing]
  refine ⟨h, ?_⟩
  refine ru_countE (stepsOf r near).length (fun i xs => ⟨lkp [(0, .pa (eRing r)), (5, .mp 0 0), (16, .sl 1 ((stepsOf r near).map eCan)), (17, .i (stepsOf r near).length), (18, .i i)], [cm xs]⟩)
    (fun i xs => Holds (atS r.fig.period ((stepsOf r near).take i) (· = 0)) xs) [0] ?_ ?_ ?_ ?_
  · have e : cm [0] = Blk.map false (putK [] [0]) (putVs [] [] [0] (V.i 1)) := rfl
    simp only [Q8, e, cutH, kp, cutV, cutB, lkp_cons, lkp_nil, ↓reduceIte, Nat.reduceEqDiff, Nat.reduceLT, Qb, Qc, Qg, Qv, reduceCtorEq, eRing]
    rfl
  · intro x; simp [atS]
  · intro i xs hi hC
    obtain ⟨l, hl⟩ : ∃ l, (stepsOf r near)[i]? = some l := ⟨_, Q6 hi⟩
    have hlt : (i : Int) < (stepsOf r near).length := by omega
    have h4 : inI ((i : Int) + 1) := by have : (stepsOf r near).length ≤ 16 := by simp [stepsOf, stepsTo]; omega
                                        unfold inI; omega
    simp only [hl, hlt, cm, ru_skip, ru_reg, ru_seq, ru_cnd, ru_block, ru_keep, cutH, thenQ, run_nil, run_cons, Fam.step, stepQ, stepW, needW, nv, evO, opv, qv, binV, ldV, iadV, kp, upd_some, lkp_cons, lkp_nil, ↓reduceIte, Nat.reduceEqDiff, Nat.reduceAdd, Nat.reduceLeDiff, Qb, Qc, Qe, Qh, Qp, Ql, Qi, Qa, Qt, Q9, Qj, Qd, decide_true, true_and, and_self, reduceCtorEq, Zc, Qo, Q2, Qm, Q3, eCan, eRing]
    refine ru_rangeE (cmKs xs).length (fun pre ys => ⟨lkp [(0, .pa (eRing r)), (7, .sl 1 (l.map eI)), (8, .mp 1 0), (16, .sl 1 ((stepsOf r near).map eCan)), (17, .i (stepsOf r near).length), (18, .i i), (24, .it 2 0)],
      [cm xs, cm ys, .iter 0 (cmKs xs).length (leftN (cmKs xs).length pre) pre.getLast?]⟩) (Inv56 r.fig.period xs l) [] ?_ ?_ ?_
    · simp only [leftN_nil, Xl, cm, kp, lkp_cons, lkp_nil, ↓reduceIte, Nat.reduceEqDiff, Qb, Qc, reduceCtorEq, eRing]
      rfl
    · exact ⟨by simp, by simp⟩
    · intro pre ys hnd hlt2 hC2
      simp only [cm, ru_skip, ru_reg, ru_seq, ru_cnd, ru_block, ru_exit, ru_keep, ru_drp, ru_swp, ru_nxt, ↓cut_lkp, ↓ren_lkp, swH, sw, renV, renB, cutH, entV, keyV, thenQ, blockQ, run_nil, run_cons, Fam.step, stepQ, evO, opv, qv, binV, lenV, kp, cutV, cutB, upd_some, lkp_cons, lkp_nil, ↓reduceIte, Nat.reduceEqDiff, Nat.reduceAdd, Nat.reduceLT, Qb, Qc, Qe, Qh, Qg, Qr, Qv, Qa, Qf, Qt, Qs, Q0, Qj, Qd, true_and, and_self, reduceCtorEq, Qo, Qm, eRing]
      refine ⟨fun hnil => ?_, fun j hj => ?_⟩
      · have hall : ∀ j, j < (cmKs xs).length → j ∈ pre := fun j hj => Classical.byContradiction fun hn => by
          have := mem_leftN.2 ⟨hj, hn⟩
          rw [hnil] at this; cases this
        refine ⟨h4, ys, ?_, ?_⟩
        · have := inv56_all hC2 hall hC
          rw [take_succ_of hl]
          unfold atS at this ⊢
          rw [Xm]
          exact this
        · simp only [renL_noref _ _ (noref_cm _), cutL_noref _ _ _ (noref_cm _), Qu, Qw]
      · obtain ⟨hjn, hjp⟩ := mem_leftN.1 hj
        obtain ⟨a, ha, hk1, hk2⟩ := cmKs_get hjn
        obtain ⟨hll, hlx⟩ := mem_stepsOf (Za hl)
        have hxr : ∀ x ∈ xs, 0 ≤ x ∧ x < (r.fig.period.toNat : Int) := fun x hx => by
          have := atS_in (p := r.fig.period) (by omega) _ (S := (· = 0)) (fun y hy => by subst hy; omega) x ((hC x).1 hx)
          omega
        have har := hxr a ha
        have hkl := cmKs_few hxr
        have hpl := nodup_len hnd hlt2
        have hyl := hC2.len
        have hyl2 : ys.length ≤ 60 * 60 := Ja hyl (Nat.mul_le_mul (by omega) (by omega))
        simp only [hk1, leftN_erase hj, Qp, Qt]
        refine ru_count l.length (fun k => ⟨lkp [(0, .pa (eRing r)), (7, .sl 1 (l.map eI)), (8, .mp 1 0), (9, .i a), (16, .sl 1 ((stepsOf r near).map eCan)), (17, .i (stepsOf r near).length), (18, .i i), (24, .it 2 0), (29, .sl 1 (l.map eI)), (30, .i l.length), (31, .i k)],
          [cm xs, cm (ys ++ (l.take k).map fun s => modN (a + s) r.fig.period), .iter 0 (cmKs xs).length (leftN (cmKs xs).length (pre ++ [j])) (some j)]⟩) ?_ ?_ ?_
        · simp only [Q8, cm, Qr, Qc, Qn, kp, lkp_cons, lkp_nil, ↓reduceIte, Nat.reduceEqDiff, Qb, Qc, Qr, Qn, reduceCtorEq, eRing]
        · intro k hk
          obtain ⟨s, hs⟩ : ∃ s, l[k]? = some s := ⟨_, Q6 hk⟩
          have hsr := hlx s (Za hs)
          have hlt3 : (k : Int) < l.length := by omega
          have i1 : inI ((k : Int) + 1) := by unfold inI; omega
          have i2 : inI (a + s) := by unfold inI; omega
          have i3 : ∀ y, inI (((ys ++ (l.take k).map fun s => modN (a + s) r.fig.period).count y : Int) + 1) := fun y => by
            have h1 := List.count_le_length (a := y) (l := ys ++ (l.take k).map fun s => modN (a + s) r.fig.period)
            rw [Zt, Qo, Zm] at h1
            unfold inI; omega
          have g2 := h84c r (a + s)
          unfold eRing at g2
          simp only [hlt3, hs, i1, i2, i3, g2, cm, cm_get, cm_put, ← cmKs_snoc, Qu, Qw, take_succ_of hs, Zz, ← Xk, Qb, Qc, ru_skip, ru_reg, ru_seq, ru_cnd, ru_block, ru_keep, putB, lkpV, keyL, keyFits, thenQ, blockQ, run_nil, run_cons, Fam.step, stepQ, stepW, needW, putB, nv, sv, evO, opv, qv, binV, ldV, iadV, callV, hasRef, hasRefL, flat, kp, upd_some, upd_none, lkp_cons, lkp_nil, ↓reduceIte, Nat.reduceEqDiff, Nat.reduceLT, Nat.reduceLeDiff, Qb, Qc, Qe, Qh, Qp, Qn, Qa, Qf, Qt, Qs, Q0, vw_i, vw_pa, Q9, Qj, Qz, Qd, decide_true, true_and, and_true, and_self, false_implies, implies_true, reduceCtorEq, Zc, Qo, Q2, Qm, Q3, eI, eRing]
          omega
        · simp only [Xg, cm, Qx, ru_reg, ru_seq, ru_cnd, ru_exit, ru_keep, thenQ, blockQ, run_nil, run_cons, Fam.step, stepQ, evO, opv, qv, binV, upd_some, lkp_cons, lkp_nil, ↓reduceIte, Nat.reduceEqDiff, Qb, Qc, Qx, Qd, decide_false, true_and, reduceCtorEq, eRing]
          exact ⟨j, _, hj, inv56_snoc hC2 hk1, by simp only [Zp]⟩
  · intro xs hC
    rw [Xg] at hC
    simp only [Qx, cm, cm_get, ru_reg, ru_seq, ru_cnd, ru_exit, ru_ret, ru_keep, lkpV, keyL, keyFits, thenQ, blockQ, run_nil, run_cons, Fam.step, stepQ, evO, opv, qv, binV, upd_some, lkp_cons, lkp_nil, ↓reduceIte, Nat.reduceEqDiff, Qb, Qc, Qe, Qh, Qa, endQ, rvs, rv1, resV, vw_b, Qx, Qj, V.b.injEq, Qd, decide_false, true_and, and_self, false_implies, reduceCtorEq, eRing]
    have e : (0 < (List.count 0 xs : Int)) ↔ atS r.fig.period (stepsOf r near) (· = 0) 0 := by
      rw [← hC 0, ← List.count_pos_iff]; omega
    by_cases h0 : atS r.fig.period (stepsOf r near) (· = 0) 0
    · rw [decide_eq_true (e.2 h0), @decide_eq_true _ (Classical.propDecidable _) h0]
    · rw [decide_eq_false (fun h => h0 (e.1 h)), @decide_eq_false _ (Classical.propDecidable _) h0]
end Go.C02
set_option linter.unusedSimpArgs false
set_option linter.unusedVariables false
namespace Go.C02
open Go.Fam Go.Proofs
def Closed (r : Ring) (near : Int) : Prop := atS r.fig.period (stepsOf r near) (· = 0) 0
noncomputable def closedB (r : Ring) (near : Int) : Bool := @decide (Closed r near) (Classical.propDecidable _)
theorem closedB_iff (r : Ring) (near : Int) : closedB r near = true ↔ Closed r near := by
 unfold closedB
 by_cases h : Closed r near
 ·rw [@decide_eq_true _ (Classical.propDecidable _) h]; simp [h]
 ·rw [@decide_eq_false _ (Classical.propDecidable _) h]; simp [h]
noncomputable def s56 : List V → Prop × V := fnG eRN dRN (fun a => OkR a.1) (fun a => closedB a.1 a.2) .b
noncomputable def H7 : Gam := H6.ext 56 s56
theorem okH7 : GOk Try.prog H7 := okH6.ext (f := 56) (r := s56) (fun a w => Try.call56 a w) (fnG_ok fun a h => W56 a.1 a.2 h)
theorem h56 (r : Ring) (n : Int) : H7 56 [.pa (eRing r), .i n] = (OkR r, .b (closedB r n)) :=
 (show H7 56 _ = s56 (eRN (r, n)) from rfl).trans (fnG_at _ (dRN_e _))
theorem h50h (f : Fig) (b : Bool) : H7 50 [.ag (eFig f), .b b] = (True, openV f b) := h50 f b
theorem farN_le {p a b : Int} (hp : 0 < p) : farN p a b ≤ p / 2 := by
 unfold farN
 rw [modN_eq hp, modN_eq hp]
 have h1 := Xs (a - b) (show p ≠ 0 by omega)
 have h2 := Xh (a - b) hp
 have h3 := Xs (b - a) (show p ≠ 0 by omega)
 have h4 := Xh (b - a) hp
 have h5 : (a - b) % p + (b - a) % p = 0 ∨ (a - b) % p + (b - a) % p = p := by
  have e : b - a = -(a - b) := by omega
  rw [e, Int.neg_emod]
  split
  ·rename_i h; left; have := Int.emod_eq_zero_of_dvd h; omega
  ·right; have : (p.natAbs : Int) = p := by omega
   omega
 omega
theorem meets_half {r : Ring} (h : OkR r) (k : Nat) (l : Int) : meetsN r.fig.period (movesAt r k) l (r.fig.period / 2) = 1 := by
 have hp := h.period
 unfold meetsN
 rw [if_pos]
 unfold goodN
 rw [X4.2]
 intro x _
 exact decide_eq_true (farN_le (by omega))
theorem closed_half {r : Ring} (h : OkR r) : Closed r (r.fig.period / 2) := by
 have hp := h.period
 have hl := h.len
 have hfull : ∀ k, stepTo r (r.fig.period / 2) k r.fig.period.toNat = (Zs r.fig.period.toNat).map fun i : Nat => (i : Int) := by
  intro k
  unfold stepTo
  rw [X4.2]
  intro x _
  exact decide_eq_true (meets_half h k x)
 have key : ∀ n, atS r.fig.period (stepsTo r (r.fig.period / 2) n) (· = 0) 0 := by
  intro n
  induction n with
  | zero => rfl
  | succ n ih =>
   rw [stepsTo_succ]
   unfold atS at ih ⊢
   rw [Xm]
   refine ⟨0, ih, 0, ?_, ?_⟩
   ·rw [hfull]
    exact Z0.2 ⟨0, Xi.2 (by omega), rfl⟩
   ·rw [modN_eq (by omega)]; simp
 exact key _
noncomputable def closestN (r : Ring) : Nat := (Zs 31).findIdx fun n => closedB r (n : Nat)
theorem closestN_spec {r : Ring} (h : OkR r) : closestN r ≤ (r.fig.period / 2).toNat ∧ closedB r (closestN r : Nat) = true ∧ ∀ i, i < closestN r → closedB r (i : Nat) = false := by
 have hp := h.period
 have hc : closedB r ((r.fig.period / 2).toNat : Nat) = true := by
  rw [closedB_iff, show (((r.fig.period / 2).toNat : Nat) : Int) = r.fig.period / 2 by omega]
  exact closed_half h
 have hno : ∀ i, i < closestN r → closedB r (i : Nat) = false := by
  intro i hi
  have := List.not_of_lt_findIdx hi
  simpa using this
 have hle : closestN r ≤ (r.fig.period / 2).toNat := by
  rcases Nat.lt_or_ge (r.fig.period / 2).toNat (closestN r) with h1 | h1
  ·have := hno _ h1; rw [hc] at this; cases this
  ·exact h1
 have hlt : closestN r < (Zs 31).length := by rw [List.length_range]; omega
 refine ⟨hle, ?_, hno⟩
 have := List.findIdx_getElem (xs := Zs 31) (p := fun n => closedB r (n : Nat)) (w := hlt)
 have e : ((Zs 31)[List.findIdx (fun n : Nat => closedB r n) (Zs 31)]'hlt) = List.findIdx (fun n : Nat => closedB r n) (Zs 31) := List.getElem_range hlt
 simp only [e] at this
 exact this
noncomputable def closestR (f : Fig) : Int × Int := if openE f true = 0 then ((closestN (ringOf f) : Nat), 0) else (0, openE f true)
theorem W22 (f : Fig) : PureCall Try.prog 22 [.ag (eFig f)] (.tp [.i (closestR f).1, .i (closestR f).2]) := by
 refine pure_body okH7 hmix Try.func22 cb22 cc22 cs22 cn22 ?_
 have g1 := h50h f true
 unfold openV eFig at g1
 simp only [rc22, rs22, g1, ru_skip, ru_reg, ru_seq, ru_cnd, ite_P, ru_block, ru_ret, ru_keep, thenQ, run_nil, run_cons, Fam.step, stepQ, evO, opv, qv, binV, ldV, callV, V.cells, solid, hasRef, hasRefL, flat, flatL, upd_some, lkp_cons, lkp_nil, ↓reduceIte, Nat.reduceEqDiff, Nat.reduceAdd, Nat.reduceLT, Nat.reduceLeDiff, Qb, Qc, Qe, Qh, Qg, Qv, Qn, Qa, Qf, Q1, Qt, endQ, rvs, rv1, resV, vw_i, vw_b, vw_sl, vw_ag, vw_tp, zipA, Qj, Qy, Zd, Qz, Qd, decide_eq_false_iff_not, true_and, and_self, false_implies, Z1, Classical.not_not, eFig, eRing]
 refine ⟨fun h => ?_, fun h => ?_⟩
 ·simp only [closestR, if_neg h]
 ·obtain ⟨h1, h2, h3⟩ := openE_ok h
  have hR := okR_of h1
  have hp := hR.period
  obtain ⟨c1, c2, c3⟩ := closestN_spec hR
  simp only [h, ↓reduceIte]
  refine ru_countC (closestN (ringOf f)) (fun i => ⟨lkp [(4, .pa (eRing (ringOf f))), (6, .i (i : Nat))], []⟩) (fun i => True) ?_ trivial ?_ ?_
  ·simp only [Q8, kp, lkp_cons, lkp_nil, ↓reduceIte, Nat.reduceEqDiff, Qb, Qc, eRing]
  ·intro i hi _
   have g2 := h56 (ringOf f) (i : Nat)
   rw [c3 i hi] at g2
   unfold eRing at g2
   have h4 : inI ((i : Int) + 1) := by unfold inI; omega
   simp only [g2, h4, Qu, Qw, ru_skip, ru_reg, ru_seq, ru_cnd, ru_block, ru_keep, thenQ, blockQ, run_nil, run_cons, Fam.step, stepQ, evO, opv, qv, binV, callV, hasRef, hasRefL, flat, kp, upd_some, lkp_cons, lkp_nil, ↓reduceIte, Nat.reduceEqDiff, Nat.reduceLT, Qb, Qc, Qn, vw_i, vw_pa, Qz, Zf, Qd, true_and, and_true, and_self, implies_true, eRing]
   exact hR
  ·intro _
   have g2 := h56 (ringOf f) (closestN (ringOf f) : Nat)
   rw [c2] at g2
   unfold eRing at g2
   simp only [g2, closestR, h, ru_reg, ru_seq, ru_cnd, ru_exit, ru_ret, ru_keep, thenQ, blockQ, run_nil, run_cons, Fam.step, stepQ, evO, opv, qv, ldV, callV, hasRef, hasRefL, flat, upd_some, lkp_cons, lkp_nil, ↓reduceIte, Nat.reduceEqDiff, Nat.reduceLT, Qb, Qc, Qn, Q1, endQ, rvs, rv1, resV, vw_i, vw_pa, vw_tp, Qz, Zg, Qd, true_and, and_true, and_self, implies_true, eRing]
   exact hR
end Go.C02
set_option linter.unusedSimpArgs false
set_option linter.unusedVariables false
namespace Go.C02
open Go.Fam Go.Proofs
inductive Wy (p first : Int) : List (List Int) → List Int → Int → Prop
 | nil : Wy p first [] [first] first
 | snoc {ls : List (List Int)} {l : List Int} {a s : Int} {st : List Int} : Wy p first ls l a → s ∈ st → Wy p first (ls ++ [st]) (l ++ [modN (a + s) p]) (modN (a + s) p)
structure Bests (T : List Int → Int → Prop) (m : AM (List Int)) : Prop where
 nd : (aks m).Nodup
 one : ∀ k ∈ aks m, ∃ a, k = [a]
 no : ∀ b, aget m [b] = none → ∀ l, ¬ T l b
 is : ∀ b l, aget m [b] = some l → T l b ∧ ∀ l', T l' b → l.sum ≤ l'.sum
def BestOf (T : List Int → Prop) : Option (List Int) → Prop
 | none => ∀ l, ¬ T l
 | some l => T l ∧ ∀ l', T l' → l.sum ≤ l'.sum
theorem Bests.imp {T T' : List Int → Int → Prop} {m : AM (List Int)} (h : Bests T m) (he : ∀ l b, T l b ↔ T' l b) : Bests T' m :=
 ⟨h.nd, h.one, fun b hb l ht => h.no b hb l ((he l b).2 ht), fun b l hb => ⟨(he l b).1 (h.is b l hb).1, fun l' ht => (h.is b l hb).2 l' ((he l' b).2 ht)⟩⟩
theorem BestOf.imp {T T' : List Int → Prop} {o : Option (List Int)} (h : BestOf T o) (he : ∀ l, T l ↔ T' l) : BestOf T' o := by
 cases o with
 | none => exact fun l ht => h l ((he l).2 ht)
 | some l => exact ⟨(he l).1 h.1, fun l' ht => h.2 l' ((he l').2 ht)⟩
theorem one_put {m : AM (List Int)} (h : ∀ k ∈ aks m, ∃ a, k = [a]) (b : Int) (l : List Int) : ∀ k ∈ aks (aput m [b] l), ∃ a, k = [a] := by
 intro k hk
 rw [aks_put, mem_putK] at hk
 rcases hk with hk | rfl
 ·exact h k hk
 ·exact ⟨b, rfl⟩
theorem Bests.put {T : List Int → Int → Prop} {m : AM (List Int)} (h : Bests T m) {l0 : List Int} {b0 : Int} (hb : ∀ l, aget m [b0] = some l → l0.sum < l.sum) :
  Bests (fun l b => T l b ∨ l = l0 ∧ b = b0) (aput m [b0] l0) := by
 refine ⟨aks_nodup h.nd _ _, one_put h.one _ _, fun b hb' l ht => ?_, fun b l hb' => ?_⟩
 ·rw [aget_put] at hb'
  split at hb'
  ·cases hb'
  ·rename_i hne
   rcases ht with ht | ⟨_, rfl⟩
   ·exact h.no b hb' l ht
   ·exact hne rfl
 ·rw [aget_put] at hb'
  split at hb'
  ·rename_i he
   have he : b = b0 := by simpa using he
   subst he
   cases hb'
   refine ⟨.inr ⟨rfl, rfl⟩, fun l' ht => ?_⟩
   rcases ht with ht | ⟨rfl, _⟩
   ·cases ho : aget m [b] with
    | none => exact absurd ht (h.no b ho l')
    | some l1 =>
     have := (h.is b l1 ho).2 l' ht
     have := hb l1 ho
     omega
   ·exact Xd _
  ·rename_i hne
   obtain ⟨h1, h2⟩ := h.is b l hb'
   refine ⟨.inl h1, fun l' ht => ?_⟩
   rcases ht with ht | ⟨_, rfl⟩
   ·exact h2 l' ht
   ·exact absurd rfl hne
theorem Bests.stay {T : List Int → Int → Prop} {m : AM (List Int)} (h : Bests T m) {l0 l1 : List Int} {b0 : Int} (hb : aget m [b0] = some l1) (hl : l1.sum ≤ l0.sum) :
  Bests (fun l b => T l b ∨ l = l0 ∧ b = b0) m := by
 refine ⟨h.nd, h.one, fun b hb' l ht => ?_, fun b l hb' => ?_⟩
 ·rcases ht with ht | ⟨_, rfl⟩
  ·exact h.no b hb' l ht
  ·rw [hb] at hb'; cases hb'
 ·obtain ⟨h1, h2⟩ := h.is b l hb'
  refine ⟨.inl h1, fun l' ht => ?_⟩
  rcases ht with ht | ⟨rfl, rfl⟩
  ·exact h2 l' ht
  ·rw [hb] at hb'; cases hb'; exact hl
theorem BestOf.put {T : List Int → Prop} {o : Option (List Int)} (h : BestOf T o) {l0 : List Int} (hb : ∀ l, o = some l → l0.sum < l.sum) : BestOf (fun l => T l ∨ l = l0) (some l0) := by
 refine ⟨.inr rfl, fun l' ht => ?_⟩
 rcases ht with ht | rfl
 ·cases o with
  | none => exact absurd ht (h l')
  | some l1 =>
   have := h.2 l' ht
   have := hb l1 rfl
   omega
 ·exact Xd _
theorem BestOf.stay {T : List Int → Prop} {l1 : List Int} (h : BestOf T (some l1)) {l0 : List Int} (hl : l1.sum ≤ l0.sum) : BestOf (fun l => T l ∨ l = l0) (some l1) :=
 ⟨.inl h.1, fun l' ht => by rcases ht with ht | rfl; exact h.2 l' ht; exact hl⟩
theorem wy_in {p first : Int} (hp : 0 < p) (hf : 0 ≤ first ∧ first < p) {ls : List (List Int)} {l : List Int} {a : Int} (h : Wy p first ls l a) : l.length = ls.length + 1 ∧ (0 ≤ a ∧ a < p) ∧ (0 ≤ l.sum ∧ l.sum ≤ (ls.length + 1) * p) ∧ ∀ x ∈ l, 0 ≤ x ∧ x < p := by
 induction h with
 | nil => refine ⟨rfl, hf, by simp; omega, by simpa using hf⟩
 | snoc h hs ih =>
  rename_i ls l a s st
  obtain ⟨h1, h2, h3, h4⟩ := ih
  have hm := modN_in (a := a + s) hp
  refine ⟨by simp [h1], hm, ?_, ?_⟩
  ·rw [Z8, Zt, Xw, X8, Qu, Qw]
   have e : ((ls.length : Int) + 1 + 1) * p = (ls.length + 1) * p + p := by rw [Int.add_mul, Int.one_mul]
   omega
  ·intro x hx
   rcases Z7.1 hx with hx | hx
   ·exact h4 x hx
   ·have : x = modN (a + s) p := by simpa using hx
    subst this; exact hm
theorem wy_snoc {p first : Int} {ls : List (List Int)} {st l : List Int} {b : Int} (h : Wy p first (ls ++ [st]) l b) : ∃ l0 a s, Wy p first ls l0 a ∧ s ∈ st ∧ b = modN (a + s) p ∧ l = l0 ++ [b] := by
 generalize hq : ls ++ [st] = q at h
 cases h with
 | nil => simp at hq
 | snoc h hs =>
  rename_i ls' l0 a s st'
  have h1 := List.append_inj' hq rfl
  obtain ⟨h1, h2⟩ := h1
  cases h2
  subst h1
  exact ⟨l0, a, s, h, hs, rfl, rfl⟩
theorem wy_nil {p first : Int} {l : List Int} {b : Int} (h : Wy p first [] l b) : l = [first] ∧ b = first := by
 generalize hq : ([] : List (List Int)) = q at h
 induction h with
 | nil => exact ⟨rfl, rfl⟩
 | snoc _ _ => simp at hq
theorem bests_first (p first : Int) : Bests (Wy p first []) [([first], [first])] := by
 refine ⟨by simp [aks], by simp [aks], fun b hb l hw => ?_, fun b l hb => ?_⟩
 ·obtain ⟨_, rfl⟩ := wy_nil hw
  simp [aget] at hb
 ·have : b = first ∧ l = [first] := by
   unfold aget at hb
   by_cases e : first = b
   ·simp [e] at hb; exact ⟨e.symm, by rw [← hb, e]⟩
   ·simp [e] at hb
  obtain ⟨rfl, rfl⟩ := this
  refine ⟨.nil, fun l' hw => ?_⟩
  obtain ⟨rfl, _⟩ := wy_nil hw
  exact Xd _
theorem bests_next {p first : Int} {ls : List (List Int)} {st : List Int} {m m' : AM (List Int)} (h : Bests (Wy p first ls) m)
  (h' : Bests (fun l b => ∃ a l0, aget m [a] = some l0 ∧ ∃ s ∈ st, b = modN (a + s) p ∧ l = l0 ++ [b]) m') : Bests (Wy p first (ls ++ [st])) m' := by
 refine ⟨h'.nd, h'.one, fun b hb l hw => ?_, fun b l hb => ?_⟩
 ·obtain ⟨l1, a, s, hw1, hs, rfl, rfl⟩ := wy_snoc hw
  cases ho : aget m [a] with
  | none => exact h.no a ho l1 hw1
  | some l0 => exact h'.no _ hb (l0 ++ [modN (a + s) p]) ⟨a, l0, ho, s, hs, rfl, rfl⟩
 ·obtain ⟨⟨a, l0, ho, s, hs, rfl, rfl⟩, h2⟩ := h'.is b l hb
  refine ⟨.snoc (h.is a l0 ho).1 hs, fun l' hw => ?_⟩
  obtain ⟨l1, a1, s1, hw1, hs1, e1, rfl⟩ := wy_snoc hw
  cases ho1 : aget m [a1] with
  | none => exact absurd hw1 (h.no a1 ho1 l1)
  | some l2 =>
   have g1 := h2 (l2 ++ [modN (a + s) p]) ⟨a1, l2, ho1, s1, hs1, e1, rfl⟩
   have g2 := (h.is a1 l2 ho1).2 l1 hw1
   rw [Z8] at g1 ⊢
   rw [Z8] at g1 ⊢
   omega
def Beg (r : Ring) (near first : Int) (l : List Int) : Prop := ∃ a, Wy r.fig.period first ((stepsOf r near).take (r.moves.length - 1)) l a ∧ meetsN r.fig.period (movesAt r (r.moves.length - 1)) (modN (first - a) r.fig.period) near = 1
def wV (l : List Int) : V := .ag [.sl 1 (l.map eI), .i l.sum]
def bestC : Option (List Int) → List V
 | none => [.z 1, .i 0]
 | some l => [.sl 1 (l.map eI), .i l.sum]
def beginV (o : Option (List Int)) : V := .tp [.ag [.sl 1 ((o.getD []).map eI), .i (o.getD []).sum], .b o.isSome]
theorem best_next {r : Ring} {near : Int} {i : Nat} {m : AM (List Int)} {o : Option (List Int)} (hlen : 3 ≤ r.moves.length ∧ r.moves.length ≤ 16) (hM : Bests (Wy r.fig.period i ((stepsOf r near).take ((stepsOf r near).length - 1))) m)
  (h : BestOf (fun l => (∃ first : Int, (0 ≤ first ∧ first < (i : Nat)) ∧ Beg r near first l) ∨ ∃ a, aget m [a] = some l ∧ meetsN r.fig.period (movesAt r (r.moves.length - 1)) (modN (i - a) r.fig.period) near = 1) o) :
  BestOf (fun l => ∃ first : Int, (0 ≤ first ∧ first < ((i + 1 : Nat) : Int)) ∧ Beg r near first l) o := by
 have hsl : (stepsOf r near).length = r.moves.length := by simp [stepsOf, stepsTo]
 rw [hsl] at hM
 have key : ∀ l, (∃ first : Int, (0 ≤ first ∧ first < ((i + 1 : Nat) : Int)) ∧ Beg r near first l) → ∃ l', ((∃ first : Int, (0 ≤ first ∧ first < (i : Nat)) ∧ Beg r near first l') ∨ ∃ a, aget m [a] = some l' ∧ meetsN r.fig.period (movesAt r (r.moves.length - 1)) (modN (i - a) r.fig.period) near = 1) ∧ l'.sum ≤ l.sum := by
  rintro l ⟨first, hf, hb⟩
  by_cases e : first < i
  ·exact ⟨l, .inl ⟨first, ⟨hf.1, e⟩, hb⟩, Xd _⟩
  ·have e : first = i := by omega
   subst e
   obtain ⟨a, hw, hm⟩ := hb
   cases ho : aget m [a] with
   | none => exact absurd hw (hM.no a ho l)
   | some l1 => exact ⟨l1, .inr ⟨a, ho, hm⟩, (hM.is a l1 ho).2 l hw⟩
 cases o with
 | none =>
  intro l hl
  obtain ⟨l', h1, _⟩ := key l hl
  exact h l' h1
 | some l1 =>
  refine ⟨?_, fun l hl => ?_⟩
  ·rcases h.1 with ⟨first, hf, hb⟩ | ⟨a, ha, hm⟩
   ·exact ⟨first, ⟨hf.1, by omega⟩, hb⟩
   ·exact ⟨i, by omega, a, (hM.is a l1 ha).1, hm⟩
  ·obtain ⟨l', h1, h2⟩ := key l hl
   have := h.2 l' h1
   omega
theorem h84i (r : Ring) (a : Int) : H7 84 [.pa (eRing r), .i a] = (0 < r.fig.period ∧ r.fig.period ≤ 1000000, .i (modN a r.fig.period)) := h84 r a
theorem h83i (r : Ring) (a b c : Int) : H7 83 [.pa (eRing r), .i a, .i b, .i c] = (OkR r ∧ (0 ≤ a ∧ a < r.moves.length) ∧ tame 1000000 b, .i (meetsN r.fig.period (movesAt r a) b c)) := h83 r a b c
theorem h87i (r : Ring) (n : Int) : H7 87 [.pa (eRing r), .i n] = (OkR r, .sl 1 ((stepsOf r n).map eCan)) := h87 r n
set_option maxHeartbeats 2000000 in
theorem W63 (r : Ring) (near : Int) (h : OkR r) : RelCall Try.prog 63 [.pa (eRing r), .i near] fun v hp => (∃ o, v = beginV o ∧ BestOf (fun l => ∃ first : Int, (0 ≤ first ∧ first < r.fig.period) ∧ Beg r near first l) o) ∧ hp = [] := by
 refine relp_body okH7 hmix Try.func63 cb63 cc63 cs63 cn63 ?_
 have hlen := h.len
 have hp := h.period
 have g1 := h87i r near
 unfold eRing at g1
 have hsl : (stepsOf r near).length = r.moves.length := by simp [stepsOf, stepsTo]
 simp only [rc63, rs63, g1, ru_reg, ru_seq, ru_block, ru_keep, thenQ, run_nil, run_cons, Fam.step, stepQ, stepW, needW, nv, evO, opv, qv, ldV, callV, hasRef, hasRefL, flat, upd_some, lkp_cons, lkp_nil, ↓reduceIte, Nat.reduceEqDiff, Nat.reduceAdd, Nat.reduceLT, Nat.reduceLeDiff, Qb, Qc, Qe, Qh, Qk, Qq, Qp, Ql, Qi, Qn, rv1, resV, vw_i, vw_pa, vw_tp, zipA, Qj, Qz, Qd, true_and, and_true, and_self, reduceCtorEq, imp_self, eRing]
 refine ⟨h, ?_⟩
 have hpn : (r.fig.period.toNat : Int) = r.fig.period := by omega
 refine ru_countE r.fig.period.toNat (fun i o => ⟨lkp [(0, .pa (eRing r)), (1, .i near), (4, .ad 0 0 0), (6, .sl 1 ((stepsOf r near).map eCan)), (7, .ad 1 0 0), (8, .b o.isSome), (29, .i r.fig.period), (30, .i i)], [.cells 0 [.z 1, .i 0], .cells 0 (bestC o)]⟩)
  (fun i o => BestOf (fun l => ∃ first : Int, (0 ≤ first ∧ first < (i : Nat)) ∧ Beg r near first l) o) none ?_ ?_ ?_ ?_
 ·simp only [Q8, bestC, Z6, cutH, kp, cutV, cutL, cutB, lkp_cons, lkp_nil, ↓reduceIte, Nat.reduceEqDiff, Nat.reduceLT, Qb, Qc, Qg, Qv, reduceCtorEq, eRing]
 ·rintro l ⟨first, hf, _⟩
  omega
 ·intro i o hi hC
  have hlt : (i : Int) < r.fig.period := by omega
  have h4 : inI ((i : Int) + 1) := by unfold inI; omega
  simp only [hlt, ru_skip, ru_reg, ru_seq, ru_cnd, ru_block, ru_keep, chunk1, cutH, putB, keyL, keyFits, thenQ, run_nil, run_cons, Fam.step, stepQ, stepW, needW, putB, nv, sv, evO, opv, qv, binV, lenV, foldParts, putAt, partsOk, partsOne, V.cells, solid, cellOk, hasRef, hasRefL, kp, upd_some, upd_none, lkp_cons, lkp_nil, ↓reduceIte, Nat.reduceEqDiff, Nat.reduceAdd, Nat.reduceMul, Nat.reduceLeDiff, Qb, Qc, Q4, Q5, Qe, Qh, Qk, Qq, Zb, Qg, Qr, Ql, Qi, Qn, Qa, Qf, Qs, Q0, Q7, Zn, vw_i, Qj, Qy, Qz, Qd, decide_true, true_and, and_self, false_implies, reduceCtorEq, not_false_eq_true, ne_eq, Qo, eRing]
  have hin : inI (((stepsOf r near).length : Int) - 1) := by unfold inI; omega
  have hnb : ∀ o, hasRefL (bestC o) = false := fun o => by cases o <;> rfl
  have hnw : ∀ m, hasRefL (avs wV m) = false := fun m => noref_avs (fun _ => rfl) m
  have hn0 : aks ([] : AM (List Int)) = [] := rfl
  have hn0' : avs wV ([] : AM (List Int)) = [] := rfl
  have hn1 : (((stepsOf r near).length - 1 : Nat) : Int) = (stepsOf r near).length - 1 := by omega
  refine ⟨hin, ?_⟩
  refine ru_countE ((stepsOf r near).length - 1) (fun j m => ⟨lkp [(0, .pa (eRing r)), (1, .i near), (4, .ad 0 0 0), (6, .sl 1 ((stepsOf r near).map eCan)), (7, .ad 1 0 0), (8, .b o.isSome), (9, .i i), (10, .mp 2 0), (29, .i r.fig.period), (30, .i i), (42, .i ((stepsOf r near).length - 1)), (43, .i j)],
    [.cells 0 [.z 1, .i 0], .cells 0 (bestC o), .map false (aks m) (avs wV m)]⟩)
   (fun j m => Bests (Wy r.fig.period i ((stepsOf r near).take j)) m) [([(i : Int)], [(i : Int)])] ?_ ?_ ?_ ?_
  ·simp only [Q8, cutL_noref _ _ _ (hnb o), aks, avs, wV, putK, putVs, List.not_mem_nil, X8, cutH, kp, cutV, cutL, cutB, lkp_cons, lkp_nil, ↓reduceIte, Nat.reduceEqDiff, Nat.reduceLT, Qb, Qc, Qg, Qv, Qi, reduceCtorEq, eI, eRing]
  ·rw [Qr]; exact bests_first _ _
  ·intro j m hj hM
   obtain ⟨st, hst⟩ : ∃ st, (stepsOf r near)[j]? = some st := ⟨_, Q6 (by omega)⟩
   have hltj : (j : Int) < (stepsOf r near).length - 1 := by omega
   have i2 : inI ((j : Int) + 1) := by unfold inI; omega
   simp only [hltj, ru_skip, ru_reg, ru_seq, ru_cnd, ru_block, ru_keep, cutH, thenQ, run_nil, run_cons, Fam.step, stepQ, stepW, needW, nv, evO, opv, qv, binV, kp, upd_some, lkp_cons, lkp_nil, ↓reduceIte, Nat.reduceEqDiff, Nat.reduceAdd, Qb, Qc, Qe, Qh, Ql, Qi, Qa, Qf, Qj, decide_true, true_and, and_self, reduceCtorEq, eRing]
   refine ru_rangeE (aks m).length (fun pre m' => ⟨lkp [(0, .pa (eRing r)), (1, .i near), (4, .ad 0 0 0), (6, .sl 1 ((stepsOf r near).map eCan)), (7, .ad 1 0 0), (8, .b o.isSome), (9, .i i), (11, .i j), (12, .mp 3 0), (29, .i r.fig.period), (30, .i i), (42, .i ((stepsOf r near).length - 1)), (43, .i j), (48, .it 4 0)],
     [.cells 0 [.z 1, .i 0], .cells 0 (bestC o), .map false (aks m) (avs wV m), .map false (aks m') (avs wV m'), .iter 2 (aks m).length (leftN (aks m).length pre) pre.getLast?]⟩)
    (fun pre m' => Bests (fun l b => ∃ q ∈ pre, ∃ a l0, m[q]? = some ([a], l0) ∧ ∃ s ∈ st, b = modN (a + s) r.fig.period ∧ l = l0 ++ [b]) m') [] ?_ ?_ ?_
   ·simp only [leftN_nil, Xl, cutL_noref _ _ _ (hnb o), cutL_noref _ _ _ (hnw m), hn0, hn0', cutH, kp, cutV, cutL, cutB, lkp_cons, lkp_nil, ↓reduceIte, Nat.reduceEqDiff, Nat.reduceLT, Qb, Qc, Qg, Qv, reduceCtorEq, eRing]
   ·exact ⟨by simp [aks], by simp [aks], fun b hb l ht => (by simp at ht), fun b l hb => (by simp [aget] at hb)⟩
   ·intro pre m' hnd hlt2 hC2
    simp only [ru_skip, ru_reg, ru_seq, ru_cnd, ru_block, ru_exit, ru_keep, ru_drp, ru_swp, ru_nxt, ↓cut_lkp, ↓ren_lkp, swH, sw, renV, renL, renB, cutH, putB, entV, keyV, thenQ, blockQ, run_nil, run_cons, Fam.step, stepQ, stepW, needW, putB, nv, sv, evO, opv, qv, binV, ldV, iadV, lenV, putAt, V.cells, solid, kp, cutV, cutL, cutB, upd_some, upd_none, lkp_cons, lkp_nil, ↓reduceIte, Nat.reduceEqDiff, Nat.reduceAdd, Nat.reduceLT, Nat.reduceLeDiff, Qb, Qc, Qe, Qh, Qg, Qr, Qv, Ql, Qi, Qa, Qf, Qt, Qs, Q0, Q9, Qj, Qd, true_and, and_self, reduceCtorEq, Qo, Q2, Qm, Q3, eRing]
    refine ⟨fun hnil => ?_, fun q hq => ?_⟩
    ·have hall : ∀ q, q < (aks m).length → q ∈ pre := fun q hq => Classical.byContradiction fun hn => by
      have := mem_leftN.2 ⟨hq, hn⟩
      rw [hnil] at this; cases this
     refine ⟨i2, m', ?_, ?_⟩
     ·rw [take_succ_of hst]
      refine bests_next hM (hC2.imp fun l b => ?_)
      constructor
      ·rintro ⟨q, _, a, l0, hq, s, hs, e1, e2⟩
       exact ⟨a, l0, aget_at hM.nd hq, s, hs, e1, e2⟩
      ·rintro ⟨a, l0, hq, s, hs, e1, e2⟩
       obtain ⟨q, hq'⟩ := Xz (aget_mem hq)
       exact ⟨q, hall q (by have := getElemLt hq'; simpa [aks] using this), a, l0, hq', s, hs, e1, e2⟩
     ·simp only [renL_noref _ _ (hnb o), renL_noref _ _ (hnw m), renL_noref _ _ (hnw m'), cutL_noref _ _ _ (hnb o), cutL_noref _ _ _ (hnw m'), Qu, Qw]
    ·obtain ⟨hqn, hqp⟩ := mem_leftN.1 hq
     obtain ⟨k, l0, hk0, hk1, hk2⟩ := am_get hqn
     obtain ⟨a, rfl⟩ := hM.one k (Za hk1)
     have hk2' : (avs wV m)[q]? = some (.ag [.sl 1 (l0.map eI), .i l0.sum]) := hk2 wV
     obtain ⟨hll, hlx⟩ := mem_stepsOf (Za hst)
     have hw0 := (hM.is a l0 (aget_at hM.nd hk0)).1
     obtain ⟨w1, w2, w3, w4⟩ := wy_in (by omega) (by omega) hw0
     have hw3 : l0.sum ≤ 17 * 60 := by
      refine Int.le_trans w3.2 ?_
      rw [Zm]
      exact Int.mul_le_mul (by omega) (by omega) (by omega) (by omega)
     have hw1 : l0.length ≤ 17 := by rw [w1, Zm]; omega
     simp only [hk1, hk2', leftN_erase hq, hst, show (j : Int) < (stepsOf r near).length by omega, cellOk, Nat.reduceAdd, Nat.reduceLeDiff, Q4, Q5, Qe, Qh, Qk, Zb, Qp, Qn, Qt, Qj, Qy, true_and, and_self, Zc, Qo, eCan]
     refine ru_countE st.length (fun k y => ⟨lkp [(0, .pa (eRing r)), (1, .i near), (4, .ad 0 0 0), (6, .sl 1 ((stepsOf r near).map eCan)), (7, .ad 1 0 0), (8, .b o.isSome), (9, .i i), (11, .i j), (12, .mp 3 0), (13, .i a), (14, .ad 5 0 0), (29, .i r.fig.period), (30, .i i), (42, .i ((stepsOf r near).length - 1)), (43, .i j), (48, .it 4 0), (57, .sl 1 (st.map eI)), (58, .i st.length), (59, .i k)],
       [.cells 0 [.z 1, .i 0], .cells 0 (bestC o), .map false (aks m) (avs wV m), .map false (aks y) (avs wV y), .iter 2 (aks m).length (leftN (aks m).length (pre ++ [q])) (some q), .cells 0 [.sl 1 (l0.map eI), .i l0.sum]]⟩)
      (fun k y => Bests (fun l b => (∃ q ∈ pre, ∃ a l0, m[q]? = some ([a], l0) ∧ ∃ s ∈ st, b = modN (a + s) r.fig.period ∧ l = l0 ++ [b]) ∨ ∃ s ∈ st.take k, b = modN (a + s) r.fig.period ∧ l = l0 ++ [b]) y) m' ?_ ?_ ?_ ?_
     ·simp only [Q8, cutL_noref _ _ _ (hnb o), cutL_noref _ _ _ (hnw m), cutL_noref _ _ _ (hnw m'), cutH, kp, cutV, cutL, cutB, lkp_cons, lkp_nil, ↓reduceIte, Nat.reduceEqDiff, Nat.reduceLT, Qb, Qc, Qg, Qv, reduceCtorEq, eRing]
     ·refine hC2.imp fun l b => ?_
      simp
     ·intro k y hk hC3
      obtain ⟨s, hs⟩ : ∃ s, st[k]? = some s := ⟨_, Q6 hk⟩
      have hsr := hlx s (Za hs)
      have hlt3 : (k : Int) < st.length := by omega
      have i3 : inI ((k : Int) + 1) := by unfold inI; omega
      have i4 : inI (a + s) := by unfold inI; omega
      have i5 : inI (l0.sum + modN (a + s) r.fig.period) := by
       have := modN_in (a := a + s) (p := r.fig.period) (by omega)
       unfold inI; omega
      have g2 := h84i r (a + s)
      unfold eRing at g2
      have hget := avs_get wV y [modN (a + s) r.fig.period]
      have hT : ∀ l b, ((∃ q ∈ pre, ∃ a l0, m[q]? = some ([a], l0) ∧ ∃ s ∈ st, b = modN (a + s) r.fig.period ∧ l = l0 ++ [b]) ∨ ∃ s ∈ st.take (k + 1), b = modN (a + s) r.fig.period ∧ l = l0 ++ [b]) ↔
        (((∃ q ∈ pre, ∃ a l0, m[q]? = some ([a], l0) ∧ ∃ s ∈ st, b = modN (a + s) r.fig.period ∧ l = l0 ++ [b]) ∨ ∃ s ∈ st.take k, b = modN (a + s) r.fig.period ∧ l = l0 ++ [b]) ∨ (l = l0 ++ [modN (a + s) r.fig.period] ∧ b = modN (a + s) r.fig.period)) := by
       intro l b
       rw [take_succ_of hs, or_assoc]
       refine or_congr Iff.rfl ?_
       simp only [Z7, X9]
       constructor
       ·rintro ⟨s', hs' | rfl, rfl, rfl⟩
        ·exact .inl ⟨s', hs', rfl, rfl⟩
        ·exact .inr ⟨rfl, rfl⟩
       ·rintro (⟨s', hs', rfl, rfl⟩ | ⟨rfl, rfl⟩)
        ·exact ⟨s', .inl hs', rfl, rfl⟩
        ·exact ⟨s, .inr rfl, rfl, rfl⟩
      have htk : (l0.map eI).take l0.length = l0.map eI := Xf (by simp)
      have hfl : (l0.map eI).flatten ++ [[V.i (modN (a + s) r.fig.period)]].flatten = ((l0 ++ [modN (a + s) r.fig.period]).map eI).flatten := by simp [eI]
      have hln : (l0.map eI).length + 1 = (l0 ++ [modN (a + s) r.fig.period]).length := by simp
      have hsm : (l0 ++ [modN (a + s) r.fig.period]).sum = l0.sum + modN (a + s) r.fig.period := by simp [Z8]
      cases ho : aget y [modN (a + s) r.fig.period] with
      | none =>
       rw [ho, Option.map_none] at hget
       have hno := aget_none.1 ho
       simp only [hlt3, hs, i3, i4, g2, hget, hno, i5, ru_skip, ru_reg, ru_any, ru_seq, ru_cnd, ru_block, ru_keep, ru_drp, chunk1, ↓cut_lkp, putBs, optL, cutH, putB, lkpV, keyL, keyFits, thenQ, blockQ, run_nil, run_cons, Fam.step, stepQ, stepW, needQ, needW, condB, ug, runX, eff, nextD, fpR, fpQ, fpV, disjB, hits, putB, nv, sv, newsV, evO, opv, qv, pickV_bb, binV, ldV, iadV, lenV, curG, slxV, callV, foldParts, putAt, partsOk, partsOne, V.cells, solid, cellOk, hasRef, hasRefL, flat, kp, cutV, cutL, cutB, upd_some, upd_none, lkp_cons, lkp_nil, ↓reduceIte, Nat.reduceEqDiff, Nat.reduceAdd, Nat.reduceMul, Nat.reduceLT, Nat.reduceLeDiff, Nat.reduceBEq, Qb, Qc, Q4, Q5, Qe, Qh, Qk, Qq, Zb, Qg, Qr, Qv, Qp, Ql, Qi, Qn, Qa, Qf, Q1, Qt, Ze, Qs, Q0, Q7, Zn, Zl, Zr, vw_i, vw_pa, vw_rf, Q9, beq_self_eq_true, Qj, Xa, Qy, Zd, Zx, Zq, Xj, Qz, Zy, Zg, Zf, Qd, Xb, decide_true, decide_false, true_and, and_true, and_self, forall_const, false_implies, implies_true, reduceCtorEq, not_false_eq_true, ne_eq, Zc, Z3, Zw, Zj, Zh, beq_false, imp_self, Qo, Q2, Qm, Q3, eI, eRing]
       rw [htk]
       refine ⟨by omega, ?_⟩
       refine ⟨Xd _, by rw [Qo]; unfold fitsLen; omega, _, (hC3.put (l0 := l0 ++ [modN (a + s) r.fig.period]) (b0 := modN (a + s) r.fig.period) (by rw [ho]; simp)).imp fun l b => (hT l b).symm, ?_⟩
       rw [hfl, hln]
       simp only [cutL_noref _ _ _ (hnb o), cutL_noref _ _ _ (hnw m), cutL_putVs, cutL_noref _ _ _ (hnw y), ← avs_put hC3.nd, aks_put, wV, hpF, upB, upL, upV, upL_noref _ _ (noref_I _), len_I, Z2, Zv, chunk_I, vw_I, Qu, Qw, hsm, cutV, cutL, ↓reduceIte, Nat.reduceLT, Qb, Qc, Qk, Qq, Qg, Qr, Ql, Qi, Qa, Qf, vw_rf, Qj, and_self]
      | some l1 =>
       rw [ho, Zc] at hget
       have his := mem_aks.2 (show (aget y [modN (a + s) r.fig.period]).isSome = true by rw [ho]; rfl)
       simp only [hlt3, hs, i3, i4, i5, g2, hget, his, wV, ru_skip, ru_reg, ru_any, ru_seq, ru_cnd, ite_P, ru_block, ru_keep, ru_drp, chunk1, ↓cut_lkp, putBs, optL, cutH, putB, lkpV, keyL, keyFits, thenQ, blockQ, run_nil, run_cons, Fam.step, stepQ, stepW, needQ, needW, condB, ug, runX, eff, nextD, fpR, fpQ, fpV, disjB, hits, putB, nv, sv, newsV, evO, opv, qv, pickV_bb, binV, ldV, iadV, lenV, curG, slxV, callV, foldParts, putAt, partsOk, partsOne, V.cells, solid, cellOk, hasRef, hasRefL, flat, kp, cutV, cutL, cutB, upd_some, upd_none, lkp_cons, lkp_nil, ↓reduceIte, Nat.reduceEqDiff, Nat.reduceAdd, Nat.reduceMul, Nat.reduceLT, Nat.reduceLeDiff, Nat.reduceBEq, Qb, Qc, Q4, Q5, Qe, Qh, Qk, Qq, Zb, Qg, Qr, Qv, Qp, Ql, Qi, Qn, Qa, Qf, Q1, Qt, Ze, Qs, Q0, Q7, Zn, Zl, Zr, vw_i, vw_pa, vw_rf, Q9, beq_self_eq_true, Qj, Xa, Qy, Zd, Zx, Zq, Xj, Qz, Zy, Zg, Zf, Qd, decide_true, decide_eq_true_eq, true_and, and_true, and_self, forall_const, false_implies, implies_true, reduceCtorEq, not_false_eq_true, ne_eq, Zc, Z3, Zw, Zj, Zh, Qo, Q2, Qm, Q3, eI, eRing]
       rw [htk]
       refine ⟨by omega, fun hc => ?_, fun hc => ?_⟩
       ·refine ⟨Xd _, by rw [Qo]; unfold fitsLen; omega, _, (hC3.put (l0 := l0 ++ [modN (a + s) r.fig.period]) (b0 := modN (a + s) r.fig.period) (by rw [ho]; intro l hl; cases hl; rw [hsm]; exact hc)).imp fun l b => (hT l b).symm, ?_⟩
        rw [hfl, hln]
        simp only [cutL_noref _ _ _ (hnb o), cutL_noref _ _ _ (hnw m), cutL_putVs, cutL_noref _ _ _ (hnw y), ← avs_put hC3.nd, aks_put, wV, hpF, upB, upL, upV, upL_noref _ _ (noref_I _), len_I, Z2, Zv, chunk_I, vw_I, Qu, Qw, hsm, cutV, cutL, ↓reduceIte, Nat.reduceLT, Qb, Qc, Qk, Qq, Qg, Qr, Ql, Qi, Qa, Qf, vw_rf, Qj, and_self]
       ·refine ⟨_, (hC3.stay ho (l0 := l0 ++ [modN (a + s) r.fig.period]) (by rw [hsm]; omega)).imp fun l b => (hT l b).symm, ?_⟩
        simp only [cutL_noref _ _ _ (hnb o), cutL_noref _ _ _ (hnw m), cutL_noref _ _ _ (hnw y), Qu, Qw]
     ·intro y hC3
      simp only [Qx, ru_reg, ru_seq, ru_cnd, ru_exit, ru_keep, thenQ, blockQ, run_nil, run_cons, Fam.step, stepQ, evO, opv, qv, binV, cutV, cutL, cutB, upd_some, lkp_cons, lkp_nil, ↓reduceIte, Nat.reduceEqDiff, Nat.reduceLT, Qb, Qc, Qg, Qr, Qx, Qd, decide_false, true_and, reduceCtorEq, eRing]
      refine ⟨q, y, hq, hC3.imp fun l b => ?_, ?_⟩
      ·rw [Xg]
       constructor
       ·rintro (⟨q', hq', h⟩ | h)
        ·exact ⟨q', by simp [hq'], h⟩
        ·exact ⟨q, by simp, a, l0, hk0, h⟩
       ·rintro ⟨q', hq', a', l', hk', h⟩
        rcases Z7.1 hq' with hq' | hq'
        ·exact .inl ⟨q', hq', a', l', hk', h⟩
        ·have : q' = q := by simpa using hq'
         subst this
         rw [hk0] at hk'
         cases hk'
         exact .inr h
      ·simp only [cutL_noref _ _ _ (hnb o), cutL_noref _ _ _ (hnw m), cutL_noref _ _ _ (hnw y), Zp]
  ·intro m hM
   simp only [hn1, Qx, ru_reg, ru_seq, ru_cnd, ru_block, ru_exit, ru_keep, thenQ, blockQ, run_nil, run_cons, Fam.step, stepQ, stepW, needW, nv, evO, opv, qv, binV, upd_some, lkp_cons, lkp_nil, ↓reduceIte, Nat.reduceEqDiff, Nat.reduceAdd, Qb, Qc, Qe, Qh, Ql, Qi, Qa, Qf, Qx, Qj, Qd, decide_false, true_and, and_self, reduceCtorEq, eRing]
   refine ru_rangeE (aks m).length (fun pre o' => ⟨lkp [(0, .pa (eRing r)), (1, .i near), (4, .ad 0 0 0), (6, .sl 1 ((stepsOf r near).map eCan)), (7, .ad 1 0 0), (8, .b o'.isSome), (9, .i i), (29, .i r.fig.period), (30, .i i), (108, .it 3 0)],
     [.cells 0 [.z 1, .i 0], .cells 0 (bestC o'), .map false (aks m) (avs wV m), .iter 2 (aks m).length (leftN (aks m).length pre) pre.getLast?]⟩)
    (fun pre o' => BestOf (fun l => (∃ first : Int, (0 ≤ first ∧ first < (i : Nat)) ∧ Beg r near first l) ∨ ∃ q ∈ pre, ∃ a, m[q]? = some ([a], l) ∧ meetsN r.fig.period (movesAt r (r.moves.length - 1)) (modN (i - a) r.fig.period) near = 1) o') o ?_ ?_ ?_
   ·simp only [leftN_nil, Xl, cutL_noref _ _ _ (hnb o), cutL_noref _ _ _ (hnw m), cutH, kp, cutV, cutL, cutB, lkp_cons, lkp_nil, ↓reduceIte, Nat.reduceEqDiff, Nat.reduceLT, Qb, Qc, Qg, Qv, reduceCtorEq, eRing]
   ·refine hC.imp fun l => ?_
    simp
   ·intro pre o' hnd hlt2 hC2
    have hsl1 : (((stepsOf r near).length : Nat) : Int) - 1 = r.moves.length - 1 := by omega
    simp only [cutL_noref _ _ _ (hnb o'), cutL_noref _ _ _ (hnw m), ru_skip, ru_reg, ru_seq, ru_cnd, ite_P, ru_block, ru_exit, ru_keep, ru_drp, ru_nxt, ↓cut_lkp, cutH, putB, entV, keyV, thenQ, blockQ, run_nil, run_cons, Fam.step, stepQ, stepW, needQ, needW, condB, ug, putB, nv, sv, evO, opv, qv, binV, ldV, lenV, curG, callV, putAt, V.cells, solid, hasRef, hasRefL, kp, cutV, cutL, cutB, upd_some, upd_none, lkp_cons, lkp_nil, ↓reduceIte, Nat.reduceEqDiff, Nat.reduceAdd, Nat.reduceLT, Nat.reduceLeDiff, Qb, Qc, Q4, Q5, Qe, Qh, Qq, Qg, Qr, Qv, Ql, Qi, Qn, Qa, Qf, Qt, Qs, Q0, vw_i, vw_pa, beq_self_eq_true, Qj, Qy, Zd, Zx, Qz, Zy, Qd, true_and, and_true, and_self, false_implies, implies_true, reduceCtorEq, beq_true, beq_false, Qo, Qm, Jf, eRing]
    refine ⟨fun hnil => ?_, fun q hq => ?_⟩
    ·have hall : ∀ q, q < (aks m).length → q ∈ pre := fun q hq => Classical.byContradiction fun hn => by
      have := mem_leftN.2 ⟨hq, hn⟩
      rw [hnil] at this; cases this
     refine ⟨h4, o', ?_, ?_⟩
     ·refine best_next hlen hM (hC2.imp fun l => ?_)
      refine or_congr Iff.rfl ?_
      constructor
      ·rintro ⟨q, _, a, hq, h⟩
       exact ⟨a, aget_at hM.nd hq, h⟩
      ·rintro ⟨a, hq, h⟩
       obtain ⟨q, hq'⟩ := Xz (aget_mem hq)
       exact ⟨q, hall q (by have := getElemLt hq'; simpa [aks] using this), a, hq', h⟩
     ·simp only [Qu, Qw]
    ·obtain ⟨hqn, hqp⟩ := mem_leftN.1 hq
     obtain ⟨k, l0, hk0, hk1, hk2⟩ := am_get hqn
     obtain ⟨a, rfl⟩ := hM.one k (Za hk1)
     have hk2' : (avs wV m)[q]? = some (.ag [.sl 1 (l0.map eI), .i l0.sum]) := hk2 wV
     have hw0 := (hM.is a l0 (aget_at hM.nd hk0)).1
     obtain ⟨w1, w2, w3, w4⟩ := wy_in (by omega) (by omega) hw0
     have g2 := h84i r (i - a)
     have g3 := h83i r (r.moves.length - 1) (modN (i - a) r.fig.period) near
     unfold eRing at g2 g3
     have i6 : inI ((i : Int) - a) := by unfold inI; omega
     have i7 : inI ((r.moves.length : Int) - 1) := by unfold inI; omega
     have hT : ∀ l, ((∃ first : Int, (0 ≤ first ∧ first < (i : Nat)) ∧ Beg r near first l) ∨ ∃ q' ∈ pre ++ [q], ∃ a, m[q']? = some ([a], l) ∧ meetsN r.fig.period (movesAt r (r.moves.length - 1)) (modN (i - a) r.fig.period) near = 1) ↔
       (((∃ first : Int, (0 ≤ first ∧ first < (i : Nat)) ∧ Beg r near first l) ∨ ∃ q ∈ pre, ∃ a, m[q]? = some ([a], l) ∧ meetsN r.fig.period (movesAt r (r.moves.length - 1)) (modN (i - a) r.fig.period) near = 1) ∨ (l = l0 ∧ meetsN r.fig.period (movesAt r (r.moves.length - 1)) (modN (i - a) r.fig.period) near = 1)) := by
      intro l
      rw [or_assoc]
      refine or_congr Iff.rfl ?_
      simp only [Z7, X9]
      constructor
      ·rintro ⟨q', hq' | rfl, a', h1, h2⟩
       ·exact .inl ⟨q', hq', a', h1, h2⟩
       ·rw [hk0] at h1; cases h1; exact .inr ⟨rfl, h2⟩
      ·rintro (⟨q', hq', a', h1, h2⟩ | ⟨rfl, h2⟩)
       ·exact ⟨q', .inl hq', a', h1, h2⟩
       ·exact ⟨q, .inr rfl, a, hk0, h2⟩
     have hmt : tame 1000000 (modN (i - a) r.fig.period) := by
      have := modN_in (a := i - a) (p := r.fig.period) (by omega)
      unfold tame; omega
     cases o' with
     | none =>
      simp only [hk1, hk2', leftN_erase hq, hsl1, i6, i7, g2, g3, bestC, Z6, pickV_bb, cellOk, hasRef, flat, cutV, cutL, ↓reduceIte, Nat.reduceAdd, Nat.reduceLeDiff, Q4, Q5, Qe, Qh, Qk, Qq, Zb, Qg, Qv, Qp, Qn, Qa, Qf, Qt, vw_i, Qj, Qy, Zd, Xj, Zg, Zf, Qd, Xb, decide_eq_true_eq, decide_eq_false_iff_not, true_and, and_true, and_self, implies_true, ite_f, imp_self]
      refine ⟨by omega, ⟨h, by omega, hmt⟩, fun hc => ?_, fun hc => ?_⟩
      ·refine ⟨q, some l0, hq, (hC2.put (l0 := l0) (by simp)).imp fun l => ?_, ?_⟩
       ·rw [hT]; simp only [hc, and_true]
       ·simp only [Zu, Zp]
      ·refine ⟨q, none, hq, hC2.imp fun l => ?_, ?_⟩
       ·rw [hT]; simp only [hc, and_false, or_false]
       ·simp only [Z6, Zp]
     | some l1 =>
      simp only [hk1, hk2', leftN_erase hq, hsl1, i6, i7, g2, g3, bestC, Zu, pickV_bb, cellOk, hasRef, flat, cutV, cutL, ↓reduceIte, Nat.reduceAdd, Nat.reduceLeDiff, Q4, Q5, Qe, Qh, Qk, Qq, Zb, Qg, Qv, Qp, Qn, Qa, Qf, Qt, vw_i, Qj, Qy, Zd, Zg, Zf, Qd, decide_eq_true_eq, true_and, and_true, and_self, forall_const, implies_true, ite_f, imp_self]
      refine ⟨by omega, ⟨h, by omega, hmt⟩, fun hc => ?_, fun hc => ?_⟩
      ·have hc' := hc
       rw [Bool.and_eq_true, decide_eq_true_eq, decide_eq_true_eq] at hc'
       obtain ⟨hc1, hc2⟩ := hc'
       refine ⟨q, some l0, hq, (hC2.put (l0 := l0) (by intro l e; cases e; exact hc2)).imp fun l => ?_, ?_⟩
       ·rw [hT]; simp only [hc1, and_true]
       ·simp only [Zu, Zp]
      ·have hc' := hc
       rw [Bool.and_eq_false_iff, decide_eq_false_iff_not, decide_eq_false_iff_not] at hc'
       by_cases hc1 : meetsN r.fig.period (movesAt r (r.moves.length - 1)) (modN (i - a) r.fig.period) near = 1
       ·have hc2 : l1.sum ≤ l0.sum := by
         rcases hc' with hc' | hc'
         ·exact absurd hc1 hc'
         ·omega
        refine ⟨q, some l1, hq, (hC2.stay (l0 := l0) hc2).imp fun l => ?_, ?_⟩
        ·rw [hT]; simp only [hc1, and_true]
        ·simp only [Zu, Zp]
       ·refine ⟨q, some l1, hq, hC2.imp fun l => ?_, ?_⟩
        ·rw [hT]; simp only [hc1, and_false, or_false]
        ·simp only [Zu, Zp]
 ·intro o hC
  rw [hpn] at hC
  cases o with
  | none =>
   simp only [hpn, Qx, bestC, Z6, ru_reg, ru_seq, ru_cnd, ru_exit, ru_ret, ru_keep, putB, endK, thenQ, blockQ, run_nil, run_cons, Fam.step, stepQ, stepW, needW, putB, nv, sv, evO, opv, qv, binV, ldV, putAt, V.cells, solid, cellOk, upd_some, upd_none, lkp_cons, lkp_nil, ↓reduceIte, Nat.reduceEqDiff, Nat.reduceAdd, Nat.reduceLeDiff, Qb, Qc, Q4, Q5, Qe, Qh, Qk, Qq, Zb, Qg, Qr, Qv, Qi, Qn, Qa, Qf, Qs, rvs, rv1, vw_i, vw_b, vw_z, vw_ag, Qx, Qj, Qy, Qd, decide_false, true_and, and_self, reduceCtorEq, eRing]
   exact ⟨none, rfl, hC⟩
  | some l =>
   simp only [hpn, Qx, bestC, Zu, ru_reg, ru_seq, ru_cnd, ru_exit, ru_ret, ru_keep, putB, endK, thenQ, blockQ, run_nil, run_cons, Fam.step, stepQ, stepW, needW, putB, nv, sv, evO, opv, qv, binV, ldV, putAt, V.cells, solid, cellOk, upd_some, upd_none, lkp_cons, lkp_nil, ↓reduceIte, Nat.reduceEqDiff, Nat.reduceAdd, Nat.reduceLeDiff, Qb, Qc, Q4, Q5, Qe, Qh, Qk, Qq, Zb, Qg, Qr, Qv, Qi, Qn, Qa, Qf, Qs, rvs, rv1, vw_i, vw_b, vw_sl, vw_ag, Qx, Qj, Qy, Qd, decide_false, true_and, and_self, reduceCtorEq, eRing]
   exact ⟨some l, rfl, hC⟩
end Go.C02
set_option linter.unusedSimpArgs false
set_option linter.unusedVariables false
namespace Go.C02
open Go.Fam Go.Proofs
def Begs (r : Ring) (near : Int) (l : List Int) : Prop := ∃ first : Int, (0 ≤ first ∧ first < r.fig.period) ∧ Beg r near first l
def p63 (vs : List V) : Prop := eRN (dRN vs) = vs ∧ OkR (dRN vs).1
def q63 : List V → Prop
 | .tp (r :: bs) :: vs => bs = [] ∧ ∃ o, r = beginV o ∧ BestOf (Begs (dRN vs).1 (dRN vs).2) o
 | _ => False
noncomputable def H8 : Gam := (H7.ext 3000063 fun vs => (p63 vs, .u)).ext 4000063 fun vs => (q63 vs, .u)
theorem okH8 : GOk Try.prog H8 := by
 refine okH7.extR (f := 63) (p := p63) (q := q63) (fun a w => Try.call63 a w) fun vs h => ?_
 have := W63 _ (dRN vs).2 h.2
 have e : eRN (dRN vs) = vs := h.1
 unfold eRN at e
 rw [e] at this
 refine this.mono fun r hp hr => ?_
 obtain ⟨⟨o, rfl, hb⟩, rfl⟩ := hr
 exact ⟨[], rfl, rfl, o, rfl, hb⟩
theorem h63 (r : Ring) (n : Int) : H8 3000063 [.pa (eRing r), .i n] = (OkR r, .u) := by
 have e := dRN_e (r, n)
 refine (show H8 3000063 _ = (p63 (eRN (r, n)), V.u) from rfl).trans ?_
 unfold p63
 rw [e]; simp
theorem h63' (r : Ring) (n : Int) (x : V) (bs : List V) : H8 4000063 [.tp (x :: bs), .pa (eRing r), .i n] = (bs = [] ∧ ∃ o, x = beginV o ∧ BestOf (Begs r n) o, .u) := by
 have e := dRN_e (r, n)
 refine (show H8 4000063 _ = (bs = [] ∧ ∃ o, x = beginV o ∧ BestOf (Begs (dRN (eRN (r, n))).1 (dRN (eRN (r, n))).2) o, V.u) from rfl).trans ?_
 rw [e]
theorem h50j (f : Fig) (b : Bool) : H8 50 [.ag (eFig f), .b b] = (True, openV f b) := h50 f b
def begV (f : Fig) (o : Option (List Int)) : V := if openE f true = 0 then .tp [.sl 1 ((o.getD []).map eI), .i (if o.isSome then 0 else 3)] else .tp [.sl 1 [], .i (openE f true)]
theorem W33 (f : Fig) : RelCall Try.prog 33 [.ag (eFig f)] fun v hp => (∃ o, v = begV f o ∧ (openE f true = 0 → BestOf (Begs (ringOf f) f.near) o)) ∧ hp = [] := by
 refine relp_body okH8 hmix Try.func33 cb33 cc33 cs33 cn33 ?_
 have g1 := h50j f true
 unfold openV eFig at g1
 simp only [rc33, rs33, g1, ru_skip, ru_reg, ru_seq, ru_cnd, ite_P, ru_ret, ru_keep, ru_crl, putB, endK, thenQ, run_nil, run_cons, Fam.step, stepQ, stepW, needW, putB, nv, sv, evO, opv, qv, binV, ldV, curG, callV, putAt, V.cells, solid, hasRef, hasRefL, flat, flatL, upd_some, upd_none, lkp_cons, lkp_nil, ↓reduceIte, Nat.reduceEqDiff, Nat.reduceAdd, Nat.reduceLT, Nat.reduceLeDiff, Qb, Qc, Qe, Qh, Qk, Qq, Qg, Qr, Qv, Qp, Qi, Qn, Qa, Qf, Qt, rvs, rv1, resV, vw_i, vw_b, vw_z, vw_sl, vw_ag, vw_tp, zipA, Qj, Xa, Qy, Zd, Qz, Qd, decide_eq_false_iff_not, true_and, and_self, false_implies, Z1, Qo, Jf, Classical.not_not, eFig, eRing]
 refine ⟨fun h => ?_, fun h => ?_⟩
 ·refine ⟨none, ?_, fun h' => absurd h' h⟩
  simp only [begV, if_neg h]
 ·obtain ⟨h1, h2, h3⟩ := openE_ok h
  have hR := okR_of h1
  have g2 := h63 (ringOf f) f.near
  have g3 := h63' (ringOf f) f.near
  unfold eRing at g2 g3
  simp only [h, g2, g3, hasRef, ↓reduceIte, vw_pa, true_and, forall_const]
  refine ⟨hR, ?_⟩
  rintro r bs ⟨rfl, o, rfl, hb⟩
  cases o with
  | none =>
   simp only [beginV, Z6, Ze, shV, shL, cellOk, Nat.reduceAdd, Nat.reduceLT, Nat.reduceLeDiff, Qc, Q4, Q5, Qe, Qh, Qk, Zb, Qp, Qi, Qn, Qa, Qf, Qt, Ze, Qs, vw_sl, beq_self_eq_true, Qj, Qy, Zf, Xb, true_and, and_true, and_self, forall_const, false_implies]
   exact ⟨none, by simp [begV, h], hb⟩
  | some l =>
   simp only [beginV, Zu, Qt, shV, shL, cellOk, Nat.reduceAdd, Nat.reduceLT, Nat.reduceLeDiff, Qc, Q4, Q5, Qe, Qh, Qk, Zb, Qp, Qi, Qn, Qa, Qf, Qt, Qs, vw_sl, beq_self_eq_true, Qj, Qy, Zg, Qd, true_and, and_self, forall_const, false_implies]
   exact ⟨some l, by simp [begV, h], hb⟩
def p33 (vs : List V) : Prop := vs = [.ag (eFig (match vs with | [.ag r] => dFig r | _ => dFig []))]
def q33 : List V → Prop
 | [.tp (r :: bs), .ag f] => bs = [] ∧ ∃ o, r = begV (dFig f) o ∧ (openE (dFig f) true = 0 → BestOf (Begs (ringOf (dFig f)) (dFig f).near) o)
 | _ => False
noncomputable def H9 : Gam := (H8.ext 3000033 fun vs => (p33 vs, .u)).ext 4000033 fun vs => (q33 vs, .u)
theorem okH9 : GOk Try.prog H9 := by
 refine okH8.extR (f := 33) (p := p33) (q := q33) (fun a w => Try.call33 a w) fun vs h => ?_
 unfold p33 at h
 split at h
 ·rename_i r
  have e : r = eFig (dFig r) := by simpa using h
  have := W33 (dFig r)
  rw [← e] at this
  refine this.mono fun r' hp hr => ?_
  obtain ⟨⟨o, rfl, hb⟩, rfl⟩ := hr
  exact ⟨[], rfl, rfl, o, rfl, hb⟩
 ·rename_i hn
  exact absurd h (hn _)
theorem h33 (f : Fig) : H9 3000033 [.ag (eFig f)] = (True, .u) := by
 refine (show H9 3000033 _ = (p33 [.ag (eFig f)], V.u) from rfl).trans ?_
 simp [p33, dFig_e]
theorem h33' (f : Fig) (x : V) (bs : List V) : H9 4000033 [.tp (x :: bs), .ag (eFig f)] = (bs = [] ∧ ∃ o, x = begV f o ∧ (openE f true = 0 → BestOf (Begs (ringOf f) f.near) o), .u) := by
 refine (show H9 4000033 _ = (bs = [] ∧ ∃ o, x = begV (dFig (eFig f)) o ∧ (openE (dFig (eFig f)) true = 0 → BestOf (Begs (ringOf (dFig (eFig f))) (dFig (eFig f)).near) o), V.u) from rfl).trans ?_
 rw [dFig_e]
open Classical in
noncomputable def leastB (T : List Int → Prop) : Option Int := if h : ∃ n, ∃ l, T l ∧ l.sum = n ∧ ∀ l', T l' → n ≤ l'.sum then some h.choose else none
theorem leastB_eq {T : List Int → Prop} {o : Option (List Int)} (h : BestOf T o) : leastB T = o.map List.sum := by
 unfold leastB
 cases o with
 | none =>
  rw [dif_neg]; rfl
  rintro ⟨n, l, hl, _⟩
  exact h l hl
 | some l =>
  have hex : ∃ n, ∃ l, T l ∧ l.sum = n ∧ ∀ l', T l' → n ≤ l'.sum := ⟨l.sum, l, h.1, rfl, h.2⟩
  rw [dif_pos hex]
  obtain ⟨l', h1, h2, h3⟩ := hex.choose_spec
  have := h3 l h.1
  have := h.2 l' h1
  simp only [Zc, Jg.injEq]
  omega
noncomputable def leastR (f : Fig) : Int × Int := if openE f true = 0 then match leastB (Begs (ringOf f) f.near) with | some n => (n, 0) | none => (0, 3) else (0, openE f true)
theorem begs_in {r : Ring} (h : OkR r) {near : Int} {l : List Int} (hl : Begs r near l) : l.length = r.moves.length ∧ (0 ≤ l.sum ∧ l.sum ≤ 16 * 60) ∧ ∀ x ∈ l, 0 ≤ x ∧ x < r.fig.period := by
 obtain ⟨first, hf, a, hw, _⟩ := hl
 have hp := h.period
 have hlen := h.len
 have hsl : (stepsOf r near).length = r.moves.length := by simp [stepsOf, stepsTo]
 obtain ⟨w1, w2, w3, w4⟩ := wy_in (by omega) hf hw
 rw [Zm] at w1 w3
 refine ⟨by omega, ⟨w3.1, Int.le_trans w3.2 (Int.mul_le_mul (by omega) (by omega) (by omega) (by omega))⟩, w4⟩
theorem sum_take {l : List Int} {i : Nat} {x : Int} (hx : l[i]? = some x) : (l.take (i + 1)).sum = (l.take i).sum + x := by
 rw [take_succ_of hx, Z8]; simp
theorem sum_le {l : List Int} (h : ∀ x ∈ l, 0 ≤ x) (i : Nat) : 0 ≤ (l.take i).sum ∧ (l.take i).sum ≤ l.sum := by
 have h0 : ∀ l : List Int, (∀ x ∈ l, 0 ≤ x) → 0 ≤ l.sum := by
  intro l
  induction l with
  | nil => simp
  | cons x l ih =>
   intro h
   have := h x (by simp)
   have := ih fun y hy => h y (by simp [hy])
   rw [X6]; omega
 have e : l.sum = (l.take i).sum + (l.drop i).sum := by rw [← Z8, List.take_append_drop]
 have h1 := h0 (l.take i) fun x hx => h x (X0 hx)
 have h2 := h0 (l.drop i) fun x hx => h x (X1 hx)
 omega
theorem W18 (f : Fig) : PureCall Try.prog 18 [.ag (eFig f)] (.tp [.i (leastR f).1, .i (leastR f).2]) := by
 refine pure_body okH9 hmix Try.func18 cb18 cc18 cs18 cn18 ?_
 have g1 := h33 f
 have g2 := h33' f
 unfold eFig at g1 g2
 simp only [rc18, rs18, g1, g2, ru_reg, ru_seq, ru_block, ru_keep, ru_crl, thenQ, run_nil, run_cons, Fam.step, stepQ, needW, evO, opv, qv, ldV, lenV, V.cells, solid, hasRef, hasRefL, upd_some, lkp_cons, lkp_nil, ↓reduceIte, Nat.reduceEqDiff, Nat.reduceAdd, Nat.reduceLT, Nat.reduceLeDiff, Qb, Qc, Qe, Qh, Qg, Qv, Qi, Qn, vw_i, vw_sl, vw_ag, zipA, Qj, Qz, true_and, and_self, Q3, eFig]
 rintro r bs ⟨rfl, o, rfl, hb⟩
 by_cases h : openE f true = 0
 ·have hb := hb h
  have hR := okR_of (openE_ok h).1
  have hl := leastB_eq hb
  have hin : ∀ x ∈ o.getD [], 0 ≤ x := by
   cases o with
   | none => simp
   | some l => exact fun x hx => ((begs_in hR hb.1).2.2 x hx).1
  have hsum : (o.getD []).sum ≤ 960 ∧ (o.getD []).length < 1000 := by
   have := hR.len
   cases o with
   | none => simp
   | some l => have := (begs_in hR hb.1); simp only [Qt]; omega
  simp only [begV, h, shV, shL, ↓reduceIte, Nat.reduceAdd, Nat.reduceLT, Qc, Qe, Qh, Qa, Qf, Qt, Qj, true_and, Qo]
  refine ru_countC (o.getD []).length (fun i => ⟨lkp [(2, .i ((o.getD []).take i).sum), (3, .i (if o.isSome = true then 0 else 3)), (12, .sl 1 ((o.getD []).map eI)), (13, .i (o.getD []).length), (14, .i i)], []⟩) (fun i => True) ?_ trivial ?_ ?_
  ·simp only [Q8, List.sum_nil, kp, lkp_cons, lkp_nil, ↓reduceIte, Nat.reduceEqDiff, Qb, Qc, Qr]
  ·intro i hi _
   obtain ⟨x, hx⟩ : ∃ x, (o.getD [])[i]? = some x := ⟨_, Q6 hi⟩
   have hlt : (i : Int) < (o.getD []).length := by omega
   have h4 : inI ((i : Int) + 1) := by unfold inI; omega
   have h5 := sum_le hin (i + 1)
   rw [sum_take hx] at h5
   have h6 : inI (((o.getD []).take i).sum + x) := by unfold inI; omega
   simp only [hx, hlt, h4, h6, Qu, Qw, sum_take hx, ru_skip, ru_reg, ru_seq, ru_cnd, ru_block, ru_keep, thenQ, blockQ, run_nil, run_cons, Fam.step, stepQ, evO, opv, qv, binV, ldV, iadV, kp, upd_some, lkp_cons, lkp_nil, ↓reduceIte, Nat.reduceEqDiff, Nat.reduceLeDiff, Qb, Qc, Qe, Qh, Qp, Qt, Q9, Qj, Qd, decide_true, true_and, and_self, Zc, Qo, Q2, Qm, Q3, eI]
  ·intro _
   simp only [Xg, Qx, leastR, h, hl, ru_reg, ru_seq, ru_cnd, ru_exit, ru_ret, ru_keep, thenQ, blockQ, run_nil, run_cons, Fam.step, stepQ, evO, opv, qv, binV, ldV, upd_some, lkp_cons, lkp_nil, ↓reduceIte, Nat.reduceEqDiff, Qb, Qc, Q1, endQ, rvs, rv1, resV, vw_i, vw_tp, Qx, Qd, decide_false, true_and, and_self]
   cases o <;> rfl
 ·simp only [begV, if_neg h, shV, shL, Nat.reduceAdd, Nat.reduceLT, Qc, Qe, Qh, Qa, Qf, Qt, Qj, true_and]
  refine ru_countC 0 (fun i => ⟨lkp [(2, .i 0), (3, .i (openE f true)), (12, .sl 1 []), (13, .i 0), (14, .i 0)], []⟩) (fun i => True) ?_ trivial ?_ ?_
  ·simp only [Q8, kp, lkp_cons, lkp_nil, ↓reduceIte, Nat.reduceEqDiff, Qb, Qc]
  ·intro i hi; omega
  ·intro _
   simp only [Qx, leastR, if_neg h, ru_reg, ru_seq, ru_cnd, ru_exit, ru_ret, ru_keep, thenQ, blockQ, run_nil, run_cons, Fam.step, stepQ, evO, opv, qv, binV, ldV, upd_some, lkp_cons, lkp_nil, ↓reduceIte, Nat.reduceEqDiff, Qb, Qc, Q1, endQ, rvs, rv1, resV, vw_i, vw_tp, Qx, Qd, decide_false, and_self]
end Go.C02
set_option linter.unusedSimpArgs false
set_option linter.unusedVariables false
namespace Go.C02
open Go.Fam Go.Proofs
def minL : List Int → Int
 | [] => 0
 | x :: l => l.foldl min x
theorem foldl_min_le (l : List Int) : ∀ a : Int, l.foldl min a ≤ a ∧ (∀ x ∈ l, l.foldl min a ≤ x) ∧ (l.foldl min a = a ∨ l.foldl min a ∈ l) := by
 induction l with
 | nil => intro a; simp
 | cons y l ih =>
  intro a
  obtain ⟨h1, h2, h3⟩ := ih (min a y)
  rw [Jk]
  refine ⟨by omega, fun x hx => ?_, ?_⟩
  ·rcases List.mem_cons.1 hx with rfl | hx
   ·omega
   ·exact h2 x hx
  ·rcases h3 with h3 | h3
   ·by_cases e : a ≤ y
    ·left; omega
    ·right; have : l.foldl min (min a y) = y := by omega
     rw [this]; simp
   ·right; exact X2 _ h3
theorem minL_le {l : List Int} {x : Int} (h : x ∈ l) : minL l ≤ x := by
 cases l with
 | nil => cases h
 | cons a l =>
  obtain ⟨h1, h2, _⟩ := foldl_min_le l a
  rcases List.mem_cons.1 h with rfl | h
  ·exact h1
  ·exact h2 x h
theorem minL_mem {l : List Int} (h : l ≠ []) : minL l ∈ l := by
 cases l with
 | nil => exact absurd rfl h
 | cons a l =>
  obtain ⟨_, _, h3⟩ := foldl_min_le l a
  rcases h3 with h3 | h3
  ·show l.foldl min a ∈ _
   rw [h3]; simp
  ·exact X2 _ h3
theorem minL_eq {l : List Int} {m : Int} (h : m ∈ l) (hm : ∀ x ∈ l, m ≤ x) : minL l = m := by
 have h1 := minL_le h
 have h2 := hm _ (minL_mem (List.ne_nil_of_mem h))
 omega
theorem minL_snoc (l : List Int) (x : Int) : minL (l ++ [x]) = if l = [] ∨ x < minL l then x else minL l := by
 cases l with
 | nil => rfl
 | cons a l =>
  show (l ++ [x]).foldl min a = if (a :: l) = [] ∨ x < l.foldl min a then x else l.foldl min a
  rw [Xm]
  simp only [Jk, List.foldl_nil, reduceCtorEq, false_or]
  split <;> omega
def argL (l : List Int) : Nat := l.idxOf (minL l)
theorem argL_lt {l : List Int} (h : l ≠ []) : argL l < l.length := Z9 (minL_mem h)
theorem argL_get {l : List Int} (h : l ≠ []) : l[argL l]? = some (minL l) := by
 rw [Q6 (argL_lt h)]
 exact congrArg some (List.getElem_idxOf (argL_lt h))
theorem argL_snoc (l : List Int) (x : Int) : argL (l ++ [x]) = if l = [] ∨ x < minL l then l.length else argL l := by
 unfold argL
 rw [minL_snoc]
 split
 ·rename_i h
  rw [Jc, if_neg]
  ·simp
  ·intro hx
   rcases h with h | h
   ·subst h; cases hx
   ·have := minL_le hx; omega
 ·rename_i h
  have h : l ≠ [] := fun e => h (.inl e)
  rw [Jc, if_pos (minL_mem h)]
def dF : Nat → List Int → Int
 | 0, _ => 0
 | k + 1, l => minL ((Zs l.length).map fun i => max (dF k (l.take i)) (dF k (l.drop (i + 1))) + l.getD i 0)
def Dn (l : List Int) : Int := dF l.length l
theorem dF_fuel : ∀ (n k k' : Nat) (l : List Int), l.length ≤ n → n ≤ k → n ≤ k' → dF k l = dF k' l := by
 intro n
 induction n with
 | zero =>
  intro k k' l h _ _
  have : l = [] := Zo (by omega)
  subst this
  have : ∀ k, dF k [] = 0 := fun k => by cases k <;> rfl
  rw [this, this]
 | succ n ih =>
  intro k k' l h hk hk'
  obtain ⟨k, rfl⟩ : ∃ j, k = j + 1 := ⟨k - 1, by omega⟩
  obtain ⟨k', rfl⟩ : ∃ j, k' = j + 1 := ⟨k' - 1, by omega⟩
  simp only [dF]
  congr 1
  refine X5 fun i hi => ?_
  rw [Xi] at hi
  rw [ih k k' (l.take i) (by rw [Zm]; omega) (by omega) (by omega), ih k k' (l.drop (i + 1)) (by rw [Xo]; omega) (by omega) (by omega)]
theorem dF_eq {k : Nat} {l : List Int} (h : l.length ≤ k) : dF k l = Dn l := dF_fuel l.length k l.length l (Zv _) h (Zv _)
def costs (l : List Int) : List Int := (Zs l.length).map fun i => max (Dn (l.take i)) (Dn (l.drop (i + 1))) + l.getD i 0
theorem costs_len (l : List Int) : (costs l).length = l.length := by simp [costs]
theorem costs_get {l : List Int} {i : Nat} (h : i < l.length) : (costs l)[i]? = some (max (Dn (l.take i)) (Dn (l.drop (i + 1))) + l.getD i 0) := by
 unfold costs
 rw [Q3, Z4 h]; rfl
theorem Dn_nil : Dn [] = 0 := rfl
theorem Dn_eq (l : List Int) : Dn l = minL (costs l) := by
 cases l with
 | nil => rfl
 | cons a l =>
  show minL _ = _
  unfold costs
  congr 1
  refine X5 fun i hi => ?_
  rw [Xi, Qe] at hi
  rw [dF_eq (by rw [Zm, Qe]; omega), dF_eq (by rw [Xo, Qe]; omega)]
theorem costs_ne {l : List Int} (h : l ≠ []) : costs l ≠ [] := fun e => h (Zo (by rw [← costs_len, e]; rfl))
def lastOf (l : List Int) : Nat := argL (costs l)
theorem lastOf_lt {l : List Int} (h : l ≠ []) : lastOf l < l.length := by
 have := argL_lt (costs_ne h)
 rwa [costs_len] at this
theorem Dn_cut {l : List Int} (h : l ≠ []) : Dn l = max (Dn (l.take (lastOf l))) (Dn (l.drop (lastOf l + 1))) + l.getD (lastOf l) 0 := by
 have h1 := argL_get (costs_ne h)
 have h2 := costs_get (lastOf_lt h)
 unfold lastOf at h2 ⊢
 rw [h1] at h2
 rw [Dn_eq]
 exact Jg.inj h2
theorem Dn_le {l : List Int} {i : Nat} (h : i < l.length) : Dn l ≤ max (Dn (l.take i)) (Dn (l.drop (i + 1))) + l.getD i 0 := by
 rw [Dn_eq l]
 exact minL_le (Za (costs_get h))
theorem row_ind {p : List Int → Prop} (h0 : p []) (hs : ∀ l, (∀ i, i < l.length → p (l.take i) ∧ p (l.drop (i + 1))) → l ≠ [] → p l) : ∀ l, p l := by
 have : ∀ (n : Nat) (l : List Int), l.length ≤ n → p l := by
  intro n
  induction n with
  | zero => intro l h; have : l = [] := Zo (by omega); subst this; exact h0
  | succ n ih =>
   intro l h
   by_cases e : l = []
   ·subst e; exact h0
   ·exact hs l (fun i hi => ⟨ih _ (by rw [Zm]; omega), ih _ (by rw [Xo]; omega)⟩) e
 exact fun l => this l.length l (Zv _)
theorem getD_mem' {l : List Int} {i : Nat} (h : i < l.length) : l.getD i 0 ∈ l := by
 rw [Qm, Q6 h]
 exact List.getElem_mem h
theorem Dn_in (l : List Int) : (∀ x ∈ l, 0 ≤ x) → 0 ≤ Dn l ∧ Dn l ≤ l.sum := by
 refine row_ind (p := fun l => (∀ x ∈ l, 0 ≤ x) → 0 ≤ Dn l ∧ Dn l ≤ l.sum) (fun _ => by simp [Dn_nil]) (fun l ih hne h => ?_) l
 have hc := lastOf_lt hne
 have h1 := (ih _ hc).1 fun x hx => h x (X0 hx)
 have h2 := h _ (getD_mem' hc)
 have h3 := Dn_cut hne
 refine ⟨by omega, ?_⟩
 cases l with
 | nil => exact absurd rfl hne
 | cons a l =>
  have h4 := (ih 0 (by simp)).2 fun x hx => h x (X1 hx)
  have h5 := Dn_le (l := a :: l) (i := 0) (by simp)
  have h6 := h a (by simp)
  simp only [Qr, Dn_nil, Qk, Qq, List.getD_cons_zero, Qj] at h4 h5
  rw [X6]
  omega
def seg (t : List Int) (from_ many : Nat) : List Int := (Zs many).map fun q => t.getD ((from_ + q) % t.length) 0
theorem seg_len (t : List Int) (f m : Nat) : (seg t f m).length = m := by simp [seg]
theorem seg_take {t : List Int} {f m i : Nat} (h : i ≤ m) : (seg t f m).take i = seg t f i := by
 unfold seg
 rw [← List.map_take, List.take_range, Nat.min_eq_left h]
theorem seg_get {t : List Int} {f m i : Nat} (h : i < m) : (seg t f m).getD i 0 = t.getD ((f + i) % t.length) 0 := by
 rw [Qm]
 unfold seg
 rw [Q3, Z4 h]; rfl
theorem seg_drop {t : List Int} {f m i : Nat} : (seg t f m).drop (i + 1) = seg t ((f + i + 1) % t.length) (m - i - 1) := by
 apply List.ext_getElem?
 intro j
 rw [List.getElem?_drop]
 unfold seg
 rw [Q3, Q3]
 by_cases h : j < m - i - 1
 ·rw [Z4 h, Z4 (by omega)]
  simp only [Zc, Nat.mod_add_mod]
  rw [show f + (i + 1 + j) = f + i + 1 + j by omega]
 ·rw [Xx (by simp; omega), Xx (by simp; omega)]; rfl
theorem seg_mem {t : List Int} {f m : Nat} (hn : 0 < t.length) : ∀ x ∈ seg t f m, x ∈ t := by
 intro x hx
 obtain ⟨q, _, rfl⟩ := Z0.1 hx
 exact getD_mem' (Xc _ hn)
theorem sum_le_mul {l : List Int} {b : Int} (h : ∀ x ∈ l, x ≤ b) : l.sum ≤ l.length * b := by
 induction l with
 | nil => simp
 | cons a l ih =>
  have := ih fun x hx => h x (by simp [hx])
  have := h a (by simp)
  rw [X6, Qe, Qu, Qw, Int.add_mul, Int.one_mul]
  omega
def OkT (t : List Int) : Prop := 3 ≤ t.length ∧ t.length ≤ 16 ∧ ∀ x ∈ t, 1 ≤ x ∧ x ≤ 99
theorem Dn_seg {t : List Int} (h : OkT t) {f m : Nat} (hm : m ≤ 16) : 0 ≤ Dn (seg t f m) ∧ Dn (seg t f m) ≤ 1584 := by
 obtain ⟨h1, h2, h3⟩ := h
 obtain ⟨d1, d2⟩ := Dn_in (seg t f m) fun x hx => by have := h3 x (seg_mem (by omega) x hx); omega
 have d3 := sum_le_mul (l := seg t f m) (b := 99) fun x hx => (h3 x (seg_mem (by omega) x hx)).2
 rw [seg_len] at d3
 have d4 : (m : Int) * 99 ≤ 16 * 99 := Int.mul_le_mul_of_nonneg_right (by omega) (by omega)
 omega
end Go.C02
set_option linter.unusedSimpArgs false
set_option linter.unusedVariables false
namespace Go.C02
open Go.Fam Go.Proofs
theorem eq86 : EqFlat Try.prog 86 2 := EqFlat.of (fs := _) (show Try.prog.underlying 86 = some (.struct (Try.prog.fieldsOf 86)) by kernel_rfl) (by kernel_rfl) (by kernel_rfl)
def eSew (t : List Int) : List V := [.sl 1 (t.map eI), .u, .u]
theorem W67 (t : List Int) (f b : Int) (hn : 0 < t.length) (hf : tame 1000000 f) (hb : tame 1000000 b) : PureCall Try.prog 67 [.pa (eSew t), .i f, .i b] (.i ((f + b).tmod t.length)) := by
 refine pure_body okH9 hmix Try.func67 cb67 cc67 cs67 cn67 ?_
 unfold tame at hf hb
 simp only [rc67, rs67, eSew, ru_reg, ru_seq, ru_ret, ru_keep, thenQ, run_nil, run_cons, Fam.step, stepQ, evO, opv, qv, binV, ldV, lenV, upd_some, lkp_cons, lkp_nil, ↓reduceIte, Nat.reduceEqDiff, Nat.reduceAdd, Nat.reduceLeDiff, Qb, Qc, Qe, Qh, Qq, Qp, endQ, rvs, rv1, resV, vw_i, zipA, Qj, Qd, true_and, and_true, and_self, reduceCtorEq, ne_eq, Qo]
 exact ⟨by unfold inI; omega, by omega⟩
def eSNN (a : List Int × Int × Int) : List V := [.pa (eSew a.1), .i a.2.1, .i a.2.2]
def dSNN : List V → List Int × Int × Int | [.pa [l, _, _], .i n, .i m] => ((gR l).map dI, n, m) | _ => ([], 0, 0)
theorem dSNN_e (a : List Int × Int × Int) : dSNN (eSNN a) = a := by obtain ⟨r, n, m⟩ := a; simp [dSNN, eSNN, eSew, gR, Function.comp_def, dI_eI]
def s67 : List V → Prop × V := fnG eSNN dSNN (fun a => 0 < a.1.length ∧ tame 1000000 a.2.1 ∧ tame 1000000 a.2.2) (fun a => (a.2.1 + a.2.2).tmod a.1.length) .i
noncomputable def H10 : Gam := H9.ext 67 s67
theorem okH10 : GOk Try.prog H10 := okH9.ext (f := 67) (r := s67) (fun a w => Try.call67 a w) (fnG_ok fun a h => W67 a.1 a.2.1 a.2.2 h.1 h.2.1 h.2.2)
theorem k67 (t : List Int) (f b : Int) : H10 67 [.pa [.sl 1 (t.map eI), .u, .u], .i f, .i b] = (0 < t.length ∧ tame 1000000 f ∧ tame 1000000 b, .i ((f + b).tmod t.length)) :=
 (show H10 67 _ = s67 (eSNN (t, f, b)) from rfl).trans (fnG_at _ (dSNN_e _))
def splitV (t : List Int) (f m b : Int) : V := .tp [.ag [.i f, .i b], .ag [.i ((f + (b + 1)).tmod t.length), .i (m - b - 1)]]
theorem W92 (t : List Int) (f m b : Int) (hn : 0 < t.length) (hf : tame 100000 f) (hm : tame 100000 m) (hb : tame 100000 b) : PureCall Try.prog 92 [.pa (eSew t), .ag [.i f, .i m], .i b] (splitV t f m b) := by
 refine pure_body okH10 hmix Try.func92 cb92 cc92 cs92 cn92 ?_
 have g1 := k67 t f (b + 1)
 unfold tame at hf hb hm
 simp only [rc92, rs92, eSew, g1, splitV, ru_reg, ru_any, ru_seq, ru_ret, ru_keep, putBs, optL, thenQ, run_nil, run_cons, Fam.step, stepQ, stepW, needW, runX, eff, nextD, fpR, fpQ, fpV, disjB, hits, nv, sv, evO, opv, qv, binV, ldV, callV, foldParts, putAt, partsOk, V.cells, solid, cellOk, hasRef, hasRefL, flat, upd_some, upd_none, lkp_cons, lkp_nil, ↓reduceIte, Nat.reduceEqDiff, Nat.reduceAdd, Nat.reduceLT, Nat.reduceLeDiff, Qb, Qc, Q4, Q5, Qe, Qh, Qk, Qq, Zb, Qg, Qr, Qv, Qp, Ql, Qi, Qn, Qa, Qf, Q1, Qt, Ze, Qs, Q0, Q7, Zl, Zr, endQ, rvs, rv1, resV, vw_i, vw_pa, vw_ag, vw_tp, zipA, Qj, Qy, Zd, Zx, Zq, Qz, Zy, Zg, Zf, Qd, true_and, and_true, and_self, implies_true, reduceCtorEq, Z3, Zw, Zj, Zh, Qm]
 exact ⟨by unfold inI; omega, ⟨hn, by unfold tame; omega, by unfold tame; omega⟩, by unfold inI; omega, by unfold inI; omega⟩
def eSPN (a : List Int × Int × Int × Int) : List V := [.pa (eSew a.1), .ag [.i a.2.1, .i a.2.2.1], .i a.2.2.2]
def dSPN : List V → List Int × Int × Int × Int | [.pa [l, _, _], .ag [.i n, .i m], .i k] => ((gR l).map dI, n, m, k) | _ => ([], 0, 0, 0)
theorem dSPN_e (a : List Int × Int × Int × Int) : dSPN (eSPN a) = a := by obtain ⟨r, n, m, k⟩ := a; simp [dSPN, eSPN, eSew, gR, Function.comp_def, dI_eI]
def s92 : List V → Prop × V := fnG eSPN dSPN (fun a => 0 < a.1.length ∧ tame 100000 a.2.1 ∧ tame 100000 a.2.2.1 ∧ tame 100000 a.2.2.2) (fun a => a) (fun a => splitV a.1 a.2.1 a.2.2.1 a.2.2.2)
noncomputable def H11 : Gam := H10.ext 92 s92
theorem okH11 : GOk Try.prog H11 := okH10.ext (f := 92) (r := s92) (fun a w => Try.call92 a w) (fnG_ok fun a h => W92 a.1 a.2.1 a.2.2.1 a.2.2.2 h.1 h.2.1 h.2.2.1 h.2.2.2)
theorem k92 (t : List Int) (f m b : Int) : H11 92 [.pa [.sl 1 (t.map eI), .u, .u], .ag [.i f, .i m], .i b] = (0 < t.length ∧ tame 100000 f ∧ tame 100000 m ∧ tame 100000 b, splitV t f m b) :=
 (show H11 92 _ = s92 (eSPN (t, f, m, b)) from rfl).trans (fnG_at _ (dSPN_e _))
theorem k67' (t : List Int) (f b : Int) : H11 67 [.pa [.sl 1 (t.map eI), .u, .u], .i f, .i b] = (0 < t.length ∧ tame 1000000 f ∧ tame 1000000 b, .i ((f + b).tmod t.length)) := k67 t f b
end Go.C02
set_option linter.unusedSimpArgs false
set_option linter.unusedVariables false
namespace Go.C02
open Go.Fam Go.Proofs
structure PInv (P : Nat → Nat → Prop) (W : Nat → Nat → Int) (m : AM Int) : Prop where
 nd : (aks m).Nodup
 two : ∀ k ∈ aks m, k.length = 2
 is : ∀ f c : Nat, P f c → aget m [(f : Int), (c : Int)] = some (W f c)
 no : ∀ f c : Nat, ¬ P f c → aget m [(f : Int), (c : Int)] = none
theorem PInv.imp {P P' : Nat → Nat → Prop} {W W' : Nat → Nat → Int} {m : AM Int} (h : PInv P W m) (hP : ∀ f c, P f c ↔ P' f c) (hW : ∀ f c, P f c → W f c = W' f c) : PInv P' W' m :=
 ⟨h.nd, h.two, fun f c hp => by rw [h.is f c ((hP f c).2 hp), hW f c ((hP f c).2 hp)], fun f c hp => h.no f c fun h' => hp ((hP f c).1 h')⟩
theorem PInv.put {P P' : Nat → Nat → Prop} {W W' : Nat → Nat → Int} {m : AM Int} (h : PInv P W m) (f0 c0 : Nat) (hP : ∀ f c, P' f c ↔ P f c ∨ f = f0 ∧ c = c0) (hW : ∀ f c, P f c → ¬ (f = f0 ∧ c = c0) → W f c = W' f c) {x : Int} (hx : W' f0 c0 = x) : PInv P' W' (aput m [(f0 : Int), (c0 : Int)] x) := by
 refine ⟨aks_nodup h.nd _ _, fun k hk => ?_, fun f c hp => ?_, fun f c hp => ?_⟩
 ·rw [aks_put, mem_putK] at hk
  rcases hk with hk | rfl
  ·exact h.two k hk
  ·rfl
 ·rw [aget_put]
  split
  ·rename_i e
   simp only [Jl.injEq, Xt, and_true] at e
   obtain ⟨rfl, rfl⟩ := e
   rw [hx]
  ·rename_i e
   simp only [Jl.injEq, Xt, and_true] at e
   have := ((hP f c).1 hp).resolve_right e
   rw [h.is f c this, hW f c this e]
 ·rw [aget_put]
  have := fun h' => hp ((hP f c).2 h')
  rw [if_neg]
  ·exact h.no f c fun h' => this (.inl h')
  ·intro e
   simp only [Jl.injEq, Xt, and_true] at e
   exact this (.inr e)
theorem PInv.get {P : Nat → Nat → Prop} {W : Nat → Nat → Int} {m : AM Int} (h : PInv P W m) {f c : Nat} (hp : P f c) : (avs V.i m)[(aks m).idxOf [(f : Int), (c : Int)]]? = some (.i (W f c)) := by
 rw [avs_get, h.is f c hp]; rfl
theorem PInv.mem {P : Nat → Nat → Prop} {W : Nat → Nat → Int} {m : AM Int} (h : PInv P W m) {f c : Nat} : [(f : Int), (c : Int)] ∈ aks m ↔ P f c := by
 rw [mem_aks]
 by_cases hp : P f c
 ·rw [h.is f c hp]; simp [hp]
 ·rw [h.no f c hp]; simp [hp]
theorem idx_putK (ks : List (List Int)) (l : List Int) : ((ks.idxOf l : Nat) : Int) < (((putK ks l).length : Nat) : Int) := by
 unfold putK
 split
 ·rename_i h; have := Z9 h; omega
 ·rename_i h; have := List.idxOf_eq_length h; simp; omega
def Pd (n many i k f c : Nat) : Prop := f < n ∧ (c < many ∨ c = many ∧ (f < i ∨ f = i ∧ 0 < k))
def Wd (t : List Int) (many i k f c : Nat) : Int := if f = i ∧ c = many then minL ((costs (seg t f c)).take k) else Dn (seg t f c)
def Wl (t : List Int) (many i k f c : Nat) : Int := if f = i ∧ c = many then argL ((costs (seg t f c)).take k) else lastOf (seg t f c)
def Pl (n many i k f c : Nat) : Prop := Pd n many i k f c ∧ 1 ≤ c
theorem nrD (m : AM Int) : hasRefL (avs V.i m) = false := noref_avs (fun _ => rfl) m
def sewH (t : List Int) (m m' : AM Int) : List Blk := [.map true (aks m) (avs V.i m), .map true (aks m') (avs V.i m'), .cells 0 [.sl 1 (t.map eI), .mp 0 0, .mp 1 0]]
def Sewn (t : List Int) (v : V) (hp : List Blk) : Prop := v = .ad 2 0 0 ∧ ∃ m m' : AM Int, hp = sewH t m m' ∧ PInv (fun f c => f < t.length ∧ c < t.length) (fun f c => Dn (seg t f c)) m ∧ PInv (fun f c => (f < t.length ∧ c < t.length) ∧ 1 ≤ c) (fun f c => lastOf (seg t f c)) m'
set_option maxRecDepth 4000 in
set_option maxHeartbeats 4000000 in
theorem W65 (t : List Int) (h : OkT t) : RelCall Try.prog 65 [.sl 1 (t.map eI)] (Sewn t) := by
 refine relo_body okH11 hmix Try.func65 cb65 cc65 cs65 cn65 ?_
 have hlen := h.1
 have hlen2 := h.2.1
 simp only [rc65, rs65, ru_reg, ru_seq, ru_block, ru_keep, thenQ, run_nil, run_cons, Fam.step, stepQ, stepW, needW, nv, evO, opv, qv, lenV, foldParts, putAt, partsOk, V.cells, solid, cellOk, upd_some, lkp_cons, lkp_nil, ↓reduceIte, Nat.reduceEqDiff, Nat.reduceAdd, Nat.reduceLeDiff, Qb, Qc, Q4, Q5, Qe, Qh, Qk, Qq, Zb, Qg, Qr, Ql, Qi, Qn, rv1, resV, zipA, Qj, Qy, true_and, and_self, reduceCtorEq, Qo]
 refine ru_countE t.length (fun i m => ⟨lkp [(0, .sl 1 (t.map eI)), (3, .ad 2 0 0), (20, .i t.length), (21, .i i)], sewH t m []⟩)
  (fun i m => PInv (fun f c => f < i ∧ c = 0) (fun f c => 0) m) [] ?_ ?_ ?_ ?_
 ·simp only [Q8, sewH, aks, avs, kp, lkp_cons, lkp_nil, ↓reduceIte, Nat.reduceEqDiff, Qb, Qc, reduceCtorEq]
 ·exact ⟨by simp [aks], by simp [aks], fun f c h => by omega, fun f c _ => rfl⟩
 ·intro i m hi hC
  have hlt : (i : Int) < t.length := by omega
  have h4 : inI ((i : Int) + 1) := by unfold inI; omega
  have h2 := hC.two
  simp only [hlt, h4, sewH, eq86, ru_skip, ru_reg, ru_seq, ru_cnd, ru_block, ru_keep, putB, keyL, keyFits, thenQ, blockQ, run_nil, run_cons, Fam.step, stepQ, stepW, needW, putB, nv, sv, evO, opv, qv, binV, ldV, curG, foldParts, putAt, partsOk, V.cells, solid, intsOf, kp, upd_some, upd_none, lkp_cons, lkp_nil, ↓reduceIte, Nat.reduceEqDiff, Nat.reduceAdd, Nat.reduceLeDiff, Qb, Qc, Qe, Qh, Qk, Qq, Zb, Qg, Qr, Qp, Ql, Qi, Qn, Qa, Qf, Qs, beq_self_eq_true, Qj, Qd, decide_true, true_and, and_self, forall_const, reduceCtorEq, Zc]
  refine ⟨h2, _, hC.put i 0 (fun f c => by constructor <;> intro h <;> omega) (fun _ _ _ _ => rfl) rfl, ?_⟩
  simp only [aks_put, ← avs_put hC.nd, Qu, Qw, Q8]
 ·intro m hC
  simp only [Qx, sewH, ru_reg, ru_seq, ru_cnd, ru_block, ru_exit, ru_keep, thenQ, blockQ, run_nil, run_cons, Fam.step, stepQ, evO, opv, qv, binV, upd_some, lkp_cons, lkp_nil, ↓reduceIte, Nat.reduceEqDiff, Qb, Qc, Qx, Qd, decide_false, true_and, reduceCtorEq]
  have e1 : aks ([] : AM Int) = [] := rfl
  have e2 : avs V.i ([] : AM Int) = [] := rfl
  refine ru_countE (t.length - 1) (fun j (x : AM Int × AM Int) => ⟨lkp [(0, .sl 1 (t.map eI)), (3, .ad 2 0 0), (5, .i ((j + 1 : Nat) : Int))], sewH t x.1 x.2⟩)
   (fun j x => PInv (fun f c => f < t.length ∧ c < j + 1) (fun f c => Dn (seg t f c)) x.1 ∧ PInv (fun f c => (f < t.length ∧ c < j + 1) ∧ 1 ≤ c) (fun f c => lastOf (seg t f c)) x.2) (m, []) ?_ ?_ ?_ ?_
  ·simp only [sewH, cutL_noref _ _ _ (nrD _), cutH, kp, cutV, cutL, cutB, lkp_cons, lkp_nil, ↓reduceIte, Nat.reduceEqDiff, Nat.reduceLT, Qb, Qc, Qg, Qv, Qj, reduceCtorEq]
   rfl
  ·refine ⟨hC.imp (fun f c => by constructor <;> intro h <;> omega) fun f c h => ?_, ⟨by simp [aks], by simp [aks], fun f c h => by omega, fun f c _ => rfl⟩⟩
   rw [h.2]; rfl
  ·rintro j ⟨m1, m2⟩ hj ⟨hD, hL⟩
   obtain ⟨many, hmany⟩ : ∃ many, many = j + 1 := ⟨_, rfl⟩
   rw [← hmany] at hD hL ⊢
   have hltj : (many : Int) < t.length := by omega
   have i2 : inI ((many : Int) + 1) := by unfold inI; omega
   simp only [hltj, sewH, ru_skip, ru_reg, ru_seq, ru_cnd, ru_block, ru_keep, cutH, thenQ, run_nil, run_cons, Fam.step, stepQ, evO, opv, qv, binV, lenV, kp, upd_some, lkp_cons, lkp_nil, ↓reduceIte, Nat.reduceEqDiff, Qb, Qc, decide_true, true_and, reduceCtorEq, Qo]
   refine ru_countE t.length (fun i (x : AM Int × AM Int) => ⟨lkp [(0, .sl 1 (t.map eI)), (3, .ad 2 0 0), (5, .i many), (38, .i t.length), (39, .i i)], sewH t x.1 x.2⟩)
    (fun i x => PInv (Pd t.length many i 0) (Wd t many i 0) x.1 ∧ PInv (Pl t.length many i 0) (Wl t many i 0) x.2) (m1, m2) ?_ ?_ ?_ ?_
   ·simp only [Q8, sewH, cutL_noref _ _ _ (nrD _), cutH, kp, cutV, cutL, cutB, lkp_cons, lkp_nil, ↓reduceIte, Nat.reduceEqDiff, Nat.reduceLT, Qb, Qc, Qg, Qv, reduceCtorEq]
   ·exact ⟨hD.imp (fun f c => by unfold Pd; constructor <;> intro h <;> omega) fun f c h => by unfold Wd; rw [if_neg (by omega)],
     hL.imp (fun f c => by unfold Pl Pd; constructor <;> intro h <;> omega) fun f c h => by unfold Wl; rw [if_neg (by omega)]⟩
   ·rintro i ⟨m1, m2⟩ hi ⟨hD, hL⟩
    have hlti : (i : Int) < t.length := by omega
    have i3 : inI ((i : Int) + 1) := by unfold inI; omega
    simp only [hlti, sewH, ru_skip, ru_reg, ru_seq, ru_cnd, ru_block, ru_keep, cutH, putB, thenQ, run_nil, run_cons, Fam.step, stepQ, stepW, needW, putB, nv, sv, evO, opv, qv, binV, foldParts, putAt, partsOk, V.cells, solid, cellOk, kp, upd_some, upd_none, lkp_cons, lkp_nil, ↓reduceIte, Nat.reduceEqDiff, Nat.reduceAdd, Nat.reduceLeDiff, Qb, Qc, Q4, Q5, Qe, Qh, Qk, Qq, Zb, Qg, Qr, Ql, Qi, Qn, Qa, Qf, Qs, Q0, Qj, Qy, decide_true, true_and, and_self, reduceCtorEq]
    refine ru_countE many (fun k (x : AM Int × AM Int) => ⟨lkp [(0, .sl 1 (t.map eI)), (3, .ad 2 0 0), (5, .i many), (6, .i i), (7, .ad 3 0 0), (38, .i t.length), (39, .i i), (45, .i many), (46, .i k)], sewH t x.1 x.2 ++ [.cells 0 [.i i, .i many]]⟩)
     (fun k x => PInv (Pd t.length many i k) (Wd t many i k) x.1 ∧ PInv (Pl t.length many i k) (Wl t many i k) x.2) (m1, m2) ?_ ?_ ?_ ?_
    ·simp only [Q8, sewH, cutL_noref _ _ _ (nrD _), cutH, kp, cutV, cutL, cutB, lkp_cons, lkp_nil, ↓reduceIte, Nat.reduceEqDiff, Nat.reduceLT, Qb, Qc, Qg, Qv, Ql, Qi, reduceCtorEq]
    ·exact ⟨hD, hL⟩
    ·rintro k ⟨m1, m2⟩ hk ⟨hD, hL⟩
     have hltk : (k : Int) < many := by omega
     have i4 : inI ((k : Int) + 1) := by unfold inI; omega
     have g1 := k92 t i many k
     unfold splitV at g1
     have g2 := k67' t i k
     have e3 : ((i : Int) + ((k : Int) + 1)).tmod t.length = (((i + k + 1) % t.length : Nat) : Int) := by
      rw [Zk (by omega), Z5]; simp only [Qu, Qw, Int.add_assoc]
     have e4 : (many : Int) - k - 1 = ((many - k - 1 : Nat) : Int) := by omega
     have e5 : ((i : Int) + k).tmod t.length = (((i + k) % t.length : Nat) : Int) := by
      rw [Zk (by omega), Z5]; simp only [Qu]
     rw [e3, e4] at g1
     rw [e5] at g2
     have hfr : (i + k + 1) % t.length < t.length := Xc _ (by omega)
     have hfc : (i + k) % t.length < t.length := Xc _ (by omega)
     obtain ⟨τ, hτ⟩ : ∃ τ, t[(i + k) % t.length]? = some τ := ⟨_, Q6 hfc⟩
     have hτ1 := h.2.2 τ (Za hτ)
     have hτ2 : (seg t i many).getD k 0 = τ := by rw [seg_get hk, Qm, hτ]; rfl
     have hl := hD.get (f := i) (c := k) ⟨hi, .inl hk⟩
     have hr := hD.get (f := (i + k + 1) % t.length) (c := many - k - 1) ⟨hfr, .inl (by omega)⟩
     have w1 : Wd t many i k i k = Dn (seg t i k) := by unfold Wd; rw [if_neg (by omega)]
     have w2 : Wd t many i k ((i + k + 1) % t.length) (many - k - 1) = Dn (seg t ((i + k + 1) % t.length) (many - k - 1)) := by unfold Wd; rw [if_neg (by omega)]
     rw [w1] at hl
     rw [w2] at hr
     have d1 := Dn_seg h (f := i) (m := k) (by omega)
     have d2 := Dn_seg h (f := (i + k + 1) % t.length) (m := many - k - 1) (by omega)
     have hc := costs_get (l := seg t i many) (i := k) (by rw [seg_len]; exact hk)
     rw [seg_take (Nat.le_of_lt hk), seg_drop, hτ2] at hc
     obtain ⟨x, hx⟩ : ∃ x, x = max (Dn (seg t i k)) (Dn (seg t ((i + k + 1) % t.length) (many - k - 1))) + τ := ⟨_, rfl⟩
     rw [← hx] at hc
     have i5 : inI x := by unfold inI; omega
     have htk := take_succ_of hc
     have hltc : (((i + k) % t.length : Nat) : Int) < t.length := by omega
     have hckl : ((costs (seg t i many)).take k).length = k := by rw [Zm, costs_len, seg_len]; omega
     have hP : ∀ f c, Pd t.length many i (k + 1) f c ↔ Pd t.length many i k f c ∨ f = i ∧ c = many := fun f c => by
      unfold Pd
      constructor
      ·rintro ⟨h1, h2 | ⟨h2, h3 | h3⟩⟩
       ·exact .inl ⟨h1, .inl h2⟩
       ·exact .inl ⟨h1, .inr ⟨h2, .inl h3⟩⟩
       ·exact .inr ⟨h3.1, h2⟩
      ·rintro (⟨h1, h2 | ⟨h2, h3 | h3⟩⟩ | ⟨h1, h2⟩)
       ·exact ⟨h1, .inl h2⟩
       ·exact ⟨h1, .inr ⟨h2, .inl h3⟩⟩
       ·exact ⟨h1, .inr ⟨h2, .inr ⟨h3.1, by omega⟩⟩⟩
       ·exact ⟨by omega, .inr ⟨h2, .inr ⟨h1, by omega⟩⟩⟩
     have hP' : ∀ f c, Pl t.length many i (k + 1) f c ↔ Pl t.length many i k f c ∨ f = i ∧ c = many := fun f c => by
      unfold Pl
      rw [hP]
      constructor
      ·rintro ⟨h1 | h1, h2⟩
       ·exact .inl ⟨h1, h2⟩
       ·exact .inr h1
      ·rintro (⟨h1, h2⟩ | h1)
       ·exact ⟨.inl h1, h2⟩
       ·exact ⟨.inr h1, by omega⟩
     have hW : ∀ f c, Pd t.length many i k f c → ¬ (f = i ∧ c = many) → Wd t many i k f c = Wd t many i (k + 1) f c := fun f c _ hn => by unfold Wd; rw [if_neg hn, if_neg hn]
     have hW' : ∀ f c, Pl t.length many i k f c → ¬ (f = i ∧ c = many) → Wl t many i k f c = Wl t many i (k + 1) f c := fun f c _ hn => by unfold Wl; rw [if_neg hn, if_neg hn]
     have hm1 := hD.two
     have hm2 := hL.two
     by_cases hk0 : k = 0
     ·have hno := mt hD.mem.1 (show ¬ Pd t.length many i k i many by unfold Pd; omega)
      have hno' := mt hL.mem.1 (show ¬ Pl t.length many i k i many by unfold Pl Pd; omega)
      have hw : Wd t many i (k + 1) i many = x := by
       unfold Wd
       rw [if_pos ⟨rfl, rfl⟩, htk, minL_snoc, if_pos (.inl (Zo (by omega)))]
      have hw' : Wl t many i (k + 1) i many = k := by
       unfold Wl
       rw [if_pos ⟨rfl, rfl⟩, htk, argL_snoc, if_pos (.inl (Zo (by omega))), hckl]
      have he1 := men_mes (avs_len V.i m1) [(i : Int), (many : Int)] (V.i 0) (V.i x)
      have he2 := men_mes (avs_len V.i m2) [(i : Int), (many : Int)] (V.i 0) (V.i (k : Nat))
      rw [if_neg hno, avs_put hD.nd] at he1
      rw [if_neg hno', avs_put hL.nd] at he2
      simp only [hltk, i4, sewH, g1, g2, eq86, vw_mp, hl, hr, hτ, hltc, ← hx, i5, hno, hno', idx_putK, ru_skip, ru_reg, ru_any, ru_seq, ru_cnd, ru_block, ru_keep, ru_drp, ↓cut_lkp, putBs, optL, cutH, putB, lkpV, keyL, keyFits, thenQ, blockQ, run_nil, run_cons, Fam.step, stepQ, stepW, needQ, needW, condB, ug, runX, eff, nextD, fpR, fpQ, fpV, disjB, hits, putB, nv, sv, evO, opv, qv, pickV_t, binV, ldV, iadV, curG, callV, putAt, V.cells, solid, cellOk, intsOf, hasRef, hasRefL, flat, flatL, kp, cutV, cutL, cutB, upd_some, upd_none, lkp_cons, lkp_nil, ↓reduceIte, Nat.reduceEqDiff, Nat.reduceAdd, Nat.reduceLT, Nat.reduceLeDiff, Nat.reduceBEq, Qb, Qc, Q4, Q5, Qe, Qh, Qk, Qq, Zb, Qg, Qr, Qv, Qp, Ql, Qi, Qn, Qa, Qf, Q1, Qt, Ze, Qs, Q0, Q7, Zl, Zr, vw_i, vw_sl, vw_ag, vw_ad, Q9, beq_self_eq_true, Qj, Qy, Zd, Zx, Zq, Qz, Zy, Zg, Zf, Qd, Xb, decide_true, decide_false, true_and, and_true, and_self, false_and, forall_const, false_implies, implies_true, reduceCtorEq, Zc, Z3, Zw, Zj, Zh, beq_false, imp_self, Qo, Q2, Qm, Q3, eI]
      refine ⟨⟨by omega, by unfold tame; omega, by unfold tame; omega, by unfold tame; omega⟩, hm1, hm1, ⟨by omega, by unfold tame; omega, by unfold tame; omega⟩, hm1, hm1, hm2, (aput m1 [(i : Int), (many : Int)] x, aput m2 [(i : Int), (many : Int)] (k : Nat)), ⟨hD.put i many hP hW hw, hL.put i many hP' hW' hw'⟩, ?_⟩
      simp only [he1, he2, cutL_noref _ _ _ (nrD _), aks_put, Qu, Qw]
     ·have hyes := hD.mem.2 (show Pd t.length many i k i many by unfold Pd; omega)
      have hyes' := hL.mem.2 (show Pl t.length many i k i many by unfold Pl Pd; omega)
      have hold := hD.get (f := i) (c := many) (show Pd t.length many i k i many by unfold Pd; omega)
      have wold : Wd t many i k i many = minL ((costs (seg t i many)).take k) := by unfold Wd; rw [if_pos ⟨rfl, rfl⟩]
      have wold' : Wl t many i k i many = argL ((costs (seg t i many)).take k) := by unfold Wl; rw [if_pos ⟨rfl, rfl⟩]
      have hne : (costs (seg t i many)).take k ≠ [] := fun e => hk0 (by rw [← hckl, e]; rfl)
      rw [wold] at hold
      have he1 := men_mes (avs_len V.i m1) [(i : Int), (many : Int)] (V.i 0) (V.i x)
      have he2 := men_mes (avs_len V.i m2) [(i : Int), (many : Int)] (V.i 0) (V.i (k : Nat))
      rw [if_pos hyes, avs_put hD.nd] at he1
      rw [if_pos hyes', avs_put hL.nd] at he2
      simp only [hltk, i4, sewH, g1, g2, eq86, vw_mp, hl, hr, hτ, hltc, ← hx, i5, hyes, hyes', hold, idx_putK, ru_skip, ru_reg, ru_any, ru_seq, ru_cnd, ite_P, ru_block, ru_keep, ru_drp, ↓cut_lkp, putBs, optL, cutH, putB, lkpV, keyL, keyFits, thenQ, blockQ, run_nil, run_cons, Fam.step, stepQ, stepW, needQ, needW, condB, ug, runX, eff, nextD, fpR, fpQ, fpV, disjB, hits, putB, nv, sv, evO, opv, qv, pickV_bb, binV, ldV, iadV, curG, callV, putAt, V.cells, solid, cellOk, intsOf, hasRef, hasRefL, flat, flatL, kp, cutV, cutL, cutB, upd_some, upd_none, lkp_cons, lkp_nil, ↓reduceIte, Nat.reduceEqDiff, Nat.reduceAdd, Nat.reduceLT, Nat.reduceLeDiff, Nat.reduceBEq, Qb, Qc, Q4, Q5, Qe, Qh, Qk, Qq, Zb, Qg, Qr, Qv, Qp, Ql, Qi, Qn, Qa, Qf, Q1, Qt, Ze, Qs, Q0, Q7, Zl, Zr, vw_i, vw_sl, vw_ag, vw_ad, Q9, beq_self_eq_true, Qj, Qy, Zd, Zx, Zq, Qz, Zy, Zg, Zf, Qd, decide_true, decide_eq_true_eq, true_and, and_true, and_self, forall_const, implies_true, reduceCtorEq, Zc, Z3, Zw, Zj, Zh, Qo, Q2, Qm, Q3, eI]
      refine ⟨⟨by omega, by unfold tame; omega, by unfold tame; omega, by unfold tame; omega⟩, hm1, hm1, ⟨by omega, by unfold tame; omega, by unfold tame; omega⟩, hm1, fun hc' => ?_, fun hc' => ?_⟩
      ·have hw : Wd t many i (k + 1) i many = x := by
        unfold Wd
        rw [if_pos ⟨rfl, rfl⟩, htk, minL_snoc, if_pos (.inr hc')]
       have hw' : Wl t many i (k + 1) i many = k := by
        unfold Wl
        rw [if_pos ⟨rfl, rfl⟩, htk, argL_snoc, if_pos (.inr hc'), hckl]
       refine ⟨hm1, hm2, (aput m1 [(i : Int), (many : Int)] x, aput m2 [(i : Int), (many : Int)] (k : Nat)), ⟨hD.put i many hP hW hw, hL.put i many hP' hW' hw'⟩, ?_⟩
       simp only [he1, he2, cutL_noref _ _ _ (nrD _), aks_put, Qu, Qw]
      ·have hP2 : ∀ f c, Pd t.length many i k f c ↔ Pd t.length many i (k + 1) f c := fun f c => by
        rw [hP]
        refine ⟨.inl, ?_⟩
        rintro (h | ⟨rfl, rfl⟩)
        ·exact h
        ·unfold Pd; omega
       refine ⟨(m1, m2), ⟨hD.imp hP2 fun f c hp => ?_, hL.imp (fun f c => by unfold Pl; rw [hP2]) fun f c hp => ?_⟩, ?_⟩
       ·by_cases e : f = i ∧ c = many
        ·obtain ⟨rfl, rfl⟩ := e
         rw [wold]
         unfold Wd
         rw [if_pos ⟨rfl, rfl⟩, htk, minL_snoc, if_neg (by rintro (h | h); exact hne h; omega)]
        ·exact hW f c hp e
       ·by_cases e : f = i ∧ c = many
        ·obtain ⟨rfl, rfl⟩ := e
         rw [wold']
         unfold Wl
         rw [if_pos ⟨rfl, rfl⟩, htk, argL_snoc, if_neg (by rintro (h | h); exact hne h; omega)]
        ·exact hW' f c hp e
       ·simp only [cutL_noref _ _ _ (nrD _), Qu, Qw]
    ·rintro ⟨m1, m2⟩ ⟨hD, hL⟩
     simp only [Qx, sewH, cutL_noref _ _ _ (nrD _), ru_reg, ru_seq, ru_cnd, ru_exit, ru_keep, ru_drp, ↓cut_lkp, cutH, thenQ, blockQ, run_nil, run_cons, Fam.step, stepQ, evO, opv, qv, binV, cutV, cutL, cutB, upd_some, lkp_cons, lkp_nil, ↓reduceIte, Nat.reduceEqDiff, Nat.reduceLT, Qb, Qc, Qq, Qg, Qr, Qv, Ql, Qi, vw_ad, Qx, Qd, decide_false, true_and, reduceCtorEq]
     have hfull : (costs (seg t i many)).take many = costs (seg t i many) := Xf (by rw [costs_len, seg_len]; omega)
     refine ⟨i3, (m1, m2), ⟨hD.imp (fun f c => by unfold Pd; constructor <;> intro h <;> omega) fun f c hp => ?_, hL.imp (fun f c => by unfold Pl Pd; constructor <;> intro h <;> omega) fun f c hp => ?_⟩, ?_⟩
     ·have e2 : ¬ (f = i + 1 ∧ c = many) := by unfold Pd at hp; omega
      by_cases e : f = i ∧ c = many
      ·obtain ⟨rfl, rfl⟩ := e
       unfold Wd
       rw [if_pos ⟨rfl, rfl⟩, if_neg e2, hfull, ← Dn_eq]
      ·unfold Wd
       rw [if_neg e, if_neg e2]
     ·have e2 : ¬ (f = i + 1 ∧ c = many) := by unfold Pl Pd at hp; omega
      by_cases e : f = i ∧ c = many
      ·obtain ⟨rfl, rfl⟩ := e
       unfold Wl
       rw [if_pos ⟨rfl, rfl⟩, if_neg e2, hfull]; rfl
      ·unfold Wl
       rw [if_neg e, if_neg e2]
     ·simp only [Qu, Qw]
   ·rintro ⟨m1, m2⟩ ⟨hD, hL⟩
    simp only [Qx, sewH, cutL_noref _ _ _ (nrD _), ru_reg, ru_seq, ru_cnd, ru_exit, ru_keep, ru_drp, ↓cut_lkp, cutH, thenQ, blockQ, run_nil, run_cons, Fam.step, stepQ, evO, opv, qv, binV, cutV, cutL, cutB, upd_some, lkp_cons, lkp_nil, ↓reduceIte, Nat.reduceEqDiff, Nat.reduceLT, Qb, Qc, Qg, Qv, Qx, Qd, decide_false, true_and, reduceCtorEq]
    refine ⟨i2, (m1, m2), ⟨hD.imp (fun f c => by unfold Pd; constructor <;> intro h <;> omega) fun f c hp => ?_, hL.imp (fun f c => by unfold Pl Pd; constructor <;> intro h <;> omega) fun f c hp => ?_⟩, ?_⟩
    ·unfold Pd at hp
     unfold Wd
     rw [if_neg (by omega)]
    ·unfold Pl Pd at hp
     unfold Wl
     rw [if_neg (by omega)]
    ·simp only [Qu, Qw]
  ·rintro ⟨m1, m2⟩ ⟨hD, hL⟩
   have e6 : ¬ (((t.length - 1 + 1 : Nat) : Int) < t.length) := by omega
   simp only [e6, sewH, ru_reg, ru_seq, ru_cnd, ru_exit, ru_ret, ru_keep, endK, thenQ, blockQ, run_nil, run_cons, Fam.step, stepQ, evO, opv, qv, binV, lenV, upd_some, lkp_cons, lkp_nil, ↓reduceIte, Nat.reduceEqDiff, Qb, Qc, rvs, rv1, Qd, decide_false, true_and, and_self, reduceCtorEq, Qo]
   refine ⟨rfl, m1, m2, rfl, hD.imp (fun f c => by omega) fun _ _ _ => rfl, hL.imp (fun f c => by omega) fun _ _ _ => rfl⟩
end Go.C02
set_option linter.unusedSimpArgs false
set_option linter.unusedVariables false
namespace Go.C02
open Go.Fam Go.Proofs
theorem W66 (t : List Int) (seam : Int) (hn : OkT t) (hs : tame 100000 seam) : PureCall Try.prog 66 [.i seam, .pa [.pa (eSew t)], .pa [.i t.length]] (.ag [.i ((seam + 1).tmod t.length), .i (t.length - 1)]) := by
 refine pure_body okH11 hmix Try.func66 cb66 cc66 cs66 cn66 ?_
 have g1 := k67' t seam 1
 have hl := hn.1
 have hl2 := hn.2.1
 unfold tame at hs
 simp only [rc66, rs66, eSew, g1, ru_reg, ru_any, ru_seq, ru_ret, ru_keep, putBs, optL, thenQ, run_nil, run_cons, Fam.step, stepQ, stepW, needW, runX, eff, nextD, fpR, fpQ, fpV, disjB, hits, nv, sv, evO, opv, qv, binV, ldV, callV, foldParts, putAt, partsOk, V.cells, solid, cellOk, hasRef, hasRefL, flat, upd_some, upd_none, lkp_cons, lkp_nil, ↓reduceIte, Nat.reduceEqDiff, Nat.reduceAdd, Nat.reduceLT, Nat.reduceLeDiff, Qb, Qc, Q4, Q5, Qe, Qh, Qk, Qq, Zb, Qg, Qr, Qv, Qp, Ql, Qi, Qn, Qa, Q1, Ze, Qs, Q7, Zl, Zr, endQ, rvs, rv1, resV, vw_i, vw_pa, vw_ag, zipA, Qj, Qy, Zd, Zx, Zq, Qz, Zy, Zg, Zf, Qd, true_and, and_true, and_self, implies_true, reduceCtorEq, Z3, Zw, Zj, Zh, Qm]
 exact ⟨⟨by omega, by unfold tame; omega, by unfold tame; omega⟩, by unfold inI; omega⟩
def s66 : List V → Prop × V
 | [.i s, .pa [.pa [.sl 1 r, .u, .u]], .pa [.i n]] => (r = (r.map dI).map eI ∧ n = r.length ∧ OkT (r.map dI) ∧ tame 100000 s, .ag [.i ((s + 1).tmod r.length), .i (r.length - 1)])
 | _ => (False, .u)
theorem s66_ok (vs : List V) (h : (s66 vs).1) : PureCall Try.prog 66 vs (s66 vs).2 := by
 unfold s66 at h ⊢
 split at h
 ·rename_i s r n
  obtain ⟨h1, rfl, h3, h4⟩ := h
  have := W66 (r.map dI) s h3 h4
  unfold eSew at this
  rw [← h1, Qo] at this
  exact this
 ·exact h.elim
def p65 (vs : List V) : Prop := match vs with | [.sl 1 r] => r = (r.map dI).map eI ∧ OkT (r.map dI) | _ => False
def q65 : List V → Prop
 | [.tp (r :: bs), .sl 1 l] => Sewn (l.map dI) r (bs.map vB)
 | _ => False
noncomputable def H12 : Gam := ((H11.ext 66 s66).ext 3000065 fun vs => (p65 vs, .u)).ext 4000065 fun vs => (q65 vs, .u)
theorem okH12 : GOk Try.prog H12 := by
 refine (okH11.ext (f := 66) (r := s66) (fun a w => Try.call66 a w) s66_ok).extR (f := 65) (p := p65) (q := q65) (fun a w => Try.call65 a w) fun vs h => ?_
 unfold p65 at h
 split at h
 ·rename_i r
  have := W65 (r.map dI) h.2
  rw [← h.1] at this
  refine this.mono fun r' hp hr => ?_
  obtain ⟨rfl, m, m', rfl, h1, h2⟩ := hr
  exact ⟨(sewH (r.map dI) m m').map bV, by simp [sewH, vB_map, vB_cells], rfl, m, m', by simp [sewH, vB_map, vB_cells], h1, h2⟩
 ·exact h.elim
theorem k65 (t : List Int) : H12 3000065 [.sl 1 (t.map eI)] = (OkT t, .u) := by
 refine (show H12 3000065 _ = (p65 [.sl 1 (t.map eI)], V.u) from rfl).trans ?_
 simp [p65, map_de dI_eI]
theorem k65' (t : List Int) (x : V) (bs : List V) : H12 4000065 [.tp (x :: bs), .sl 1 (t.map eI)] = (Sewn t x (bs.map vB), .u) := by
 refine (show H12 4000065 _ = (Sewn ((t.map eI).map dI) x (bs.map vB), V.u) from rfl).trans ?_
 rw [map_de dI_eI]
theorem k66 (t : List Int) (s n : Int) : H12 66 [.i s, .pa [.pa [.sl 1 (t.map eI), .u, .u]], .pa [.i n]] = ((n = t.length ∧ OkT t ∧ tame 100000 s), .ag [.i ((s + 1).tmod t.length), .i (t.length - 1)]) := by
 refine (show H12 66 _ = s66 [.i s, .pa [.pa [.sl 1 (t.map eI), .u, .u]], .pa [.i n]] from rfl).trans ?_
 simp [s66, map_de dI_eI]
def begF : Nat → List Int → Nat → Nat → List Int → List Int
 | 0, _, _, _, out => out
 | k + 1, t, f, c, out => if c = 0 then out else
  begF k t ((f + lastOf (seg t f c) + 1) % t.length) (c - lastOf (seg t f c) - 1)
   (begF k t f (lastOf (seg t f c)) (out.set ((f + lastOf (seg t f c)) % t.length) (max (Dn (seg t f (lastOf (seg t f c)))) (Dn (seg t ((f + lastOf (seg t f c) + 1) % t.length) (c - lastOf (seg t f c) - 1))))))
theorem last_lt {t : List Int} {f c : Nat} (h : c ≠ 0) : lastOf (seg t f c) < c := by
 have := lastOf_lt (l := seg t f c) fun e => h (by rw [← seg_len t f c, e]; rfl)
 rwa [seg_len] at this
theorem begF_fuel : ∀ (n k k' : Nat) (t : List Int) (f c : Nat) (out : List Int), c ≤ n → n ≤ k → n ≤ k' → begF k t f c out = begF k' t f c out := by
 intro n
 induction n with
 | zero =>
  intro k k' t f c out h _ _
  have : c = 0 := by omega
  subst this
  cases k <;> cases k' <;> simp [begF]
 | succ n ih =>
  intro k k' t f c out h hk hk'
  obtain ⟨k, rfl⟩ : ∃ j, k = j + 1 := ⟨k - 1, by omega⟩
  obtain ⟨k', rfl⟩ : ∃ j, k' = j + 1 := ⟨k' - 1, by omega⟩
  simp only [begF]
  by_cases hc : c = 0
  ·simp [hc]
  ·rw [if_neg hc, if_neg hc]
   have := last_lt (t := t) (f := f) hc
   rw [ih k k' t f _ _ (by omega) (by omega) (by omega)]
   exact ih k k' t _ _ _ (by omega) (by omega) (by omega)
def begN (t : List Int) (f c : Nat) (out : List Int) : List Int := begF c t f c out
theorem begN_step {t : List Int} {f c : Nat} (h : c ≠ 0) (out : List Int) : begN t f c out =
  begN t ((f + lastOf (seg t f c) + 1) % t.length) (c - lastOf (seg t f c) - 1)
   (begN t f (lastOf (seg t f c)) (out.set ((f + lastOf (seg t f c)) % t.length) (max (Dn (seg t f (lastOf (seg t f c)))) (Dn (seg t ((f + lastOf (seg t f c) + 1) % t.length) (c - lastOf (seg t f c) - 1)))))) := by
 obtain ⟨k, rfl⟩ : ∃ j, c = j + 1 := ⟨c - 1, by omega⟩
 have := last_lt (t := t) (f := f) h
 unfold begN
 rw [begF, if_neg h, begF_fuel (lastOf (seg t f (k + 1))) k _ t f _ _ (Zv _) (by omega) (Zv _), begF_fuel (k + 1 - lastOf (seg t f (k + 1)) - 1) k _ t _ _ _ (Zv _) (by omega) (Zv _)]
theorem begF_len : ∀ (k : Nat) (t : List Int) (f c : Nat) (out : List Int), (begF k t f c out).length = out.length := by
 intro k
 induction k with
 | zero => intros; rfl
 | succ k ih =>
  intro t f c out
  simp only [begF]
  split
  ·rfl
  ·rw [ih, ih, Xu]
theorem begN_len (t : List Int) (f c : Nat) (out : List Int) : (begN t f c out).length = out.length := begF_len _ _ _ _ _
structure D68 where
 t : List Int
 m : AM Int
 m' : AM Int
 f : Nat
 c : Nat
 out : List Int
def eA68 (x : D68) : List V := [.ad 2 0 0, .ag [.i x.f, .i x.c], .rf 5 0 0 x.t.length 1]
def eH68 (x : D68) : List Blk := sewH x.t x.m x.m' ++ [.cells 0 [.ad 2 0 0], .cells 0 [.i x.t.length], .cells 0 (x.out.map V.i)]
def dAM : Blk → AM Int | .map _ ks vs => ks.zip (vs.map gI) | _ => []
theorem dAM_e (b : Bool) (m : AM Int) : dAM (.map b (aks m) (avs V.i m)) = m := by
 unfold dAM aks avs
 simp only [List.map_map]
 induction m with
 | nil => rfl
 | cons e m ih => simp only [Qb, List.zip_cons_cons, ih]; rfl
def dec68 (vs : List V) (hp : List Blk) : D68 :=
 ⟨match (hp[2]? : Option Blk) with | some (Blk.cells _ (V.sl _ r :: _)) => r.map dI | _ => [], dAM (hp[0]?.getD .hole), dAM (hp[1]?.getD .hole),
  match vs with | [_, .ag [.i f, _], _] => f.toNat | _ => 0, match vs with | [_, .ag [_, .i c], _] => c.toNat | _ => 0,
  match (hp[5]? : Option Blk) with | some (Blk.cells _ vs) => vs.map gI | _ => []⟩
theorem dec68_e (x : D68) : dec68 (eA68 x) (eH68 x) = x := by
 obtain ⟨t, m, m', f, c, out⟩ := x
 simp [dec68, eA68, eH68, sewH, dAM_e, gI, Function.comp_def, dI_eI]
structure C68 (k : Nat) (x : D68) : Prop where
 t : OkT x.t
 d : PInv (fun f c => f < x.t.length ∧ c < x.t.length) (fun f c => Dn (seg x.t f c)) x.m
 l : PInv (fun f c => (f < x.t.length ∧ c < x.t.length) ∧ 1 ≤ c) (fun f c => lastOf (seg x.t f c)) x.m'
 f : x.f < x.t.length
 c : x.c < x.t.length
 k : x.c ≤ k
 o : x.out.length = x.t.length
def RB68 (x : D68) (r : V) (hp : List Blk) : Prop := hp = eH68 { x with out := begN x.t x.f x.c x.out }
noncomputable def HG (k : Nat) : Gam := H12.extH 68 (hpG eA68 eH68 dec68 (C68 k) RB68)
theorem kG (k : Nat) (x : D68) : (HG k).h 68 (eA68 x) (eH68 x) = (C68 k x, RB68 x) :=
 (show (HG k).h 68 _ _ = hpG eA68 eH68 dec68 (C68 k) RB68 _ _ from rfl).trans (hpG_at x (dec68_e x))
theorem cc68' : comp Try.prog pu68 (Try.f68.ntmps, 0) 6 1 rc68 (Try.f68.body.getD .skip) = some rc68 := by kernel_rfl
theorem W68 (k : Nat) (hG : GOk Try.prog (HG k)) (x : D68) (h : C68 (k + 1) x) (hc : x.c ≠ 0) : HeapCall Try.prog 68 (eA68 x) (eH68 x) (RB68 x) := by
 refine heap_body hG hmix Try.func68 cb68 cc68' cs68 (args := eA68 x) (hp := eH68 x) (by exact cn68) (by simp [eH68, sewH]) (by decide) ?_
 obtain ⟨t, m, m', f, c, out⟩ := x
 obtain ⟨hT, hD, hL, hf, hcn, hk, ho⟩ := h
 simp only at hT hD hL hf hcn hk ho hc ⊢
 obtain ⟨b, hb⟩ : ∃ b, b = lastOf (seg t f c) := ⟨_, rfl⟩
 have hbc : b < c := by rw [hb]; exact last_lt hc
 have hlen := hT.1
 have hlen2 := hT.2.1
 have hl := hL.get (f := f) (c := c) ⟨⟨hf, hcn⟩, by omega⟩
 rw [← hb] at hl
 have hfr : (f + b + 1) % t.length < t.length := Xc _ (by omega)
 have hfc : (f + b) % t.length < t.length := Xc _ (by omega)
 have hd1 := hD.get (f := f) (c := b) ⟨hf, by omega⟩
 have hd2 := hD.get (f := (f + b + 1) % t.length) (c := c - b - 1) ⟨hfr, by omega⟩
 have g1 : HG k 92 [.pa [.sl 1 (t.map eI), .u, .u], .ag [.i f, .i c], .i b] = (0 < t.length ∧ tame 100000 f ∧ tame 100000 c ∧ tame 100000 b, splitV t f c b) := k92 t f c b
 unfold splitV at g1
 have g2 : HG k 67 [.pa [.sl 1 (t.map eI), .u, .u], .i f, .i b] = (0 < t.length ∧ tame 1000000 f ∧ tame 1000000 b, .i (((f : Int) + b).tmod t.length)) := k67' t f b
 have e3 : ((f : Int) + ((b : Int) + 1)).tmod t.length = (((f + b + 1) % t.length : Nat) : Int) := by
  rw [Zk (by omega), Z5]; simp only [Qu, Qw, Int.add_assoc]
 have e4 : (c : Int) - b - 1 = ((c - b - 1 : Nat) : Int) := by omega
 have e5 : ((f : Int) + b).tmod t.length = (((f + b) % t.length : Nat) : Int) := by
  rw [Zk (by omega), Z5]; simp only [Qu]
 rw [e3, e4] at g1
 rw [e5] at g2
 have hm1 := hD.two
 have hm2 := hL.two
 have hc0 : ¬ ((c : Int) = 0) := by omega
 have hltc : (((f + b) % t.length : Nat) : Int) < t.length := by omega
 obtain ⟨v, hv⟩ : ∃ v, v = max (Dn (seg t f b)) (Dn (seg t ((f + b + 1) % t.length) (c - b - 1))) := ⟨_, rfl⟩
 have hput : ∀ v : Int, (out.map V.i).take ((f + b) % t.length) ++ [V.i v] ++ (out.map V.i).drop ((f + b) % t.length + 1) = (out.set ((f + b) % t.length) v).map V.i := fun v => by
  have := putAt_set ((f + b) % t.length) (.i v) (out.map V.i) (by simp; omega)
  rw [List.map_set, ← this]; rfl
 obtain ⟨out1, ho1⟩ : ∃ out1, out1 = out.set ((f + b) % t.length) v := ⟨_, rfl⟩
 have hl1 : out1.length = t.length := by rw [ho1, Xu, ho]
 have g3 := kG k ⟨t, m, m', f, b, out1⟩
 have nrO : ∀ o : List Int, hasRefL (o.map V.i) = false := fun o => by induction o <;> simp_all [hasRefL, hasRef]
 simp only [eA68, eH68, sewH, Ql, Qi] at g3
 simp only [rc68, rs68, eA68, eH68, sewH, hc0, hl, eq86, rdV_i, rdV_sl, rdV_mp, rdV_ag, rdV_ad, Xn, Xp, vw_mp, g1, g2, hd1, hd2, ← hv, hltc, Z2, hput, ← ho1, hpF, upB, upL, upV, cutL_noref _ _ _ (nrD _), cutL_noref _ _ _ (nrO _), g3, ru_skip, ru_reg, ru_any, ru_seq, ru_cnd, ru_keep, ru_drp, ru_hcl, ↓cut_lkp, putBs, optL, cutH, lkpV, keyL, keyFits, endK, thenQ, run_nil, run_cons, Fam.step, stepQ, needW, runX, eff, nextD, fpR, fpQ, fpV, disjB, hits, nv, sv, evO, opv, qv, binV, ldV, iadV, curG, callV, putAt, V.cells, solid, cellOk, intsOf, hasRef, hasRefL, flat, flatL, cutV, cutL, cutB, upd_some, upd_none, lkp_cons, lkp_nil, ↓reduceIte, Nat.reduceEqDiff, Nat.reduceAdd, Nat.reduceLT, Nat.reduceLeDiff, Nat.reduceBEq, Qb, Qc, Q4, Q5, Qe, Qh, Qk, Qq, Zb, Qg, Qr, Qv, Qp, Ql, Qi, Qn, Qa, Qf, Q1, Qt, Ze, Qs, Q0, Q7, Zn, Zl, Zr, rvs, rv1, resV, vw_i, vw_sl, vw_ag, vw_ad, zipA, Q9, beq_self_eq_true, Qj, Xa, Qy, Zd, Zx, Zq, Xj, Qz, Zy, Zg, Zf, Qd, decide_false, true_and, and_true, and_self, forall_const, reduceCtorEq, Zc, Z3, Zw, Zj, Zh, Qo, Q2, Qm, Q3]
 refine ⟨hm2, ⟨by omega, by unfold tame; omega, by unfold tame; omega, by unfold tame; omega⟩, hm2, ⟨by omega, by unfold tame; omega, by unfold tame; omega⟩, hm1, hm1, by omega, ?_⟩
 refine ⟨⟨hT, hD, hL, hf, show b < t.length by omega, show b ≤ k by omega, hl1⟩, fun r hp' h1 => ?_⟩
 have h1 : hp' = eH68 ⟨t, m, m', f, b, begN t f b out1⟩ := h1
 subst h1
 have g4 := kG k ⟨t, m, m', (f + b + 1) % t.length, c - b - 1, begN t f b out1⟩
 simp only [eA68, eH68, sewH, Ql, Qi] at g4
 simp only [eH68, sewH, cutL_noref _ _ _ (nrD _), cutL_noref _ _ _ (nrO _), g4, cutV, cutL, cutB, ↓reduceIte, Nat.reduceLT, Qb, Qc, Qg, Qv, Ql, Qi]
 refine ⟨⟨hT, hD, hL, hfr, show c - b - 1 < t.length by omega, show c - b - 1 ≤ k by omega, by rw [begN_len]; exact hl1⟩, fun r hp' h2 => ?_⟩
 have e : begN t f c out = begN t ((f + b + 1) % t.length) (c - b - 1) (begN t f b out1) := by rw [begN_step hc, ← hb, ← hv, ho1]
 show hp' = eH68 ⟨t, m, m', f, c, begN t f c out⟩
 rw [e]
 exact h2
theorem W68z (k : Nat) (x : D68) (h : C68 k x) (hc : x.c = 0) : HeapCall Try.prog 68 (eA68 x) (eH68 x) (RB68 x) := by
 refine heap_body okH12 hmix Try.func68 cb68 cc68' cs68 (args := eA68 x) (hp := eH68 x) (by exact cn68) (by simp [eH68, sewH]) (by decide) ?_
 obtain ⟨t, m, m', f, c, out⟩ := x
 simp only at hc
 subst hc
 simp only [rc68, rs68, eA68, eH68, sewH, Q8, ru_reg, ru_seq, ru_cnd, ru_ret, ru_keep, endK, thenQ, run_nil, run_cons, Fam.step, stepQ, evO, opv, qv, binV, ldV, V.cells, solid, hasRef, hasRefL, upd_some, lkp_cons, lkp_nil, ↓reduceIte, Nat.reduceEqDiff, Nat.reduceAdd, Nat.reduceLeDiff, Qb, Qc, Qe, Qh, Qk, Qq, Qp, Ql, Qi, rvs, rv1, resV, vw_i, vw_ag, zipA, Qj, Qz, Qd, decide_true, true_and, and_self, reduceCtorEq]
 rfl
theorem okHG : ∀ k, GOk Try.prog (HG k) := by
 intro k
 induction k with
 | zero =>
  refine okH12.extH (f := 68) (fun a w => Try.call68 a w) (hpG_ok fun x hx => ⟨fun r hp' hr y hy => ?_, W68z 0 x hx (by have := hx.k; omega)⟩)
  cases hy
 | succ k ih =>
  refine okH12.extH (f := 68) (fun a w => Try.call68 a w) (hpG_ok fun x hx => ⟨fun r hp' hr y hy => ?_, ?_⟩)
  ·cases hy
  ·by_cases hc : x.c = 0
   ·exact W68z _ x hx hc
   ·exact W68 k ih x hx hc
noncomputable def H13 : Gam := HG 100
theorem okH13 : GOk Try.prog H13 := okHG 100
theorem k68 (x : D68) : H13.h 68 (eA68 x) (eH68 x) = (C68 100 x, RB68 x) := kG 100 x
end Go.C02
set_option maxRecDepth 8000
namespace Go.C02.N
open Go.Fam Go.Proofs
def rc35 : RC := (.seq (.reg false [(cX 1 0), (cQ 2 [] (.mv (.k (.z 1)))), (cI 3 0)]) (.keep [1] (.seq (.seq (.reg false [(cLd 12 1 true 11), (cQ 13 [12] (.call (kF 41) [(.t 12)])), (cMv 4 13)]) (.keep [1,4] (.seq (.reg false [(cMv 14 4), (cC 15 .neq 14 0)]) (.keep [1,4,15] (.cond (.t 15) (.seq (.reg false [(cMv 16 4), (cQ 2 [] (.mv (.k (.z 1)))), (cMv 3 16)]) .ret) .skip))))) (.keep [1] (.seq (.crl false [(cFa 17 1 10), (cLd 18 17 false 1)] ⟨(some 19), none, [18], none, .o (kF 65) [(.t 18)]⟩ [⟨(some 5), none, [], none, .w (.alc [.pn])⟩, ⟨none, none, [5,19], none, .w (.st 1 (.t 5) (.t 19))⟩]) (.keep [1,5] (.seq (.reg false [(cFa 20 1 10), (cLd 21 20 false 1), (cLn 22 21), ⟨(some 6), none, [], none, .w (.alc [(.i 0)])⟩, ⟨none, none, [6,22], none, .w (.st 1 (.t 6) (.t 22))⟩]) (.keep [1,5,6] (.seq (.reg false [(cQ 23 [5,6] (.mkf 66 [(.t 5), (.t 6)])), (cMv 7 23)]) (.keep [1,5,6,7] (.seq (.reg false [(cI 8 0)]) (.keep [1,5,6,7,8] (.seq (.seq (.reg false [(cFa 24 1 10), (cLd 25 24 false 1), (cLn 26 25), (cI 27 0)]) (.keep [1,5,6,7,8,25,26,27] (.block 0 (.loop [1,5,6,7,8,25,26,27] none (.seq (.reg false [(cB 28 .lss 27 26)]) (.keep [1,5,6,7,8,25,26,27,28] (.seq (.cond (.t 28) .skip (.exit 0)) (.keep [1,5,6,7,8,25,26,27] (.seq (.block 1 (.seq (.reg false [(cMv 29 27), (cA 30 1 25 27), (cLd 31 30 false 1), (cMv 9 29), (cMv 10 31)]) (.keep [1,5,6,7,8,9,10,25,26,27] (.seq (.any false 0 [⟨(cLd 32 5 false 1), [], []⟩, ⟨(cZ 33 32), [], [0]⟩, ⟨(cFa 34 33 1), [], [1,0]⟩, ⟨(cLd 35 34 false 1), [], [2,1,0]⟩, ⟨(cMv 36 7), [], []⟩, ⟨(cMv 37 9), [], []⟩, ⟨(cQ 38 [36,37] (.call (.t 36) [(.t 37)])), [], [4,5]⟩, ⟨(cQ 39 [35,38] (.lkp (.i 0) false 86 true (.t 35) (.t 38))), [], [3,2,1,0,6,4,5]⟩, ⟨(cMv 40 10), [], []⟩, ⟨(cB 41 .add 39 40), [], [7,3,2,1,0,6,4,5,8]⟩, ⟨(cLd 42 5 false 1), [], []⟩, ⟨(cZ 43 42), [], [10]⟩, ⟨(cFa 44 43 1), [], [11,10]⟩, ⟨(cLd 45 44 false 1), [], [12,11,10]⟩, ⟨(cMv 46 7), [], []⟩, ⟨(cMv 47 8), [], []⟩, ⟨(cQ 48 [46,47] (.call (.t 46) [(.t 47)])), [], [14,15,6,4,5]⟩, ⟨(cQ 49 [45,48] (.lkp (.i 0) false 86 true (.t 45) (.t 48))), [], [13,12,11,10,16,14,15,6,4,5]⟩, ⟨(cFa 50 1 10), [], []⟩, ⟨(cLd 51 50 false 1), [], [18]⟩, ⟨(cMv 52 8), [], []⟩, ⟨(cA 53 1 51 52), [], [19,18,20]⟩, ⟨(cLd 54 53 false 1), [], [21,19,18,20]⟩, ⟨(cB 55 .add 49 54), [], [17,13,12,11,10,16,14,15,6,4,5,22,21,19,18,20]⟩, ⟨(cB 56 .lss 41 55), [], [9,7,3,2,1,0,6,4,5,8,23,17,13,12,11,10,16,14,15,22,21,19,18,20]⟩]) (.keep [1,5,6,7,8,9,25,26,27,56] (.cond (.t 56) (.reg false [(cMv 57 9), (cMv 8 57)]) .skip)))))) (.keep [1,5,6,7,8,25,26,27] (.reg false [(cC 58 .add 27 1), (cMv 27 58)]))))))))))) (.keep [5,6,7,8] (.seq (.reg false [(cLd 59 6 false 1), ⟨(some 60), none, [59,59], none, .w (.mks 1 [(.i 0)] (.t 59) (.t 59))⟩, (cMv 11 60)]) (.keep [5,7,8,11] (.seq (.any false 0 [⟨(cMv 61 11), [], []⟩, ⟨(cMv 62 8), [], []⟩, ⟨(cLd 63 5 false 1), [], []⟩, ⟨(cZ 64 63), [], [2]⟩, ⟨(cFa 65 64 1), [], [3,2]⟩, ⟨(cLd 66 65 false 1), [], [4,3,2]⟩, ⟨(cMv 67 7), [], []⟩, ⟨(cMv 68 8), [], []⟩, ⟨(cQ 69 [67,68] (.call (.t 67) [(.t 68)])), [], [6,7]⟩, ⟨(cQ 70 [66,69] (.lkp (.i 0) false 86 true (.t 66) (.t 69))), [], [5,4,3,2,8,6,7]⟩, ⟨(cA 71 1 61 62), [], [0,1,2,3,4,5,6,7,8,9]⟩, ⟨⟨none, none, [71,70], none, .w (.st 1 (.t 71) (.t 70))⟩, [], [10,0,1,2,3,4,5,6,7,8,9]⟩]) (.keep [5,7,8,11] (.seq (.hca false 0 [⟨(cLd 72 5 false 1), [], []⟩, ⟨(cMv 73 7), [], []⟩, ⟨(cMv 74 8), [], []⟩, ⟨(cQ 75 [73,74] (.call (.t 73) [(.t 74)])), [], [1,2]⟩, ⟨(cMv 76 11), [], []⟩] ⟨⟨(some 77), none, [72,75,76], none, .o (kF 68) [(.t 72), (.t 75), (.t 76)]⟩, [], [0,3,1,2,4]⟩ 0 []) (.keep [11] (.seq (.swp 0 5 (.drp 1 (.reg false [(cMv 78 11), (cMv 2 78), (cI 3 0)]))) .ret)))))))))))))))))))))
def pu35 : List Nat := [1]
def rs35 : List RV := [.t 2, .t 3]
theorem cc35 : comp Try.prog pu35 (Try.f35.ntmps, 0) 0 1 rc35 (Try.f35.body.getD .skip) = some rc35 := by kernel_rfl
theorem cb35 : Try.f35.body = some (Try.f35.body.getD .skip) := by kernel_rfl
theorem cs35 : resRV Try.prog Try.f35.results.toList = some rs35 := by kernel_rfl
theorem cn35 : 1 ≤ Try.f35.ntmps := by decide
def rc26 : RC := (.seq (.reg false [(cX 1 0), (cI 2 0), (cI 3 0)]) (.keep [1] (.seq (.reg false [(cLd 9 1 true 11), ⟨(some 10), none, [9], none, .o (kF 35) [(.t 9)]⟩, (cMv 8 10), (cEx 11 8 0), (cEx 12 8 1), (cMv 4 11), (cMv 5 12)]) (.keep [1,4,5] (.seq (.seq (.reg false [(cMv 13 5), (cC 14 .neq 13 0)]) (.keep [1,4,5,14] (.cond (.t 14) (.seq (.reg false [(cMv 15 5), (cI 2 0), (cMv 3 15)]) .ret) .skip))) (.keep [1,4] (.seq (.seq (.reg false [(cFa 16 1 10), (cLd 17 16 false 1), (cLn 18 17), (cI 19 0)]) (.keep [4,17,18,19] (.block 0 (.loop [4,17,18,19] none (.seq (.reg false [(cB 20 .lss 19 18)]) (.keep [4,17,18,19,20] (.seq (.cond (.t 20) .skip (.exit 0)) (.keep [4,17,18,19] (.seq (.block 1 (.seq (.reg false [(cMv 21 19), (cA 22 1 17 19), (cLd 23 22 false 1), (cMv 6 21), (cMv 7 23)]) (.keep [4,6,7,17,18,19] (.reg false [(cMv 24 4), (cMv 25 6), (cA 26 1 24 25), (cLd 27 26 false 1), (cMv 28 7), (cB 29 .add 27 28), (cA 30 1 24 25), ⟨none, none, [30,29], none, .w (.st 1 (.t 30) (.t 29))⟩])))) (.keep [4,17,18,19] (.reg false [(cC 31 .add 19 1), (cMv 19 31)]))))))))))) (.keep [4] (.seq (.reg false [(cMv 32 4), (cQ 33 [32] (.call (kF 59) [(.t 32)])), (cMv 2 33), (cI 3 0)]) .ret)))))))))
def pu26 : List Nat := [1000010,1]
def rs26 : List RV := [.t 2, .t 3]
theorem cc26 : comp Try.prog pu26 (Try.f26.ntmps, 0) 0 1 rc26 (Try.f26.body.getD .skip) = some rc26 := by kernel_rfl
theorem cb26 : Try.f26.body = some (Try.f26.body.getD .skip) := by kernel_rfl
theorem cs26 : resRV Try.prog Try.f26.results.toList = some rs26 := by kernel_rfl
theorem cn26 : 1 ≤ Try.f26.ntmps := by decide
def rc54 : RC := (.seq (.reg false [(cX 1 0), (cQ 2 [] (.mv (.k (.z 1))))]) (.keep [1] (.seq (.reg false [(cQ 3 [] (.mv (.k (.z 1))))]) (.keep [1,3] (.seq (.seq (.reg false [(cI 4 0)]) (.keep [1,3,4] (.block 0 (.own 3 1 (.loop [1,3,4] none (.seq (.seq (.reg false [(cMv 7 4), (cFa 8 1 0), (cFa 9 8 1), (cLd 10 9 false 1), (cLn 11 10), (cB 12 .lss 7 11)]) (.keep [1,3,4,12] (.cond (.t 12) .skip (.exit 0)))) (.keep [1,3,4] (.seq (.block 1 (.seq (.any false 0 [⟨(cFa 16 1 0), [], []⟩, ⟨(cLd 17 16 true 6), [], [0]⟩, ⟨(cFa 18 1 0), [], []⟩, ⟨(cFa 19 18 1), [], [2]⟩, ⟨(cLd 20 19 false 1), [], [3,2]⟩, ⟨(cMv 21 4), [], []⟩, ⟨(cA 22 1 20 21), [], [4,3,2,5]⟩, ⟨(cLd 23 22 false 1), [], [6,4,3,2,5]⟩, ⟨(cQ 24 [17,23] (.call (kF 86) [(.t 17), (.t 23)])), [], [1,0,7,6,4,3,2,5]⟩, ⟨(cMv 15 24), [], [8,1,0,7,6,4,3,2,5]⟩, ⟨(cEx 25 15 0), [], [9,8,1,0,7,6,4,3,2,5]⟩, ⟨(cEx 26 15 1), [], [9,8,1,0,7,6,4,3,2,5]⟩, ⟨(cMv 5 25), [], [10,9,8,1,0,7,6,4,3,2,5]⟩, ⟨(cMv 6 26), [], [11,9,8,1,0,7,6,4,3,2,5,12,10]⟩]) (.keep [1,3,4,5] (.reg false [(cMv 27 3), (cMv 28 5), (cQ 29 [28] (.bsl 1 1 [(.z 1)] [(0,1, (.t 28))])), ⟨(some 30), none, [27,29], none, .w (.app 1 (.t 27) (.t 29))⟩, (cMv 3 30)])))) (.keep [1,3,4] (.reg false [(cMv 13 4), (cC 14 .add 13 1), (cMv 4 14)])))))))))) (.keep [3] (.seq (.drp 0 (.reg false [(cMv 31 3), (cMv 2 31)])) .ret)))))))
def pu54 : List Nat := [1,29]
def rs54 : List RV := [.t 2]
theorem cc54 : comp Try.prog pu54 (Try.f54.ntmps, 0) 0 1 rc54 (Try.f54.body.getD .skip) = some rc54 := by kernel_rfl
theorem cb54 : Try.f54.body = some (Try.f54.body.getD .skip) := by kernel_rfl
theorem cs54 : resRV Try.prog Try.f54.results.toList = some rs54 := by kernel_rfl
theorem cn54 : 1 ≤ Try.f54.ntmps := by decide
def rc43 : RC := (.seq (.reg false [(cX 1 0), (cQ 2 [] (.mv (.k (.z 1)))), (cI 3 0)]) (.keep [1] (.seq (.seq (.reg false [(cLd 9 1 true 11), (cQ 10 [9] (.call (kF 61) [(.t 9), (kI 0)])), (cMv 4 10)]) (.keep [1,4] (.seq (.reg false [(cMv 11 4), (cC 12 .neq 11 0)]) (.keep [1,4,12] (.cond (.t 12) (.seq (.reg false [(cMv 13 4), (cQ 2 [] (.mv (.k (.z 1)))), (cMv 3 13)]) .ret) .skip))))) (.keep [1] (.seq (.reg false [(cQ 5 [] (.mv (.k (.z 1))))]) (.keep [1,5] (.seq (.seq (.reg false [(cI 6 0)]) (.keep [1,5,6] (.block 0 (.own 5 1 (.loop [1,5,6] none (.seq (.seq (.reg false [(cMv 14 6), (cFa 15 1 9), (cLd 16 15 false 1), (cLn 17 16), (cB 18 .lss 14 17)]) (.keep [1,5,6,18] (.cond (.t 18) .skip (.exit 0)))) (.keep [1,5,6] (.seq (.block 1 (.seq (.reg false [(cLd 22 1 true 11), (cMv 23 6), (cQ 24 [22,23] (.call (kF 42) [(.t 22), (.t 23)])), (cMv 21 24), (cEx 25 21 0), (cEx 26 21 1), (cMv 7 25), (cMv 8 26)]) (.keep [1,5,6,7] (.seq (.reg false [(cMv 27 7), (cC 28 .neq 27 1)]) (.keep [1,5,6,28] (.cond (.t 28) (.reg false [(cMv 29 5), (cMv 30 6), (cQ 31 [30] (.bsl 1 1 [(.i 0)] [(0,1, (.t 30))])), ⟨(some 32), none, [29,31], none, .w (.app 1 (.t 29) (.t 31))⟩, (cMv 5 32)]) .skip)))))) (.keep [1,5,6] (.reg false [(cMv 19 6), (cC 20 .add 19 1), (cMv 6 20)])))))))))) (.keep [5] (.seq (.drp 0 (.reg false [(cMv 33 5), (cMv 2 33), (cI 3 0)])) .ret)))))))))
def pu43 : List Nat := [1,31]
def rs43 : List RV := [.t 2, .t 3]
theorem cc43 : comp Try.prog pu43 (Try.f43.ntmps, 0) 0 1 rc43 (Try.f43.body.getD .skip) = some rc43 := by kernel_rfl
theorem cb43 : Try.f43.body = some (Try.f43.body.getD .skip) := by kernel_rfl
theorem cs43 : resRV Try.prog Try.f43.results.toList = some rs43 := by kernel_rfl
theorem cn43 : 1 ≤ Try.f43.ntmps := by decide
end Go.C02.N
set_option linter.unusedSimpArgs false
set_option linter.unusedVariables false
namespace Go.C02
open Go.Fam Go.Proofs
theorem okT_of {f : Fig} (h : figCheck f = 0) : OkT f.times := by
 have hv := validF_of h
 have hd := hv.dome
 have hg := hd.ng
 have hn := hv.nt
 exact ⟨by omega, by omega, hv.times⟩
def ringC (t : List Int) : List Int := (Zs t.length).map fun s => Dn (seg t ((s + 1) % t.length) (t.length - 1)) + t.getD s 0
theorem ringC_len (t : List Int) : (ringC t).length = t.length := by simp [ringC]
theorem ringC_get {t : List Int} {s : Nat} (h : s < t.length) : (ringC t)[s]? = some (Dn (seg t ((s + 1) % t.length) (t.length - 1)) + t.getD s 0) := by
 unfold ringC
 rw [Q3, Z4 h]; rfl
def closeN (t : List Int) : Nat := argL (ringC t)
def restN (t : List Int) : Int := Dn (seg t ((closeN t + 1) % t.length) (t.length - 1))
def planN (t : List Int) : List Int := begN t ((closeN t + 1) % t.length) (t.length - 1) ((Zi t.length 0).set (closeN t) (restN t))
theorem closeN_lt {t : List Int} (h : OkT t) : closeN t < t.length := by
 have := argL_lt (l := ringC t) fun e => by
  have h1 := ringC_len t
  rw [e, Qh] at h1
  have h2 := h.1
  omega
 rwa [ringC_len] at this
theorem planN_len (t : List Int) : (planN t).length = t.length := by
 unfold planN
 rw [begN_len, Xu, Xy]
theorem arg_step {l : List Int} {k c : Nat} {x y : Int} (hk : l[k]? = some x) (hc : c = argL (l.take k)) (hy : l[c]? = some y) : argL (l.take (k + 1)) = if x < y then k else c := by
 have hkl := getElemLt hk
 rw [take_succ_of hk, argL_snoc, ← hc]
 have hlen : (l.take k).length = k := by rw [Zm]; omega
 rw [hlen]
 by_cases h0 : k = 0
 ·subst h0
  have : c = 0 := by rw [hc]; rfl
  subst this
  rw [hk] at hy
  cases hy
  simp
 ·have hne : l.take k ≠ [] := fun e => h0 (by rw [← hlen, e]; rfl)
  have h1 := argL_get hne
  rw [← hc, List.getElem?_take_of_lt (by rw [hc]; have := argL_lt hne; omega), hy] at h1
  have h1 : y = minL (l.take k) := Jg.inj h1
  simp only [hne, false_or, h1]
theorem arg_lt {l : List Int} {k : Nat} (hk : k < l.length) : argL (l.take k) < l.length := by
 by_cases h0 : l.take k = []
 ·rw [h0]; show 0 < l.length; omega
 ·have := argL_lt h0
  rw [Zm] at this
  omega
def planR (f : Fig) : V := if figCheck f ≠ 0 then .tp [.z 1, .i (figCheck f)] else .tp [.rf 0 0 0 f.times.length 1, .i 0]
def planH (f : Fig) : List Blk := if figCheck f ≠ 0 then [] else [.cells 0 ((planN f.times).map V.i)]
theorem h41o (f : Fig) : H13 41 [.ag (eFig f)] = (True, .i (figCheck f)) := h41 f
theorem k65o (t : List Int) : H13 3000065 [.sl 1 (t.map eI)] = (OkT t, .u) := k65 t
theorem k65o' (t : List Int) (x : V) (bs : List V) : H13 4000065 [.tp (x :: bs), .sl 1 (t.map eI)] = (Sewn t x (bs.map vB), .u) := k65' t x bs
theorem k66o (t : List Int) (s n : Int) : H13 66 [.i s, .pa [.pa [.sl 1 (t.map eI), .u, .u]], .pa [.i n]] = ((n = t.length ∧ OkT t ∧ tame 100000 s), .ag [.i ((s + 1).tmod t.length), .i (t.length - 1)]) := k66 t s n
set_option maxHeartbeats 2000000 in
theorem W35 (f : Fig) : OwnCall Try.prog 35 [.ag (eFig f)] (planR f) (planH f) := by
 refine own_body okH13 hmix Try.func35 N.cb35 N.cc35 N.cs35 N.cn35 ?_
 have g1 := h41o f
 unfold eFig at g1
 have g2 := k65o f.times
 have g3 := k65o' f.times
 simp only [N.rc35, N.rs35, g1, endO, ru_skip, ru_reg, ru_seq, ru_cnd, ite_P, ru_block, ru_ret, ru_keep, ru_crl, putB, endO, thenQ, run_nil, run_cons, Fam.step, stepQ, stepW, needW, putB, nv, sv, evO, opv, qv, binV, ldV, lenV, curG, callV, putAt, V.cells, solid, cellOk, hasRef, hasRefL, flat, upd_some, upd_none, lkp_cons, lkp_nil, ↓reduceIte, Nat.reduceEqDiff, Nat.reduceAdd, Nat.reduceLT, Nat.reduceLeDiff, Qb, Qc, Q4, Q5, Qe, Qh, Qk, Qq, Qg, Qr, Qv, Qp, Ql, Qi, Qn, Q1, rvs, rv1, resV, vw_i, vw_sl, vw_ag, zipA, Qj, Qy, Qz, Qd, decide_eq_false_iff_not, true_and, and_true, and_self, implies_true, Z1, Qo, Classical.not_not, eFig]
 refine ⟨fun h => ?_, fun h => ?_⟩
 ·simp [planR, planH, h]
 have hT := okT_of h
 simp only [g2, g3]
 refine ⟨hT, ?_⟩
 rintro r bs ⟨rfl, m, m', hbs, hD, hL⟩
 have hlen := hT.1
 have hlen2 := hT.2.1
 have nrO : ∀ o : List Int, hasRefL (o.map V.i) = false := fun o => by induction o <;> simp_all [hasRefL, hasRef]
 have hbl : bs.length = 3 := by have := congrArg List.length hbs; simpa [sewH] using this
 have hsh : ∀ n, shL n (avs V.i m) = avs V.i m := fun n => shL_noref n _ (nrD m)
 have hsh' : ∀ n, shL n (avs V.i m') = avs V.i m' := fun n => shL_noref n _ (nrD m')
 simp only [hbs, sewH, hbl, hsh, hsh', shV, shL, shB, cellOk, Nat.reduceAdd, Nat.reduceLeDiff, Qb, Qc, Q4, Q5, Qe, Qh, Qk, Zb, Ql, Qi, Qn, Qa, Qf, Qs, Q0, Qj, Xa, Qy, true_and, and_self]
 obtain ⟨t, ht⟩ : ∃ t, t = f.times := ⟨_, rfl⟩
 simp only [← ht] at hT hD hL hlen hlen2 ⊢
 refine ru_count t.length (fun k => ⟨lkp [(1, .pa (eFig f)), (5, .ad 3 0 0), (6, .ad 4 0 0), (7, .fn 66 [.ad 3 0 0, .ad 4 0 0]), (8, .i (argL ((ringC t).take k))), (25, .sl 1 (t.map eI)), (26, .i t.length), (27, .i k)], sewH t m m' ++ [.cells 0 [.ad 2 0 0], .cells 0 [.i t.length]]⟩) ?_ ?_ ?_
 ·simp only [Q8, sewH, ht, kp, lkp_cons, lkp_nil, ↓reduceIte, Nat.reduceEqDiff, Qb, Qc, Qr, Ql, Qi, eFig]
  rfl
 ·intro k hk
  obtain ⟨x, hx⟩ : ∃ x, t[k]? = some x := ⟨_, Q6 hk⟩
  have hx1 := hT.2.2 x (Za hx)
  have hlt : (k : Int) < t.length := by omega
  have i1 : inI ((k : Int) + 1) := by unfold inI; omega
  obtain ⟨c, hc⟩ : ∃ c, c = argL ((ringC t).take k) := ⟨_, rfl⟩
  have hcl : c < t.length := by rw [hc]; have := arg_lt (l := ringC t) (k := k) (by rw [ringC_len]; exact hk); rwa [ringC_len] at this
  obtain ⟨y, hy⟩ : ∃ y, t[c]? = some y := ⟨_, Q6 hcl⟩
  have hy1 := hT.2.2 y (Za hy)
  have hgx := ringC_get hk
  have hgy := ringC_get hcl
  have hst := arg_step hgx hc hgy
  have hgx2 : t.getD k 0 = x := by rw [Qm, hx]; rfl
  have hgy2 : t.getD c 0 = y := by rw [Qm, hy]; rfl
  rw [hgx2, hgy2] at hst
  have hk1 : (k + 1) % t.length < t.length := Xc _ (by omega)
  have hc1 : (c + 1) % t.length < t.length := Xc _ (by omega)
  have hd1 := hD.get (f := (k + 1) % t.length) (c := t.length - 1) ⟨hk1, by omega⟩
  have hd2 := hD.get (f := (c + 1) % t.length) (c := t.length - 1) ⟨hc1, by omega⟩
  have b1 := Dn_seg hT (f := (k + 1) % t.length) (m := t.length - 1) (by omega)
  have b2 := Dn_seg hT (f := (c + 1) % t.length) (m := t.length - 1) (by omega)
  have e5 : ∀ k : Nat, ((k : Int) + 1).tmod t.length = (((k + 1) % t.length : Nat) : Int) := fun k => by
   rw [Zk (by omega), Z5]; simp only [Qu, Qw]
  have e6 : (t.length : Int) - 1 = ((t.length - 1 : Nat) : Int) := by omega
  have g4 := k66o t k t.length
  have g5 := k66o t c t.length
  rw [e5, e6] at g4 g5
  have i2 : inI (Dn (seg t ((k + 1) % t.length) (t.length - 1)) + x) := by unfold inI; omega
  have i3 : inI (Dn (seg t ((c + 1) % t.length) (t.length - 1)) + y) := by unfold inI; omega
  have hltc : (c : Int) < t.length := by omega
  rw [hst, ← hc]
  have hm1 := hD.two
  simp only [hlt, hx, i1, sewH, rdV_i, rdV_sl, rdV_mp, rdV_ad, Xn, Xp, vw_mp, ← ht, g4, g5, hd1, hd2, hy, eq86, i2, i3, hltc, ru_skip, ru_reg, ru_any, ru_seq, ru_cnd, ite_P, ru_block, ru_keep, putBs, lkpV, keyL, keyFits, thenQ, blockQ, run_nil, run_cons, Fam.step, stepQ, runX, eff, nextD, fpR, fpQ, fpV, disjB, hits, evO, opv, qv, binV, ldV, iadV, curG, callV, intsOf, hasRef, hasRefL, flat, flatL, kp, upd_some, lkp_cons, lkp_nil, ↓reduceIte, Nat.reduceEqDiff, Nat.reduceAdd, Nat.reduceLT, Nat.reduceLeDiff, Qb, Qc, Q5, Qe, Qh, Qk, Qq, Qp, Ql, Qi, Qn, Qa, Qf, Q1, Qt, Ze, Q7, Zl, vw_i, vw_sl, vw_ad, Q9, beq_self_eq_true, Qj, Qy, Zd, Zq, Qz, Bool.or_true, Zg, Zf, Qd, decide_true, decide_eq_true_eq, true_and, and_true, and_self, forall_const, Zc, Zw, Zj, Zh, Qo, Q2, Qm, Q3, eI, eFig]
  refine ⟨⟨hT, by unfold tame; omega⟩, hm1, ⟨hT, by unfold tame; omega⟩, hm1, fun e => ?_, fun e => ?_⟩
  ·simp only [e, Qu, Qw, ↓reduceIte]
  ·simp only [if_neg e, Qu, Qw]
 ·have hfull : (ringC t).take t.length = ringC t := Xf (by rw [ringC_len]; omega)
  obtain ⟨c, hc⟩ : ∃ c, c = closeN t := ⟨_, rfl⟩
  have hcl : c < t.length := by rw [hc]; exact closeN_lt hT
  have e7 : argL (ringC t) = c := hc.symm
  rw [hfull, e7]
  have hc1 : (c + 1) % t.length < t.length := Xc _ (by omega)
  have hd2 := hD.get (f := (c + 1) % t.length) (c := t.length - 1) ⟨hc1, by omega⟩
  have e5 : ((c : Int) + 1).tmod t.length = (((c + 1) % t.length : Nat) : Int) := by
   rw [Zk (by omega), Z5]; simp only [Qu, Qw]
  have e6 : (t.length : Int) - 1 = ((t.length - 1 : Nat) : Int) := by omega
  have g5 := k66o t c t.length
  rw [e5, e6] at g5
  have hltc : (c : Int) < t.length := by omega
  have hrep : (Zi t.length [V.i 0]).flatten = (Zi t.length (0 : Int)).map V.i := by
   rw [Xe, List.map_replicate]
  have hrest : Dn (seg t ((c + 1) % t.length) (t.length - 1)) = restN t := by rw [hc]; rfl
  have hput : ((Zi t.length (0 : Int)).map V.i).take c ++ [V.i (restN t)] ++ ((Zi t.length (0 : Int)).map V.i).drop (c + 1) = ((Zi t.length (0 : Int)).set c (restN t)).map V.i := by
   have := putAt_set c (.i (restN t)) ((Zi t.length (0 : Int)).map V.i) (by simp; omega)
   rw [List.map_set, ← this]; rfl
  have hm1 := hD.two
  have hin : inI (t.length : Int) := by unfold inI; omega
  have g6 := k68 ⟨t, m, m', (c + 1) % t.length, t.length - 1, (Zi t.length (0 : Int)).set c (restN t)⟩
  simp only [eA68, eH68, sewH, Ql, Qi] at g6
  simp only [Qx, sewH, rdV_i, rdV_sl, rdV_mp, rdV_ad, Xn, Xp, vw_mp, g5, hd2, hrest, hrep, eq86, hltc, Z2, hput, g6, Q2, ru_reg, ru_any, ru_seq, ru_cnd, ru_exit, ru_ret, ru_keep, ru_drp, ru_swp, ru_hca, ↓cut_lkp, ↓ren_lkp, putBs, optL, swH, sw, renV, cutH, lkpV, keyL, keyFits, endO, thenQ, blockQ, run_nil, run_cons, Fam.step, stepQ, stepW, needW, runX, eff, nextD, fpR, fpQ, fpV, disjB, hits, nv, sv, evO, opv, qv, binV, ldV, iadV, curG, callV, putAt, V.cells, solid, cellOk, intsOf, hasRef, hasRefL, flat, flatL, cutV, upd_some, upd_none, lkp_cons, lkp_nil, ↓reduceIte, Nat.reduceEqDiff, Nat.reduceAdd, Nat.reduceLT, Nat.reduceLeDiff, Qb, Qc, Q4, Q5, Qe, Qh, Qk, Qq, Qp, Ql, Qi, Qn, Qa, Qf, Q1, Qt, Ze, Qs, Q0, Q7, Zl, Zr, rvs, rv1, resV, vw_i, vw_sl, vw_ad, Qx, Q9, beq_self_eq_true, Qj, Qy, Zd, Zx, Zq, Qz, Zy, Bool.or_true, Zg, Zf, Qd, decide_false, true_and, and_true, and_self, forall_const, reduceCtorEq, Zc, Z3, Zw, Zj, Zh, Qo, Q2, Qm, Q3, Xy, eFig]
  refine ⟨⟨Xd _, by omega⟩, ⟨hT, by unfold tame; omega⟩, hm1, by omega, ⟨hT, by unfold tame; omega⟩, ⟨hT, hD, hL, hc1, show t.length - 1 < t.length by omega, show t.length - 1 ≤ 100 by omega, show ((Zi t.length (0 : Int)).set c (restN t)).length = t.length by simp⟩, fun r hp' h1 => ?_⟩
  have h1 : hp' = eH68 ⟨t, m, m', (c + 1) % t.length, t.length - 1, planN t⟩ := by unfold planN; rw [← hc]; exact h1
  subst h1
  have hpl : planR f = .tp [.rf 0 0 0 t.length 1, .i 0] := by rw [planR, if_neg (by omega), ht]
  have hph : planH f = [.cells 0 ((planN t).map V.i)] := by rw [planH, if_neg (by omega), ht]
  rw [hpl, hph]
  simp only [eH68, sewH, renL_noref _ _ (nrD _), renL_noref _ _ (nrO _), cutL_noref _ _ _ (nrO _), sw, renV, renL, renB, cutB, ↓reduceIte, Nat.reduceEqDiff, Nat.reduceAdd, Nat.reduceLT, Qb, Qc, Qe, Qh, Qg, Qr, Ql, Qi, Qa, Qf, Qs, Q0, Qj, and_self, reduceCtorEq]
end Go.C02
