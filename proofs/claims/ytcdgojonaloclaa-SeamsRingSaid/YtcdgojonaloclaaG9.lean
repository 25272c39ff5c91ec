import Derived.Test.YtcdgojonaloclaaG8
set_option linter.all false
set_option linter.unusedSimpArgs false
set_option linter.unusedVariables false
namespace Go.C02
open Go.Fam Go.Proofs
def eNE (r : Int × Int) : V := .tp [.i r.1, .i r.2]
theorem W38' (f : Fig) (seam : Int) : f.dome.gores.length < 1000000 → PureCall Try.prog 38 [.ag (eFig f), .i seam] (eNE (meetsR f seam)) := fun h => W38 f seam h
noncomputable def HA1 : Gam := ((((H28.ext 18 (fnG (fun f => [.ag (eFig f)]) decF (fun _ => True) leastR eNE)).ext 22 (fnG (fun f => [.ag (eFig f)]) decF (fun _ => True) closestR eNE)).ext 26 (fnG (fun f => [.ag (eFig f)]) decF (fun _ => True) soonR eNE)).ext 19 (fnG (fun f => [.ag (eFig f)]) decF (fun _ => True) badR eLE)).ext 38 (fnG eFN dFN (fun a => a.1.dome.gores.length < 1000000) (fun a => meetsR a.1 a.2) eNE)
noncomputable def HA2 : Gam := ((((HA1.ext 49 (fnG (fun _ : Unit => []) (fun _ => ()) (fun _ => True) (fun a => a) (fun _ => .ag (eFig exF)))).ext 34 (fnG (fun f => [.ag (eFig f)]) decF (fun f => f.starts.length < 10000000 ∧ f.times.length < 10000000) soonestR eNE)).ext 20 (fnG (fun a : Fig × List Int => [.ag (eFig a.1), .sl 1 (a.2.map eI)]) (fun vs => match vs with | [.ag r, .sl _ k] => (dFig r, k.map dI) | _ => (dFig [], [])) (fun a => (figCheck a.1 = 0 ∧ pitchE a.1.dome true = 0) ∧ a.2.length < 10000000) (fun a => areR a.1 a.2) .b)).ext 27 (fnG (fun a : Fig × List Int => [.ag (eFig a.1), .sl 1 (a.2.map eI)]) (fun vs => match vs with | [.ag r, .sl _ k] => (dFig r, k.map dI) | _ => (dFig [], [])) (fun a => OkT a.1.times ∧ a.2.length < 10000000) (fun a => canSewR a.1.times a.2) .b)).ext 28 (fnG (fun a : Fig × List Int => [.ag (eFig a.1), .sl 1 (a.2.map eI)]) (fun vs => match vs with | [.ag r, .sl _ k] => (dFig r, k.map dI) | _ => (dFig [], [])) (fun a => (a.2.length ≤ a.1.times.length ∧ a.1.times.length < 100000) ∧ (∀ x ∈ a.1.times, tame 1000000 x) ∧ ∀ x ∈ a.2, tame 10000000 x) (fun a => endF a.1.times a.2 a.2.length) .i)
theorem okHA1 : GOk Try.prog HA1 := by
 have k1 := okH28.ext (f := 18) (fun a w => Try.call18 a w) (fnG_ok (e := fun f => [.ag (eFig f)]) (d := decF) (ok := fun _ => True) (g := leastR) (eb := eNE) fun f _ => W18 f)
 have k2 := k1.ext (f := 22) (fun a w => Try.call22 a w) (fnG_ok (e := fun f => [.ag (eFig f)]) (d := decF) (ok := fun _ => True) (g := closestR) (eb := eNE) fun f _ => W22 f)
 have k3 := k2.ext (f := 26) (fun a w => Try.call26 a w) (fnG_ok (e := fun f => [.ag (eFig f)]) (d := decF) (ok := fun _ => True) (g := soonR) (eb := eNE) fun f _ => W26 f)
 have k4 := k3.ext (f := 19) (fun a w => Try.call19 a w) (fnG_ok (e := fun f => [.ag (eFig f)]) (d := decF) (ok := fun _ => True) (g := badR) (eb := eLE) fun f _ => W19 f)
 exact k4.ext (f := 38) (fun a w => Try.call38 a w) (fnG_ok (e := eFN) (d := dFN) (ok := fun a => a.1.dome.gores.length < 1000000) (g := fun a => meetsR a.1 a.2) (eb := eNE) fun a h => W38' a.1 a.2 h)
theorem okHA2 : GOk Try.prog HA2 := by
 have k1 := okHA1.ext (f := 49) (fun a w => Try.call49 a w) (fnG_ok (e := fun _ : Unit => []) (d := fun _ => ()) (ok := fun _ => True) (g := fun a => a) (eb := fun _ => V.ag (eFig exF)) fun _ _ => W49)
 have k2 := k1.ext (f := 34) (fun a w => Try.call34 a w) (fnG_ok (e := fun f => [.ag (eFig f)]) (d := decF) (ok := fun f => f.starts.length < 10000000 ∧ f.times.length < 10000000) (g := soonestR) (eb := eNE) fun f h => W34 f h.1 h.2)
 have k3 := k2.ext (f := 20) (fun a w => Try.call20 a w) (fnG_ok (e := fun a : Fig × List Int => [.ag (eFig a.1), .sl 1 (a.2.map eI)]) (d := fun vs => match vs with | [.ag r, .sl _ k] => (dFig r, k.map dI) | _ => (dFig [], [])) (ok := fun a => (figCheck a.1 = 0 ∧ pitchE a.1.dome true = 0) ∧ a.2.length < 10000000) (g := fun a => areR a.1 a.2) (eb := V.b) fun a h => W20 a.1 a.2 h.1.1 h.1.2 h.2)
 have k4 := k3.ext (f := 27) (fun a w => Try.call27 a w) (fnG_ok (e := fun a : Fig × List Int => [.ag (eFig a.1), .sl 1 (a.2.map eI)]) (d := fun vs => match vs with | [.ag r, .sl _ k] => (dFig r, k.map dI) | _ => (dFig [], [])) (ok := fun a => OkT a.1.times ∧ a.2.length < 10000000) (g := fun a => canSewR a.1.times a.2) (eb := V.b) fun a h => W27 a.1 a.2 h.1 h.2)
 exact k4.ext (f := 28) (fun a w => Try.call28 a w) (fnG_ok (e := fun a : Fig × List Int => [.ag (eFig a.1), .sl 1 (a.2.map eI)]) (d := fun vs => match vs with | [.ag r, .sl _ k] => (dFig r, k.map dI) | _ => (dFig [], [])) (ok := fun a => (a.2.length ≤ a.1.times.length ∧ a.1.times.length < 100000) ∧ (∀ x ∈ a.1.times, tame 1000000 x) ∧ ∀ x ∈ a.2, tame 10000000 x) (g := fun a => endF a.1.times a.2 a.2.length) (eb := V.i) fun a h => W28 a.1 a.2 h.1.1 h.1.2 h.2.1 h.2.2)
section
variable (f : Fig) (l : List Int) (n : Int)
theorem y18 : HA2 18 [.ag (eFig f)] = (True, eNE (leastR f)) := (show HA2 18 _ = fnG (fun f => [.ag (eFig f)]) decF (fun _ => True) leastR eNE [.ag (eFig f)] from rfl).trans (fnG_at _ (dFig_e _))
theorem y22 : HA2 22 [.ag (eFig f)] = (True, eNE (closestR f)) := (show HA2 22 _ = fnG (fun f => [.ag (eFig f)]) decF (fun _ => True) closestR eNE [.ag (eFig f)] from rfl).trans (fnG_at _ (dFig_e _))
theorem y26 : HA2 26 [.ag (eFig f)] = (True, eNE (soonR f)) := (show HA2 26 _ = fnG (fun f => [.ag (eFig f)]) decF (fun _ => True) soonR eNE [.ag (eFig f)] from rfl).trans (fnG_at _ (dFig_e _))
theorem y19 : HA2 19 [.ag (eFig f)] = (True, eLE (badR f)) := (show HA2 19 _ = fnG (fun f => [.ag (eFig f)]) decF (fun _ => True) badR eLE [.ag (eFig f)] from rfl).trans (fnG_at _ (dFig_e _))
theorem y38 : HA2 38 [.ag (eFig f), .i n] = (f.dome.gores.length < 1000000, eNE (meetsR f n)) := (show HA2 38 _ = fnG eFN dFN (fun a => a.1.dome.gores.length < 1000000) (fun a => meetsR a.1 a.2) eNE (eFN (f, n)) from rfl).trans (fnG_at _ (dFN_e _))
theorem y49 : HA2 49 [] = (True, .ag (eFig exF)) := by
 refine (show HA2 49 [] = fnG (fun _ : Unit => []) (fun _ => ()) (fun _ => True) (fun a => a) (fun _ => .ag (eFig exF)) [] from rfl).trans ?_
 simp [fnG]
theorem y32 (k : List Int) : HA2 32 [.sl 1 (l.map eI), .sl 1 (k.map eI)] = (l.length < 10000000, .b (decide (l = k))) := z32 l k
end
theorem W17 : PureCall Try.prog 17 [] (.b true) := by
 refine pure_body okHA2 hmix Try.func17 cb17 cc17 cs17 cn17 ?_
 have g1 := y49
 have g2 := y19 exF
 have g3 := y22 exF
 have g4 := y26 exF
 have g5 := y18 exF2
 have g6 := y32 [0, 3] [0, 3]
 rw [exF_bad] at g2
 rw [exF_closed] at g3
 rw [exF_soon] at g4
 rw [exF_least] at g5
 simp only [eFig, exF, exF2, eLE, eNE, List.map_cons, List.map_nil, eI] at g1 g2 g3 g4 g5 g6
 have hc : chunk 1 (V.i 0 :: V.i 3 :: List.drop 1 (List.drop 1 [[V.i 0], [V.i 0]].flatten)) 0 2 = [[V.i 0], [V.i 3]] := rfl
 simp only [rc17, rs17, g1, g2, g3, g4, g5, hc, g6, ru_reg, ru_seq, ru_ret, ru_keep, putB, thenQ, run_nil, run_cons, Fam.step, stepQ, stepW, needQ, needW, condB, ug, putB, nv, sv, evO, opv, qv, pickV_bb, binV, ldV, curG, callV, foldParts, putAt, partsOk, partsOne, V.cells, solid, cellOk, hasRef, hasRefL, flat, flatL, upd_some, upd_none, lkp_cons, lkp_nil, ↓reduceIte, Nat.reduceEqDiff, Nat.reduceAdd, Nat.reduceMul, Nat.reduceLT, Nat.reduceLeDiff, List.map_cons, List.map_nil, List.all_cons, List.all_nil, List.length_cons, List.length_nil, List.drop_succ_cons, List.drop_zero, List.drop_nil, List.take_succ_cons, List.take_zero, List.take_nil, List.cons_append, List.nil_append, List.append_nil, List.getElem?_cons_zero, List.getElem?_cons_succ, Option.getD_some, List.set_cons_zero, List.replicate_zero, List.replicate_succ, endQ, rvs, rv1, resV, vw_i, vw_b, vw_sl, vw_ag, zipA, beq_self_eq_true, Nat.zero_add, Bool.and_self, Bool.and_true, Bool.and_false, Bool.or_false, Bool.false_eq_true, Bool.true_eq_false, decide_true, and_self, forall_const, implies_true, reduceCtorEq, not_false_eq_true, ne_eq, imp_self]
noncomputable def HB : Gam := HA2.ext 17 (fnG (fun _ : Unit => []) (fun _ => ()) (fun _ => True) (fun a => a) (fun _ => .b true))
theorem okHB : GOk Try.prog HB := okHA2.ext (f := 17) (fun a w => Try.call17 a w) (fnG_ok (e := fun _ : Unit => []) (d := fun _ => ()) (ok := fun _ => True) (g := fun a => a) (eb := fun _ => V.b true) fun _ _ => W17)
theorem b17 : HB 17 [] = (True, .b true) := by
 refine (show HB 17 [] = fnG (fun _ : Unit => []) (fun _ => ()) (fun _ => True) (fun a => a) (fun _ => .b true) [] from rfl).trans ?_
 simp [fnG]
end Go.C02
