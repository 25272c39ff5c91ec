import Derived.Test.YtgcinomjcgebhaaC02O
import Derived.Test.YtgcinomjcgebhaaFamE
set_option linter.all false
set_option linter.unusedSimpArgs false
set_option linter.unusedVariables false
namespace Go.C02
open Go.Fam Go.Proofs
theorem eqSpan : EqFlat Try.prog 34 2 := EqFlat.of (fs := _) (show Try.prog.underlying 34 = some (.struct (Try.prog.fieldsOf 34)) by kernel_rfl) (by kernel_rfl) (by kernel_rfl)
theorem eqStripT : EqFlat Try.prog 52 3 := EqFlat.of (fs := _) (show Try.prog.underlying 52 = some (.struct (Try.prog.fieldsOf 52)) by kernel_rfl) (by kernel_rfl) (by kernel_rfl)
/-- what Copy gives, as memory of its own -/
def copyCs (d : Dome) : List V := [.rf 2 1 0 d.bolts.length 4, .rf 3 1 0 d.gores.length 1, .i d.loss, .rf 5 1 0 d.rounds.length 2, .rf 7 1 0 d.widths.length 1, .i d.slope]
def copyHp (d : Dome) : List Blk :=
  [.cells 0 (copyCs d), .cells 0 (copyCs d), .cells 1 (d.bolts.map eBolt).flatten, .cells 1 (d.gores.map eI).flatten, .hole, .cells 1 (d.rounds.map eSpan).flatten, .hole, .cells 1 (d.widths.map eI).flatten, .hole]
def copyV (d : Dome) : V := .ag (copyCs d)
structure Ok22 (d : Dome) : Prop where
  b : d.bolts.length < 1000000
  g : d.gores.length < 1000000
  r : d.rounds.length < 1000000
  w : d.widths.length < 1000000
  s : ∀ b ∈ d.bolts, b.strips.length < 1000000
theorem O22 (d : Dome) (h : Ok22 d) : OwnCall Try.prog 22 [.ag (eDome d)] (copyV d) (copyHp d) := by
  refine own_body okP hmix Try.func22 cb22 cc22 cs22 cn22 ?_
  simp only [rc22, rs22, List.flatten_nil, ru_reg, ru_seq, ru_block, ru_keep, putB, thenQ, run_nil, run_cons, Fam.step, stepQ, stepW, needW, putB, nv, sv, newsV, evO, opv, qv, pickV, ldV, curG, foldParts, putAt, partsOk, partsOne, V.cells, solid, cellOk, hasRef, hasRefL, upd_some, upd_none, lkp_cons, lkp_nil, ↓reduceIte, Nat.reduceEqDiff, Nat.reduceAdd, Nat.reduceMul, Nat.reduceLeDiff, List.map_cons, List.map_nil, List.all_cons, List.all_nil, List.length_cons, List.length_nil, List.drop_succ_cons, List.drop_zero, List.drop_nil, List.take_succ_cons, List.take_zero, List.take_nil, List.headD_cons, List.cons_append, List.nil_append, List.append_nil, List.getElem?_cons_zero, List.getElem?_cons_succ, List.set_cons_zero, List.set_cons_succ, List.replicate_zero, vw_i, vw_sl, vw_ag, zipA, beq_self_eq_true, Nat.zero_add, Nat.add_zero, Bool.and_self, Bool.or_false, Bool.false_eq_true, true_and, and_self, List.length_map, eDome]
  have hb := h.b
  have hg := h.g
  have hr := h.r
  have hw := h.w
  refine ⟨by unfold fitsLen; omega, ?_⟩
  refine ru_count d.bolts.length (fun i => ⟨lkp [(1, .pa (eDome d)), (2, .ad 0 0 0), (3, .ad 1 0 0), (4, .i i)], [.cells 0 [.z 4, .z 1, .i 0, .z 2, .z 1, .i 0], .cells 0 [.rf 2 1 0 d.bolts.length 4, .sl 1 (d.gores.map eI), .i d.loss, .sl 2 (d.rounds.map eSpan), .sl 1 (d.widths.map eI), .i d.slope], .cells 1 (d.bolts.map eBolt).flatten]⟩) ?_ ?_ ?_
  · simp only [Int.natCast_zero, cutL_noref _ _ _ (hasRefL_flat (e := eBolt) (fun _ => rfl) d.bolts), cutH, kp, cutV, cutL, cutB, lkp_cons, lkp_nil, ↓reduceIte, Nat.reduceEqDiff, Nat.reduceLT, List.map_cons, List.map_nil, List.take_succ_cons, List.take_nil, eDome]
  · intro i hi
    obtain ⟨x, hx⟩ : ∃ x, d.bolts[i]? = some x := ⟨_, List.getElem?_eq_getElem hi⟩
    have hlt : (i : Int) < d.bolts.length := by omega
    have h3 : inI ((i : Int) + 1) := by unfold inI; omega
    have hfl := flat_len (e := eBolt) (k := 4) (fun _ => rfl) d.bolts
    have hst : fitsLen x.strips.length := by have := h.s x (List.mem_of_getElem? hx); unfold fitsLen; omega
    have hoff : i * 4 + 2 + 1 ≤ d.bolts.length * 4 := by omega
    have hnr := hasRefL_flat (e := eBolt) (fun _ => rfl) d.bolts
    have hns := hasRefL_flat (e := eStrip) (fun _ => rfl) x.strips
    have hsl := flat_len (e := eStrip) (k := 3) (fun _ => rfl) x.strips
    have hvw : ∀ hp, (x.strips.map eStrip).map (fun r => r.map (vw hp 7)) = x.strips.map eStrip := fun hp => map_vw_rows (e := eStrip) hp 7 (fun _ => rfl) _
    have hput : List.take (i * 4 + 2) (d.bolts.map eBolt).flatten ++ [V.sl 3 (x.strips.map eStrip)] ++ List.drop (i * 4 + 2 + 1) (d.bolts.map eBolt).flatten = (d.bolts.map eBolt).flatten :=
      put_same (flat_get (k := 4) (fun _ => rfl) d.bolts i 2 x hx (by decide))
    simp only [hx, hlt, Int.natCast_add, Int.natCast_one, h3, List.flatten_nil, hfl, hst, hoff, cutL_append, cutL_noref _ _ _ (hasRefL_take _ _ hnr), cutL_noref _ _ _ (hasRefL_drop _ _ hnr), cutL_noref _ _ _ hnr, hpF, upB, upL_noref _ _ hns, chunk_flat (e := eStrip) (k := 3) (fun _ => rfl), hsl, hvw, Nat.le_refl, hput, ru_skip, ru_reg, ru_any, ru_seq, ru_cond, ru_block, ru_exit, ru_ret, ru_keep, ru_drp, ↓cut_lkp, cutH, putB, endO, thenQ, blockQ, run_nil, run_cons, Fam.step, stepQ, stepW, needW, runX, eff, nextD, fpR, fpQ, fpV, disjB, hits, putB, nv, sv, newsV, evO, opv, qv, pickV, binV, ldV, iadV, lenV, curG, foldParts, putAt, partsOk, partsOne, V.cells, solid, cellOk, kp, cutV, cutL, cutB, upd_some, upd_none, lkp_cons, lkp_nil, ↓reduceIte, Nat.reduceEqDiff, Nat.reduceAdd, Nat.reduceMul, Nat.reduceLT, Nat.reduceLeDiff, Nat.reduceBEq, List.map_cons, List.map_nil, List.all_cons, List.all_nil, List.length_cons, List.length_nil, List.drop_succ_cons, List.drop_zero, List.drop_nil, List.take_succ_cons, List.take_zero, List.take_nil, List.headD_cons, List.cons_append, List.nil_append, List.append_nil, List.getElem?_cons_zero, List.getElem?_cons_succ, List.getElem?_nil, Option.getD_some, Option.getD_none, List.set_cons_zero, List.set_cons_succ, List.replicate_zero, List.replicate_succ, List.isEmpty_nil, List.isEmpty_cons, rvs, rv1, resV, vw_rf, Int.natCast_nonneg, beq_self_eq_true, Nat.zero_add, Nat.add_zero, Bool.and_self, Bool.and_true, Bool.true_and, Bool.false_and, Bool.and_false, Bool.or_false, Bool.false_or, Bool.not_true, Bool.not_false, Bool.false_eq_true, Bool.true_eq_false, decide_true, true_and, and_self, false_and, forall_const, false_implies, reduceCtorEq, Option.map_some, List.any_cons, List.any_nil, List.contains_cons, List.contains_nil, List.length_map, Int.toNat_natCast, List.getD_eq_getElem?_getD, List.getElem?_map, eBolt, eDome]
  · simp only [List.flatten_nil, Nat.le_refl, copyV, copyHp, copyCs, ru_skip, ru_reg, ru_any, ru_seq, ru_cond, ru_block, ru_exit, ru_ret, ru_keep, ru_drp, ↓cut_lkp, cutH, putB, endO, thenQ, blockQ, run_nil, run_cons, Fam.step, stepQ, stepW, needW, runX, eff, nextD, fpR, fpQ, fpV, disjB, hits, putB, nv, sv, newsV, evO, opv, qv, pickV, binV, ldV, iadV, lenV, curG, foldParts, putAt, partsOk, partsOne, V.cells, solid, cellOk, cutV, upd_some, upd_none, lkp_cons, lkp_nil, ↓reduceIte, Nat.reduceEqDiff, Nat.reduceAdd, Nat.reduceMul, Nat.reduceLT, Nat.reduceLeDiff, Nat.reduceBEq, List.map_cons, List.map_nil, List.all_cons, List.all_nil, List.length_cons, List.length_nil, List.drop_succ_cons, List.drop_zero, List.drop_nil, List.take_succ_cons, List.take_zero, List.take_nil, List.headD_cons, List.cons_append, List.nil_append, List.append_nil, List.getElem?_cons_zero, List.getElem?_cons_succ, List.getElem?_nil, Option.getD_some, Option.getD_none, List.set_cons_zero, List.set_cons_succ, List.replicate_zero, List.replicate_succ, List.isEmpty_nil, List.isEmpty_cons, rvs, rv1, resV, vw_rf, Int.lt_irrefl, Int.natCast_nonneg, beq_self_eq_true, Nat.zero_add, Nat.add_zero, Bool.and_self, Bool.and_true, Bool.true_and, Bool.false_and, Bool.and_false, Bool.or_false, Bool.false_or, Bool.not_true, Bool.not_false, Bool.false_eq_true, decide_false, true_and, and_true, and_self, and_false, forall_const, List.any_cons, List.any_nil, List.contains_cons, List.contains_nil, imp_self, List.length_map, Int.toNat_natCast, List.getD_eq_getElem?_getD, List.getElem?_map, eDome]
    unfold fitsLen
    omega
theorem P22' (d : Dome) (h : Ok22 d) : PureCall Try.prog 22 [.ag (eDome d)] (.ag (eDome d)) := P22 d ⟨h.b, h.g, h.r, h.w, h.s⟩
def r22 : List V → Prop × V := fnG (fun d => [.ag (eDome d)]) dD Ok22 (fun d => d) (fun d => .ag (eDome d))
def r22o : List V → Prop × V := fnG (fun d => [.ag (eDome d)]) dD Ok22 (fun d => d) (fun d => .tp [copyV d, .tp ((copyHp d).map bV)])
theorem hole_vB : vB .u = .hole := rfl
theorem copy_vB (d : Dome) : ((copyHp d).map bV).map vB = copyHp d := by simp [copyHp, copyCs, bV, vB]
noncomputable def GQ : Gam := (GP.ext 22 r22).ext 1000022 r22o
theorem okQ : GOk Try.prog GQ := by
  have k1 := okP.ext (f := 22) (r := r22) (fun a w => Try.call22 a w) (fnG_ok fun d h => P22' d h)
  refine k1.extO (f := 22) (r := r22o) (fun a w => Try.call22 a w) fun vs r' bs h1 h2 => ?_
  simp only [r22o, fnG, V.tp.injEq, List.cons.injEq, and_true] at h1 h2
  obtain ⟨rfl, rfl⟩ := h2
  rw [← h1.1, copy_vB]
  simp only [dD, dDome_e]
  rw [← h1.1] at h1
  simp only [dD, dDome_e] at h1
  exact O22 _ h1.2
end Go.C02
