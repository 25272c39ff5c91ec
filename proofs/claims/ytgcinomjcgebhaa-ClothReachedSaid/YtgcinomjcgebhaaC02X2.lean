import Derived.Test.YtgcinomjcgebhaaC02X
set_option linter.all false
set_option linter.unusedSimpArgs false
set_option linter.unusedVariables false
namespace Go.C02
open Go.Fam Go.Proofs
def eDL (a : Dome × List Int) : List V := [.ag (eDome a.1), .sl 1 (a.2.map eI)]
def dDL : List V → Dome × List Int | [.ag cs, .sl _ l] => (dDome cs, l.map dI) | _ => (D0, [])
theorem dDL_e (a : Dome × List Int) : dDL (eDL a) = a := by simp [dDL, eDL, dDome_e, Function.comp_def, dI_eI]
def r35 : List V → Prop × V := fnG eDL dDL (fun a => Valid a.1) (fun a => isTruth a.1 a.2) .b
noncomputable def GU : Gam := GU1.ext 35 r35
theorem okU : GOk Try.prog GU := okU1.ext (f := 35) (r := r35) (fun a w => Try.call35 a w) (fnG_ok fun a h => P35 a.1 a.2 h)
section
variable (b : List Bolt) (g : List Int) (l : Int) (r : List Span) (w : List Int) (s n m : Int) (x : List Int)
theorem gU35 : GU 35 [.ag [.sl 4 (b.map eBolt), .sl 1 (g.map eI), .i l, .sl 2 (r.map eSpan), .sl 1 (w.map eI), .i s], .sl 1 (x.map eI)] = (Valid ⟨b, g, l, r, w, s⟩, .b (isTruth ⟨b, g, l, r, w, s⟩ x)) :=
  (show GU 35 _ = r35 (eDL (⟨b, g, l, r, w, s⟩, x)) from rfl).trans (fnG_at _ (dDL_e _))
theorem gU38 : GU 38 [.ag [.sl 4 (b.map eBolt), .sl 1 (g.map eI), .i l, .sl 2 (r.map eSpan), .sl 1 (w.map eI), .i s], .i n, .sl 1 (x.map eI)] = (ok38 (⟨b, g, l, r, w, s⟩, n, x), .i (roundBy ⟨b, g, l, r, w, s⟩ n x)) :=
  (show GU 38 _ = r38 (eDWL (⟨b, g, l, r, w, s⟩, n, x)) from rfl).trans (fnG_at _ (dDWL_e _))
theorem gU15 : GU 15 [.ag [.sl 4 (b.map eBolt), .sl 1 (g.map eI), .i l, .sl 2 (r.map eSpan), .sl 1 (w.map eI), .i s], .i n] = (True, .b (ready ⟨b, g, l, r, w, s⟩ n)) := gT15 b g l r w s n
theorem gU17 : GU 17 [.ag [.sl 4 (b.map eBolt), .sl 1 (g.map eI), .i l, .sl 2 (r.map eSpan), .sl 1 (w.map eI), .i s], .i n] = (r.length < 1000, eNE (tightR ⟨b, g, l, r, w, s⟩ n)) := gR17 b g l r w s n
theorem gU23 : GU 23 [.ag [.sl 4 (b.map eBolt), .sl 1 (g.map eI), .i l, .sl 2 (r.map eSpan), .sl 1 (w.map eI), .i s], .i n] = (r.length < 1000, eSE (roundR ⟨b, g, l, r, w, s⟩ n)) := gR23 b g l r w s n
theorem gU36 : GU 36 [.ag [.sl 4 (b.map eBolt), .sl 1 (g.map eI), .i l, .sl 2 (r.map eSpan), .sl 1 (w.map eI), .i s], .i n] = (b.length < 1000, eLE (stretchesR ⟨b, g, l, r, w, s⟩ n)) := gR36 b g l r w s n
theorem gU26 : GU 26 [.ag [.sl 4 (b.map eBolt), .sl 1 (g.map eI), .i l, .sl 2 (r.map eSpan), .sl 1 (w.map eI), .i s]] = (True, eLE (looseR ⟨b, g, l, r, w, s⟩)) := gR26 b g l r w s
theorem gU20 : GU 20 [.ag [.i n, .i m], .i s] = (True, .b (within s n m)) := gR20 n m s
theorem gU37 : GU 37 [.sl 1 (x.map eI), .i n] = (x.length < 10000000, .b (decide (n ∈ x))) := gR37 x n
end
theorem gU16 : GU 16 [] = (True, .b true) := gS16

/-! Truths. -/
theorem truth_of {d : Dome} {l : List Int} (h : isTruth d l = true) : l.length = d.bolts.length ∧ ∀ i, i < l.length → ∃ b x, d.bolts[i]? = some b ∧ l[i]? = some x ∧ can b x = true := by
  simp only [isTruth, Bool.and_eq_true, decide_eq_true_eq, List.all_eq_true, List.mem_range] at h
  refine ⟨h.1, fun i hi => ?_⟩
  obtain ⟨x, hx⟩ : ∃ x, l[i]? = some x := ⟨_, List.getElem?_eq_getElem hi⟩
  obtain ⟨b, hb⟩ : ∃ b, d.bolts[i]? = some b := ⟨_, List.getElem?_eq_getElem (by omega)⟩
  have := h.2 i hi
  rw [hx, show boltAt d (i : Nat) = b by simp [boltAt, hb]] at this
  exact ⟨b, x, hb, hx, this⟩
theorem truth_good {d : Dome} (hc : check d = 0) {l : List Int} (h : isTruth d l = true) : Good d := by
  obtain ⟨h1, h2⟩ := truth_of h
  refine ⟨valid_of hc, hc, fun b hb he => ?_⟩
  obtain ⟨i, hi⟩ := List.getElem?_of_mem hb
  have hil := getElemLt hi
  obtain ⟨b', x, hb', hx, hcan⟩ := h2 i (by omega)
  rw [hi] at hb'
  cases hb'
  have := mem_numbersOf.2 hcan
  rw [he] at this
  cases this
theorem truth_ok38 {d : Dome} (hv : Valid d) {l : List Int} (h : isTruth d l = true) {w : Int} (hw : 0 ≤ w ∧ w ≤ 2000) : ok38 (d, w, l) := by
  obtain ⟨h1, h2⟩ := truth_of h
  have hloss := hv.loss
  have hng := hv.ng
  refine ⟨show tame 100000 w by unfold tame; omega, show tame 100000 d.loss by unfold tame; omega, fun g hg => ?_, fun s hs => ?_, show d.gores.length < 100000 by omega⟩
  · have := hv.gores g hg; show 0 ≤ g ∧ g < l.length; omega
  · obtain ⟨i, hi⟩ := List.getElem?_of_mem hs
    obtain ⟨b, x, hb, hx, hcan⟩ := h2 i (getElemLt hi)
    rw [hi] at hx; cases hx
    have := numbersOf_range (hv.bolts b (List.mem_of_getElem? hb)) (mem_numbersOf.2 hcan)
    unfold tame; omega
/-- what a truth chooses -/
def pick (l : List Int) (g : Int) : Int := l[g.toNat]?.getD 0
theorem truth_can {d : Dome} (hv : Valid d) {l : List Int} (h : isTruth d l = true) {g : Int} (hg : g ∈ d.gores) : pick l g ∈ canAt (tentOf d) g := by
  obtain ⟨h1, h2⟩ := truth_of h
  have hgg := hv.gores g hg
  obtain ⟨b, x, hb, hx, hcan⟩ := h2 g.toNat (by omega)
  have : canAt (tentOf d) g = numbersOf b := by simp [canAt, tentOf, cansOf, hb]
  rw [this, pick, hx]
  exact mem_numbersOf.2 hcan
theorem canAt_bounds {d : Dome} (h : Good d) {g s : Int} (hg : g ∈ d.gores) (hs : s ∈ canAt (tentOf d) g) : lowOf (tentOf d) g ≤ s ∧ s ≤ highOf (tentOf d) g := by
  have hgg := h.v.gores g hg
  obtain ⟨b, hb⟩ : ∃ b, d.bolts[g.toNat]? = some b := ⟨_, List.getElem?_eq_getElem (by omega)⟩
  have hc : (tentOf d).can[g.toNat]? = some (numbersOf b) := by simp [tentOf, cansOf, hb]
  simp only [canAt, lowOf, highOf, hc, Option.getD_some] at hs ⊢
  exact sorted_bounds ((ints_sorted _ _).filter _) hs
theorem pull_mono_s {a s t : Int} (h : 0 ≤ a) (hs : 0 ≤ s) (hst : s ≤ t) : pull a s ≤ pull a t := by
  have h1 : a * (1000 + s) ≤ a * (1000 + t) := Int.mul_le_mul_of_nonneg_left (by omega) h
  have h2 : 0 ≤ a * (1000 + s) := Int.mul_nonneg h (by omega)
  unfold pull
  rw [Int.tdiv_eq_ediv_of_nonneg h2, Int.tdiv_eq_ediv_of_nonneg (Int.le_trans h2 h1)]
  exact Int.ediv_le_ediv (by decide) h1
theorem sums_bounds {d : Dome} (h : Good d) {w x : Int} (hw : 2 * d.loss ≤ w) (hx : inSums (tentOf d) w x) : (roundOf (tentOf d) w).low ≤ x ∧ x ≤ (roundOf (tentOf d) w).high := by
  obtain ⟨c, hc, rfl⟩ := hx
  have hw' : 0 ≤ w - 2 * (tentOf d).dome.loss := by show 0 ≤ w - 2 * d.loss; omega
  refine ⟨sumBy_mono fun g hg => ?_, sumBy_mono fun g hg => ?_⟩
  · have := canAt_bounds h hg (hc g hg)
    have := canTent_low h hg
    exact pull_mono_s hw' this.1 (by omega)
  · have := canAt_bounds h hg (hc g hg)
    have := canTent_low h hg
    exact pull_mono_s hw' (by omega) (by omega)
theorem truth_sums {d : Dome} (hv : Valid d) {l : List Int} (h : isTruth d l = true) (w : Int) : inSums (tentOf d) w (roundBy d w l) :=
  ⟨pick l, fun g hg => truth_can hv h hg, rfl⟩
theorem tight_two {t : Tent} {row w : Int} (h : tightOf t row w = 2) {x : Int} (hx : inSums t w x) : within x (wantAt t.dome row).low (wantAt t.dome row).high = false := by
  unfold tightOf at h
  split at h
  · omega
  · split at h
    · omega
    · rename_i hn
      cases hc : within x (wantAt t.dome row).low (wantAt t.dome row).high
      · rfl
      · exact absurd ⟨x, hx, hc⟩ hn
theorem tight_vals (t : Tent) (row w : Int) : tightOf t row w = 1 ∨ tightOf t row w = 2 ∨ tightOf t row w = 3 := by
  unfold tightOf
  split
  · exact .inl rfl
  · split
    · exact .inr (.inr rfl)
    · exact .inr (.inl rfl)
theorem mem_loose {d : Dome} (hv : Valid d) {row : Int} (hr : isRow d row = true) : row ∈ looseTo d d.widths.length ↔ tightOf (tentOf d) row (widthAt d row) ≠ 1 := by
  obtain ⟨k1, k2, k3, _⟩ := row_of hv hr
  unfold looseTo
  have ht : (ints 0 ((d.widths.length : Int) - 1)).take d.widths.length = ints 0 ((d.widths.length : Int) - 1) := List.take_of_length_le (by rw [ints_len]; omega)
  rw [ht]
  simp only [List.mem_filter, mem_ints, decide_eq_true_eq]
  constructor
  · exact fun h => h.2
  · intro h
    exact ⟨by omega, h⟩
set_option maxHeartbeats 4000000 in
theorem P7 (d : Dome) (l : List Int) (row : Int) : PureCall Try.prog 7 [.ag (eDome d), .sl 1 (l.map eI), .i row] (.b true) := by
  refine pure_body okU hmix Try.func7 cb7 cc7 cs7 cn7 ?_
  by_cases hr : ready d row = true
  · obtain ⟨hv, hc, hir, r1, r2⟩ := ready_of hr
    by_cases ht : isTruth d l = true
    · have hg := truth_good hc ht
      obtain ⟨t1, t2⟩ := truth_of ht
      obtain ⟨k1, k2, k3, k4, k5, k6⟩ := row_of hv hir
      have hnb := hv.nb
      have hnr := hv.nr
      have hloss := hv.loss
      have hp : pitchE d true = 0 := hg.pitch true
      simp only [rc7, rs7, gU15, gU35, gU16, hr, hv, ht, ru_skip, ru_reg, ru_any, ru_seq, ru_cond, ru_block, ru_exit, ru_ret, ru_keep, ru_drp, ru_own, ru_ownc, ru_swp, ru_nxt, ru_yrg, ru_crl, chunk1, ↓cut_lkp, ↓ren_lkp, rnQ, rndQ, updL, sfree, yres, slots, ghO, stepO, ocV, rflat, rflatL, rflatB, shV, shL, shB, vB_cells, vB_map, swH, sw, renV, renL, renB, cutH, putB, lkpV, keyL, entV, mlenV, keyV, keyFits, endO, endK, endI, thenQ, blockQ, run_nil, run_cons, step_q, Fam.step, stepQ, stepW, needQ, needW, condB, ug, runX, eff_q, eff, nextD, fpR, fpQ, fpV, disjB, hits, putB, nv, sv, newsV, evO, opv, qv, pickV, binV, ldV, iadV, lenV, curG, slcV, intOr, callV, foldParts, putAt, partsOk, partsOne, V.cells, solid, cellOk, intsOf, hasRef, hasRefL, flat, flatL, kp, cutV, cutL, cutB, upd_some, upd_none, lkp_cons, lkp_nil, ↓reduceIte, Nat.reduceEqDiff, Nat.reduceAdd, Nat.reduceSub, Nat.reduceMul, Nat.reduceLT, Nat.reduceLeDiff, Nat.reduceBEq, Int.reduceNeg, Int.reduceToNat, Int.add_sub_cancel, Int.toNat_zero, Int.reduceLT, Int.reduceLE, Int.reduceAdd, Int.reduceSub, Int.reduceMul, Int.reduceEq, List.map_cons, List.map_nil, List.all_cons, List.all_nil, List.length_cons, List.length_nil, List.drop_succ_cons, List.drop_zero, List.drop_nil, List.take_succ_cons, List.take_zero, List.take_nil, List.headD_cons, List.headD_nil, List.cons_append, List.nil_append, List.append_nil, List.getElem?_cons_zero, List.getElem?_cons_succ, List.getElem?_nil, Option.getD_some, Option.getD_none, List.set_cons_zero, List.set_cons_succ, List.set_nil, List.replicate_zero, List.replicate_succ, List.getD_cons_zero, List.getD_cons_succ, List.isEmpty_nil, List.isEmpty_cons, endQ, rvs, rv1, resV, vw_i, vw_b, vw_u, vw_pn, vw_z, vw_sl, vw_pa, vw_ag, vw_tp, vw_fn, vw_ad, vw_rf, zipA, Int.lt_irrefl, Int.natCast_nonneg, beq_self_eq_true, Nat.zero_add, Nat.add_zero, Option.some.injEq, V.i.injEq, V.b.injEq, Bool.and_self, Bool.and_true, Bool.true_and, Bool.false_and, Bool.and_false, Bool.or_false, Bool.false_or, Bool.or_true, Bool.true_or, Bool.not_true, Bool.not_false, Bool.false_eq_true, Bool.true_eq_false, decide_true, decide_false, decide_eq_true_eq, decide_eq_false_iff_not, true_and, and_true, and_self, false_and, and_false, forall_const, false_implies, true_implies, implies_true, reduceCtorEq, ite_true, ite_false, not_true_eq_false, not_false_eq_true, ne_eq, Option.map_some, Option.map_none, List.any_cons, List.any_nil, List.contains_cons, List.contains_nil, beq_true, beq_false, Bool.not_not, Bool.not_eq_false', Bool.not_eq_true', ite_f, ite_t, Bool.decide_eq_true, Bool.decide_eq_false, imp_self, List.length_map, Int.toNat_natCast, List.getD_eq_getElem?_getD, List.getElem?_map, Bool.not_eq_true, List.length_replicate, spanE, boltE, stripE, domeE, tentE, eSpan, eStrip, eBolt, eDome, eI, eIs, eCan, eTent]
      refine ru_count l.length (fun i => ⟨lkp [(1, .sl 1 (l.map eI)), (2, .i row), (3, .pa (eDome d)), (7, .i i)], []⟩) ?_ ?_ ?_
      · simp only [Int.natCast_zero, ru_skip, ru_reg, ru_any, ru_seq, ru_cond, ru_block, ru_exit, ru_ret, ru_keep, ru_drp, ru_own, ru_ownc, ru_swp, ru_nxt, ru_yrg, ru_crl, chunk1, ↓cut_lkp, ↓ren_lkp, rnQ, rndQ, updL, sfree, yres, slots, ghO, stepO, ocV, rflat, rflatL, rflatB, shV, shL, shB, vB_cells, vB_map, swH, sw, renV, renL, renB, cutH, putB, lkpV, keyL, entV, mlenV, keyV, keyFits, endO, endK, endI, thenQ, blockQ, run_nil, run_cons, step_q, Fam.step, stepQ, stepW, needQ, needW, condB, ug, runX, eff_q, eff, nextD, fpR, fpQ, fpV, disjB, hits, putB, nv, sv, newsV, evO, opv, qv, pickV, binV, ldV, iadV, lenV, curG, slcV, intOr, callV, foldParts, putAt, partsOk, partsOne, V.cells, solid, cellOk, intsOf, hasRef, hasRefL, flat, flatL, kp, cutV, cutL, cutB, upd_some, upd_none, lkp_cons, lkp_nil, ↓reduceIte, Nat.reduceEqDiff, Nat.reduceAdd, Nat.reduceSub, Nat.reduceMul, Nat.reduceLT, Nat.reduceLeDiff, Nat.reduceBEq, Int.reduceNeg, Int.reduceToNat, Int.add_sub_cancel, Int.toNat_zero, Int.reduceLT, Int.reduceLE, Int.reduceAdd, Int.reduceSub, Int.reduceMul, Int.reduceEq, List.map_cons, List.map_nil, List.all_cons, List.all_nil, List.length_cons, List.length_nil, List.drop_succ_cons, List.drop_zero, List.drop_nil, List.take_succ_cons, List.take_zero, List.take_nil, List.headD_cons, List.headD_nil, List.cons_append, List.nil_append, List.append_nil, List.getElem?_cons_zero, List.getElem?_cons_succ, List.getElem?_nil, Option.getD_some, Option.getD_none, List.set_cons_zero, List.set_cons_succ, List.set_nil, List.replicate_zero, List.replicate_succ, List.getD_cons_zero, List.getD_cons_succ, List.isEmpty_nil, List.isEmpty_cons, endQ, rvs, rv1, resV, vw_i, vw_b, vw_u, vw_pn, vw_z, vw_sl, vw_pa, vw_ag, vw_tp, vw_fn, vw_ad, vw_rf, zipA, Int.lt_irrefl, Int.natCast_nonneg, beq_self_eq_true, Nat.zero_add, Nat.add_zero, Option.some.injEq, V.i.injEq, V.b.injEq, Bool.and_self, Bool.and_true, Bool.true_and, Bool.false_and, Bool.and_false, Bool.or_false, Bool.false_or, Bool.or_true, Bool.true_or, Bool.not_true, Bool.not_false, Bool.false_eq_true, Bool.true_eq_false, decide_true, decide_false, decide_eq_true_eq, decide_eq_false_iff_not, true_and, and_true, and_self, false_and, and_false, forall_const, false_implies, true_implies, implies_true, reduceCtorEq, ite_true, ite_false, not_true_eq_false, not_false_eq_true, ne_eq, Option.map_some, Option.map_none, List.any_cons, List.any_nil, List.contains_cons, List.contains_nil, beq_true, beq_false, Bool.not_not, Bool.not_eq_false', Bool.not_eq_true', ite_f, ite_t, Bool.decide_eq_true, Bool.decide_eq_false, imp_self, List.length_map, Int.toNat_natCast, List.getD_eq_getElem?_getD, List.getElem?_map, Bool.not_eq_true, List.length_replicate, spanE, boltE, stripE, domeE, tentE, eSpan, eStrip, eBolt, eDome, eI, eIs, eCan, eTent]
      · intro i hi
        obtain ⟨b, x, hb, hx, hcan⟩ := t2 i hi
        have hlt : (i : Int) < l.length := by omega
        have hib : isBoltOf d i = true := by simp only [isBoltOf, within, Bool.and_eq_true, decide_eq_true_eq]; omega
        have e1 : stretchesR d i = (numbersOf b, 0) := by
          unfold stretchesR
          rw [hib, if_pos hp]
          simp [boltAt, hb]
        have hmem : x ∈ numbersOf b := mem_numbersOf.2 hcan
        have hlen := numbersOf_len (hv.bolts b (List.mem_of_getElem? hb))
        have hlen2 : (numbersOf b).length < 10000000 := by omega
        have hbl : d.bolts.length < 1000 := by omega
        have h3 : inI ((i : Int) + 1) := by unfold inI; omega
        simp only [hlt, gU36, hbl, e1, eLE, hx, gU37, hlen2, hmem, h3, Int.natCast_add, Int.natCast_one, ru_skip, ru_reg, ru_any, ru_seq, ru_cond, ru_block, ru_exit, ru_ret, ru_keep, ru_drp, ru_own, ru_ownc, ru_swp, ru_nxt, ru_yrg, ru_crl, chunk1, ↓cut_lkp, ↓ren_lkp, rnQ, rndQ, updL, sfree, yres, slots, ghO, stepO, ocV, rflat, rflatL, rflatB, shV, shL, shB, vB_cells, vB_map, swH, sw, renV, renL, renB, cutH, putB, lkpV, keyL, entV, mlenV, keyV, keyFits, endO, endK, endI, thenQ, blockQ, run_nil, run_cons, step_q, Fam.step, stepQ, stepW, needQ, needW, condB, ug, runX, eff_q, eff, nextD, fpR, fpQ, fpV, disjB, hits, putB, nv, sv, newsV, evO, opv, qv, pickV, binV, ldV, iadV, lenV, curG, slcV, intOr, callV, foldParts, putAt, partsOk, partsOne, V.cells, solid, cellOk, intsOf, hasRef, hasRefL, flat, flatL, kp, cutV, cutL, cutB, upd_some, upd_none, lkp_cons, lkp_nil, ↓reduceIte, Nat.reduceEqDiff, Nat.reduceAdd, Nat.reduceSub, Nat.reduceMul, Nat.reduceLT, Nat.reduceLeDiff, Nat.reduceBEq, Int.reduceNeg, Int.reduceToNat, Int.add_sub_cancel, Int.toNat_zero, Int.reduceLT, Int.reduceLE, Int.reduceAdd, Int.reduceSub, Int.reduceMul, Int.reduceEq, List.map_cons, List.map_nil, List.all_cons, List.all_nil, List.length_cons, List.length_nil, List.drop_succ_cons, List.drop_zero, List.drop_nil, List.take_succ_cons, List.take_zero, List.take_nil, List.headD_cons, List.headD_nil, List.cons_append, List.nil_append, List.append_nil, List.getElem?_cons_zero, List.getElem?_cons_succ, List.getElem?_nil, Option.getD_some, Option.getD_none, List.set_cons_zero, List.set_cons_succ, List.set_nil, List.replicate_zero, List.replicate_succ, List.getD_cons_zero, List.getD_cons_succ, List.isEmpty_nil, List.isEmpty_cons, endQ, rvs, rv1, resV, vw_i, vw_b, vw_u, vw_pn, vw_z, vw_sl, vw_pa, vw_ag, vw_tp, vw_fn, vw_ad, vw_rf, zipA, Int.lt_irrefl, Int.natCast_nonneg, beq_self_eq_true, Nat.zero_add, Nat.add_zero, Option.some.injEq, V.i.injEq, V.b.injEq, Bool.and_self, Bool.and_true, Bool.true_and, Bool.false_and, Bool.and_false, Bool.or_false, Bool.false_or, Bool.or_true, Bool.true_or, Bool.not_true, Bool.not_false, Bool.false_eq_true, Bool.true_eq_false, decide_true, decide_false, decide_eq_true_eq, decide_eq_false_iff_not, true_and, and_true, and_self, false_and, and_false, forall_const, false_implies, true_implies, implies_true, reduceCtorEq, ite_true, ite_false, not_true_eq_false, not_false_eq_true, ne_eq, Option.map_some, Option.map_none, List.any_cons, List.any_nil, List.contains_cons, List.contains_nil, beq_true, beq_false, Bool.not_not, Bool.not_eq_false', Bool.not_eq_true', ite_f, ite_t, Bool.decide_eq_true, Bool.decide_eq_false, imp_self, List.length_map, Int.toNat_natCast, List.getD_eq_getElem?_getD, List.getElem?_map, Bool.not_eq_true, List.length_replicate, spanE, boltE, stripE, domeE, tentE, eSpan, eStrip, eBolt, eDome, eI, eIs, eCan, eTent]
      · have hw0 : 0 ≤ widthAt d row ∧ widthAt d row ≤ 2000 := by omega
        have h38 := truth_ok38 hv ht hw0
        have e1 : roundR d row = (roundOf (tentOf d) (widthAt d row), 0) := by unfold roundR; rw [hir, if_pos hp]
        have e2 : tightR d row = (tightOf (tentOf d) row (widthAt d row), 0) := by unfold tightR; rw [hir, if_pos hp]
        have e3 : looseR d = (looseTo d d.widths.length, 0) := by unfold looseR; rw [if_pos hp]
        have hs := truth_sums hv ht (widthAt d row)
        have hb := sums_bounds hg k6.1 hs
        have hin : within (roundBy d (widthAt d row) l) (roundOf (tentOf d) (widthAt d row)).low (roundOf (tentOf d) (widthAt d row)).high = true := by
          simp only [within, Bool.and_eq_true, decide_eq_true_eq]; exact hb
        have hml : decide (row ∈ looseTo d d.widths.length) = decide (tightOf (tentOf d) row (widthAt d row) ≠ 1) := decide_eq_decide.2 (mem_loose hv hir)
        have hnr2 : d.rounds.length < 1000 := by omega
        have hll2 : (looseTo d d.widths.length).length < 10000000 := by
          have h1 : (looseTo d d.widths.length).length ≤ d.widths.length := Nat.le_trans (List.length_filter_le _ _) (List.length_take_le _ _)
          have := hv.nw
          omega
        have hlt : ¬ ((l.length : Int) < l.length) := by omega
        rcases tight_vals (tentOf d) row (widthAt d row) with t1' | t1' | t1'
        · have hf := fits_iff.1 (tight_one.1 t1')
          have hw : within (roundBy d (widthAt d row) l) (wantAt d row).low (wantAt d row).high = true := by
            simp only [within, Bool.and_eq_true, decide_eq_true_eq]
            exact ⟨Int.le_trans hf.1 hb.1, Int.le_trans hb.2 hf.2⟩
          simp only [gU38, h38, gU23, gU17, gU26, gU20, gU37, gU16, e1, e2, e3, eSE, eNE, eLE, k1, k2, k3, k4, k5, hnr2, hin, hll2, hml, t1', hw, Bool.xor_self, ru_skip, ru_reg, ru_any, ru_seq, ru_cond, ru_block, ru_exit, ru_ret, ru_keep, ru_drp, ru_own, ru_ownc, ru_swp, ru_nxt, ru_yrg, ru_crl, chunk1, ↓cut_lkp, ↓ren_lkp, rnQ, rndQ, updL, sfree, yres, slots, ghO, stepO, ocV, rflat, rflatL, rflatB, shV, shL, shB, vB_cells, vB_map, swH, sw, renV, renL, renB, cutH, putB, lkpV, keyL, entV, mlenV, keyV, keyFits, endO, endK, endI, thenQ, blockQ, run_nil, run_cons, step_q, Fam.step, stepQ, stepW, needQ, needW, condB, ug, runX, eff_q, eff, nextD, fpR, fpQ, fpV, disjB, hits, putB, nv, sv, newsV, evO, opv, qv, pickV, binV, ldV, iadV, lenV, curG, slcV, intOr, callV, foldParts, putAt, partsOk, partsOne, V.cells, solid, cellOk, intsOf, hasRef, hasRefL, flat, flatL, kp, cutV, cutL, cutB, upd_some, upd_none, lkp_cons, lkp_nil, ↓reduceIte, Nat.reduceEqDiff, Nat.reduceAdd, Nat.reduceSub, Nat.reduceMul, Nat.reduceLT, Nat.reduceLeDiff, Nat.reduceBEq, Int.reduceNeg, Int.reduceToNat, Int.add_sub_cancel, Int.toNat_zero, Int.reduceLT, Int.reduceLE, Int.reduceAdd, Int.reduceSub, Int.reduceMul, Int.reduceEq, List.map_cons, List.map_nil, List.all_cons, List.all_nil, List.length_cons, List.length_nil, List.drop_succ_cons, List.drop_zero, List.drop_nil, List.take_succ_cons, List.take_zero, List.take_nil, List.headD_cons, List.headD_nil, List.cons_append, List.nil_append, List.append_nil, List.getElem?_cons_zero, List.getElem?_cons_succ, List.getElem?_nil, Option.getD_some, Option.getD_none, List.set_cons_zero, List.set_cons_succ, List.set_nil, List.replicate_zero, List.replicate_succ, List.getD_cons_zero, List.getD_cons_succ, List.isEmpty_nil, List.isEmpty_cons, endQ, rvs, rv1, resV, vw_i, vw_b, vw_u, vw_pn, vw_z, vw_sl, vw_pa, vw_ag, vw_tp, vw_fn, vw_ad, vw_rf, zipA, Int.lt_irrefl, Int.natCast_nonneg, beq_self_eq_true, Nat.zero_add, Nat.add_zero, Option.some.injEq, V.i.injEq, V.b.injEq, Bool.and_self, Bool.and_true, Bool.true_and, Bool.false_and, Bool.and_false, Bool.or_false, Bool.false_or, Bool.or_true, Bool.true_or, Bool.not_true, Bool.not_false, Bool.false_eq_true, Bool.true_eq_false, decide_true, decide_false, decide_eq_true_eq, decide_eq_false_iff_not, true_and, and_true, and_self, false_and, and_false, forall_const, false_implies, true_implies, implies_true, reduceCtorEq, ite_true, ite_false, not_true_eq_false, not_false_eq_true, ne_eq, Option.map_some, Option.map_none, List.any_cons, List.any_nil, List.contains_cons, List.contains_nil, beq_true, beq_false, Bool.not_not, Bool.not_eq_false', Bool.not_eq_true', ite_f, ite_t, Bool.decide_eq_true, Bool.decide_eq_false, imp_self, List.length_map, Int.toNat_natCast, List.getD_eq_getElem?_getD, List.getElem?_map, Bool.not_eq_true, List.length_replicate, spanE, boltE, stripE, domeE, tentE, eSpan, eStrip, eBolt, eDome, eI, eIs, eCan, eTent]
        · have hw := tight_two t1' hs
          have hw : within (roundBy d (widthAt d row) l) (wantAt d row).low (wantAt d row).high = false := hw
          simp only [gU38, h38, gU23, gU17, gU26, gU20, gU37, gU16, e1, e2, e3, eSE, eNE, eLE, k1, k2, k3, k4, k5, hnr2, hin, hll2, hml, t1', hw, Bool.xor_self, ru_skip, ru_reg, ru_any, ru_seq, ru_cond, ru_block, ru_exit, ru_ret, ru_keep, ru_drp, ru_own, ru_ownc, ru_swp, ru_nxt, ru_yrg, ru_crl, chunk1, ↓cut_lkp, ↓ren_lkp, rnQ, rndQ, updL, sfree, yres, slots, ghO, stepO, ocV, rflat, rflatL, rflatB, shV, shL, shB, vB_cells, vB_map, swH, sw, renV, renL, renB, cutH, putB, lkpV, keyL, entV, mlenV, keyV, keyFits, endO, endK, endI, thenQ, blockQ, run_nil, run_cons, step_q, Fam.step, stepQ, stepW, needQ, needW, condB, ug, runX, eff_q, eff, nextD, fpR, fpQ, fpV, disjB, hits, putB, nv, sv, newsV, evO, opv, qv, pickV, binV, ldV, iadV, lenV, curG, slcV, intOr, callV, foldParts, putAt, partsOk, partsOne, V.cells, solid, cellOk, intsOf, hasRef, hasRefL, flat, flatL, kp, cutV, cutL, cutB, upd_some, upd_none, lkp_cons, lkp_nil, ↓reduceIte, Nat.reduceEqDiff, Nat.reduceAdd, Nat.reduceSub, Nat.reduceMul, Nat.reduceLT, Nat.reduceLeDiff, Nat.reduceBEq, Int.reduceNeg, Int.reduceToNat, Int.add_sub_cancel, Int.toNat_zero, Int.reduceLT, Int.reduceLE, Int.reduceAdd, Int.reduceSub, Int.reduceMul, Int.reduceEq, List.map_cons, List.map_nil, List.all_cons, List.all_nil, List.length_cons, List.length_nil, List.drop_succ_cons, List.drop_zero, List.drop_nil, List.take_succ_cons, List.take_zero, List.take_nil, List.headD_cons, List.headD_nil, List.cons_append, List.nil_append, List.append_nil, List.getElem?_cons_zero, List.getElem?_cons_succ, List.getElem?_nil, Option.getD_some, Option.getD_none, List.set_cons_zero, List.set_cons_succ, List.set_nil, List.replicate_zero, List.replicate_succ, List.getD_cons_zero, List.getD_cons_succ, List.isEmpty_nil, List.isEmpty_cons, endQ, rvs, rv1, resV, vw_i, vw_b, vw_u, vw_pn, vw_z, vw_sl, vw_pa, vw_ag, vw_tp, vw_fn, vw_ad, vw_rf, zipA, Int.lt_irrefl, Int.natCast_nonneg, beq_self_eq_true, Nat.zero_add, Nat.add_zero, Option.some.injEq, V.i.injEq, V.b.injEq, Bool.and_self, Bool.and_true, Bool.true_and, Bool.false_and, Bool.and_false, Bool.or_false, Bool.false_or, Bool.or_true, Bool.true_or, Bool.not_true, Bool.not_false, Bool.false_eq_true, Bool.true_eq_false, decide_true, decide_false, decide_eq_true_eq, decide_eq_false_iff_not, true_and, and_true, and_self, false_and, and_false, forall_const, false_implies, true_implies, implies_true, reduceCtorEq, ite_true, ite_false, not_true_eq_false, not_false_eq_true, ne_eq, Option.map_some, Option.map_none, List.any_cons, List.any_nil, List.contains_cons, List.contains_nil, beq_true, beq_false, Bool.not_not, Bool.not_eq_false', Bool.not_eq_true', ite_f, ite_t, Bool.decide_eq_true, Bool.decide_eq_false, imp_self, List.length_map, Int.toNat_natCast, List.getD_eq_getElem?_getD, List.getElem?_map, Bool.not_eq_true, List.length_replicate, spanE, boltE, stripE, domeE, tentE, eSpan, eStrip, eBolt, eDome, eI, eIs, eCan, eTent]
        · simp only [gU38, h38, gU23, gU17, gU26, gU20, gU37, gU16, e1, e2, e3, eSE, eNE, eLE, k1, k2, k3, k4, k5, hnr2, hin, hll2, hml, t1', Bool.xor_self, ru_skip, ru_reg, ru_any, ru_seq, ru_cond, ru_block, ru_exit, ru_ret, ru_keep, ru_drp, ru_own, ru_ownc, ru_swp, ru_nxt, ru_yrg, ru_crl, chunk1, ↓cut_lkp, ↓ren_lkp, rnQ, rndQ, updL, sfree, yres, slots, ghO, stepO, ocV, rflat, rflatL, rflatB, shV, shL, shB, vB_cells, vB_map, swH, sw, renV, renL, renB, cutH, putB, lkpV, keyL, entV, mlenV, keyV, keyFits, endO, endK, endI, thenQ, blockQ, run_nil, run_cons, step_q, Fam.step, stepQ, stepW, needQ, needW, condB, ug, runX, eff_q, eff, nextD, fpR, fpQ, fpV, disjB, hits, putB, nv, sv, newsV, evO, opv, qv, pickV, binV, ldV, iadV, lenV, curG, slcV, intOr, callV, foldParts, putAt, partsOk, partsOne, V.cells, solid, cellOk, intsOf, hasRef, hasRefL, flat, flatL, kp, cutV, cutL, cutB, upd_some, upd_none, lkp_cons, lkp_nil, ↓reduceIte, Nat.reduceEqDiff, Nat.reduceAdd, Nat.reduceSub, Nat.reduceMul, Nat.reduceLT, Nat.reduceLeDiff, Nat.reduceBEq, Int.reduceNeg, Int.reduceToNat, Int.add_sub_cancel, Int.toNat_zero, Int.reduceLT, Int.reduceLE, Int.reduceAdd, Int.reduceSub, Int.reduceMul, Int.reduceEq, List.map_cons, List.map_nil, List.all_cons, List.all_nil, List.length_cons, List.length_nil, List.drop_succ_cons, List.drop_zero, List.drop_nil, List.take_succ_cons, List.take_zero, List.take_nil, List.headD_cons, List.headD_nil, List.cons_append, List.nil_append, List.append_nil, List.getElem?_cons_zero, List.getElem?_cons_succ, List.getElem?_nil, Option.getD_some, Option.getD_none, List.set_cons_zero, List.set_cons_succ, List.set_nil, List.replicate_zero, List.replicate_succ, List.getD_cons_zero, List.getD_cons_succ, List.isEmpty_nil, List.isEmpty_cons, endQ, rvs, rv1, resV, vw_i, vw_b, vw_u, vw_pn, vw_z, vw_sl, vw_pa, vw_ag, vw_tp, vw_fn, vw_ad, vw_rf, zipA, Int.lt_irrefl, Int.natCast_nonneg, beq_self_eq_true, Nat.zero_add, Nat.add_zero, Option.some.injEq, V.i.injEq, V.b.injEq, Bool.and_self, Bool.and_true, Bool.true_and, Bool.false_and, Bool.and_false, Bool.or_false, Bool.false_or, Bool.or_true, Bool.true_or, Bool.not_true, Bool.not_false, Bool.false_eq_true, Bool.true_eq_false, decide_true, decide_false, decide_eq_true_eq, decide_eq_false_iff_not, true_and, and_true, and_self, false_and, and_false, forall_const, false_implies, true_implies, implies_true, reduceCtorEq, ite_true, ite_false, not_true_eq_false, not_false_eq_true, ne_eq, Option.map_some, Option.map_none, List.any_cons, List.any_nil, List.contains_cons, List.contains_nil, beq_true, beq_false, Bool.not_not, Bool.not_eq_false', Bool.not_eq_true', ite_f, ite_t, Bool.decide_eq_true, Bool.decide_eq_false, imp_self, List.length_map, Int.toNat_natCast, List.getD_eq_getElem?_getD, List.getElem?_map, Bool.not_eq_true, List.length_replicate, spanE, boltE, stripE, domeE, tentE, eSpan, eStrip, eBolt, eDome, eI, eIs, eCan, eTent]
    · have ht' : isTruth d l = false := by simpa using ht
      simp only [rc7, rs7, gU15, gU35, gU16, hr, hv, ht', ru_skip, ru_reg, ru_any, ru_seq, ru_cond, ru_block, ru_exit, ru_ret, ru_keep, ru_drp, ru_own, ru_ownc, ru_swp, ru_nxt, ru_yrg, ru_crl, chunk1, ↓cut_lkp, ↓ren_lkp, rnQ, rndQ, updL, sfree, yres, slots, ghO, stepO, ocV, rflat, rflatL, rflatB, shV, shL, shB, vB_cells, vB_map, swH, sw, renV, renL, renB, cutH, putB, lkpV, keyL, entV, mlenV, keyV, keyFits, endO, endK, endI, thenQ, blockQ, run_nil, run_cons, step_q, Fam.step, stepQ, stepW, needQ, needW, condB, ug, runX, eff_q, eff, nextD, fpR, fpQ, fpV, disjB, hits, putB, nv, sv, newsV, evO, opv, qv, pickV, binV, ldV, iadV, lenV, curG, slcV, intOr, callV, foldParts, putAt, partsOk, partsOne, V.cells, solid, cellOk, intsOf, hasRef, hasRefL, flat, flatL, kp, cutV, cutL, cutB, upd_some, upd_none, lkp_cons, lkp_nil, ↓reduceIte, Nat.reduceEqDiff, Nat.reduceAdd, Nat.reduceSub, Nat.reduceMul, Nat.reduceLT, Nat.reduceLeDiff, Nat.reduceBEq, Int.reduceNeg, Int.reduceToNat, Int.add_sub_cancel, Int.toNat_zero, Int.reduceLT, Int.reduceLE, Int.reduceAdd, Int.reduceSub, Int.reduceMul, Int.reduceEq, List.map_cons, List.map_nil, List.all_cons, List.all_nil, List.length_cons, List.length_nil, List.drop_succ_cons, List.drop_zero, List.drop_nil, List.take_succ_cons, List.take_zero, List.take_nil, List.headD_cons, List.headD_nil, List.cons_append, List.nil_append, List.append_nil, List.getElem?_cons_zero, List.getElem?_cons_succ, List.getElem?_nil, Option.getD_some, Option.getD_none, List.set_cons_zero, List.set_cons_succ, List.set_nil, List.replicate_zero, List.replicate_succ, List.getD_cons_zero, List.getD_cons_succ, List.isEmpty_nil, List.isEmpty_cons, endQ, rvs, rv1, resV, vw_i, vw_b, vw_u, vw_pn, vw_z, vw_sl, vw_pa, vw_ag, vw_tp, vw_fn, vw_ad, vw_rf, zipA, Int.lt_irrefl, Int.natCast_nonneg, beq_self_eq_true, Nat.zero_add, Nat.add_zero, Option.some.injEq, V.i.injEq, V.b.injEq, Bool.and_self, Bool.and_true, Bool.true_and, Bool.false_and, Bool.and_false, Bool.or_false, Bool.false_or, Bool.or_true, Bool.true_or, Bool.not_true, Bool.not_false, Bool.false_eq_true, Bool.true_eq_false, decide_true, decide_false, decide_eq_true_eq, decide_eq_false_iff_not, true_and, and_true, and_self, false_and, and_false, forall_const, false_implies, true_implies, implies_true, reduceCtorEq, ite_true, ite_false, not_true_eq_false, not_false_eq_true, ne_eq, Option.map_some, Option.map_none, List.any_cons, List.any_nil, List.contains_cons, List.contains_nil, beq_true, beq_false, Bool.not_not, Bool.not_eq_false', Bool.not_eq_true', ite_f, ite_t, Bool.decide_eq_true, Bool.decide_eq_false, imp_self, List.length_map, Int.toNat_natCast, List.getD_eq_getElem?_getD, List.getElem?_map, Bool.not_eq_true, List.length_replicate, spanE, boltE, stripE, domeE, tentE, eSpan, eStrip, eBolt, eDome, eI, eIs, eCan, eTent]
  · have hr' : ready d row = false := by simpa using hr
    simp only [rc7, rs7, gU15, gU16, gU35, hr', ru_skip, ru_reg, ru_any, ru_seq, ru_cond, ru_block, ru_exit, ru_ret, ru_keep, ru_drp, ru_own, ru_ownc, ru_swp, ru_nxt, ru_yrg, ru_crl, chunk1, ↓cut_lkp, ↓ren_lkp, rnQ, rndQ, updL, sfree, yres, slots, ghO, stepO, ocV, rflat, rflatL, rflatB, shV, shL, shB, vB_cells, vB_map, swH, sw, renV, renL, renB, cutH, putB, lkpV, keyL, entV, mlenV, keyV, keyFits, endO, endK, endI, thenQ, blockQ, run_nil, run_cons, step_q, Fam.step, stepQ, stepW, needQ, needW, condB, ug, runX, eff_q, eff, nextD, fpR, fpQ, fpV, disjB, hits, putB, nv, sv, newsV, evO, opv, qv, pickV, binV, ldV, iadV, lenV, curG, slcV, intOr, callV, foldParts, putAt, partsOk, partsOne, V.cells, solid, cellOk, intsOf, hasRef, hasRefL, flat, flatL, kp, cutV, cutL, cutB, upd_some, upd_none, lkp_cons, lkp_nil, ↓reduceIte, Nat.reduceEqDiff, Nat.reduceAdd, Nat.reduceSub, Nat.reduceMul, Nat.reduceLT, Nat.reduceLeDiff, Nat.reduceBEq, Int.reduceNeg, Int.reduceToNat, Int.add_sub_cancel, Int.toNat_zero, Int.reduceLT, Int.reduceLE, Int.reduceAdd, Int.reduceSub, Int.reduceMul, Int.reduceEq, List.map_cons, List.map_nil, List.all_cons, List.all_nil, List.length_cons, List.length_nil, List.drop_succ_cons, List.drop_zero, List.drop_nil, List.take_succ_cons, List.take_zero, List.take_nil, List.headD_cons, List.headD_nil, List.cons_append, List.nil_append, List.append_nil, List.getElem?_cons_zero, List.getElem?_cons_succ, List.getElem?_nil, Option.getD_some, Option.getD_none, List.set_cons_zero, List.set_cons_succ, List.set_nil, List.replicate_zero, List.replicate_succ, List.getD_cons_zero, List.getD_cons_succ, List.isEmpty_nil, List.isEmpty_cons, endQ, rvs, rv1, resV, vw_i, vw_b, vw_u, vw_pn, vw_z, vw_sl, vw_pa, vw_ag, vw_tp, vw_fn, vw_ad, vw_rf, zipA, Int.lt_irrefl, Int.natCast_nonneg, beq_self_eq_true, Nat.zero_add, Nat.add_zero, Option.some.injEq, V.i.injEq, V.b.injEq, Bool.and_self, Bool.and_true, Bool.true_and, Bool.false_and, Bool.and_false, Bool.or_false, Bool.false_or, Bool.or_true, Bool.true_or, Bool.not_true, Bool.not_false, Bool.false_eq_true, Bool.true_eq_false, decide_true, decide_false, decide_eq_true_eq, decide_eq_false_iff_not, true_and, and_true, and_self, false_and, and_false, forall_const, false_implies, true_implies, implies_true, reduceCtorEq, ite_true, ite_false, not_true_eq_false, not_false_eq_true, ne_eq, Option.map_some, Option.map_none, List.any_cons, List.any_nil, List.contains_cons, List.contains_nil, beq_true, beq_false, Bool.not_not, Bool.not_eq_false', Bool.not_eq_true', ite_f, ite_t, Bool.decide_eq_true, Bool.decide_eq_false, imp_self, List.length_map, Int.toNat_natCast, List.getD_eq_getElem?_getD, List.getElem?_map, Bool.not_eq_true, List.length_replicate, spanE, boltE, stripE, domeE, tentE, eSpan, eStrip, eBolt, eDome, eI, eIs, eCan, eTent]
end Go.C02
