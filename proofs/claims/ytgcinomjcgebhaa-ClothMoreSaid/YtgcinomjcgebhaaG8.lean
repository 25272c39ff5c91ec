import Derived.Test.YtgcinomjcgebhaaG7
set_option linter.all false
set_option linter.unusedSimpArgs false
set_option linter.unusedVariables false
namespace Go.C02
open Go.Fam Go.Proofs
/-! A dome of which more is known: it has fewer truths. -/
structure Less (d d' : Dome) : Prop where
  g : d'.gores = d.gores
  l : d'.loss = d.loss
  r : d'.rounds = d.rounds
  w : d'.widths = d.widths
  n : d'.bolts.length = d.bolts.length
  c : ∀ (i : Nat) (x : Int), i < d.bolts.length → can (boltAt d' i) x = true → can (boltAt d i) x = true
theorem Less.truth {d d' : Dome} (h : Less d d') {t : List Int} (ht : t ∈ truthsOf d' []) : t ∈ truthsOf d [] := by
  rw [mem_truths] at ht ⊢
  simp only [isTruth, Bool.and_eq_true, decide_eq_true_eq, List.all_eq_true, List.mem_range] at ht ⊢
  have hl : t.length = d.bolts.length := ht.1.trans h.n
  exact ⟨hl, fun i hi => h.c i _ (by omega) (ht.2 i hi)⟩
theorem Less.by {d d' : Dome} (h : Less d d') (w : Int) (t : List Int) : roundBy d' w t = roundBy d w t := by unfold roundBy; rw [h.g, h.l]
theorem Less.good {d d' : Dome} (h : Less d d') (hc : check d = 0) (hg : Good d') : Good d := by
  refine ⟨valid_of hc, hc, fun b hb => ?_⟩
  obtain ⟨i, hi⟩ := List.getElem?_of_mem hb
  have hlt := getElemLt hi
  have hm := good_mem hg (i := i) (by rw [h.n]; exact hlt)
  obtain ⟨x, hx⟩ := List.exists_mem_of_ne_nil _ hm
  have := h.c i x hlt (mem_numbersOf.1 hx)
  rw [show boltAt d (i : Nat) = b by simp [boltAt, hi]] at this
  intro hn
  have := mem_numbersOf.2 this
  rw [hn] at this; cases this
theorem Less.round {d d' : Dome} (h : Less d d') (hg : Good d) (hg' : Good d') {w : Int} (hw : 2 * d.loss ≤ w) :
    (roundOf (tentOf d) w).low ≤ (roundOf (tentOf d') w).low ∧ (roundOf (tentOf d') w).high ≤ (roundOf (tentOf d) w).high := by
  have a := truth_bounds hg hw (h.truth (low_truth hg'))
  have b := truth_bounds hg hw (h.truth (high_truth hg'))
  rw [← h.by, round_low hg'.v] at a
  rw [← h.by, round_high hg'.v] at b
  exact ⟨a.1, b.2⟩
theorem Less.want {d d' : Dome} (h : Less d d') (r : Int) : wantAt d' r = wantAt d r := by unfold wantAt; rw [h.r]
theorem Less.fits {d d' : Dome} (h : Less d d') (hg : Good d) (hg' : Good d') {r w : Int} (hw : 2 * d.loss ≤ w) (hf : fits (tentOf d) r w = true) : fits (tentOf d') r w = true := by
  rw [fits_iff] at hf ⊢
  have hr := h.round hg hg' hw
  have e : wantAt (tentOf d').dome r = wantAt (tentOf d).dome r := h.want r
  rw [e]
  exact ⟨Int.le_trans hf.1 hr.1, Int.le_trans hr.2 hf.2⟩
theorem Less.tight {d d' : Dome} (h : Less d d') (hg : Good d) (hg' : Good d') {r w : Int} (hw : 2 * d.loss ≤ w) : tightOf (tentOf d) r w = 3 ∨ tightOf (tentOf d) r w = tightOf (tentOf d') r w := by
  rcases tight_vals (tentOf d) r w with h1 | h1 | h1
  · right
    rw [h1]
    exact (tight_one.2 (h.fits hg hg' hw (tight_one.1 h1))).symm
  · right
    rw [h1]
    have hw' : 2 * d'.loss ≤ w := by rw [h.l]; exact hw
    have hz : tightN d' (truthsOf d' []) r w = 0 := by
      unfold tightN
      rw [List.countP_eq_zero]
      intro t ht hx
      have hs := truth_sums hg.v (mem_truths.1 (h.truth ht)) w
      have := tight_two h1 hs
      have e : wantAt (tentOf d).dome r = wantAt d r := rfl
      rw [e] at this
      unfold tightIn at hx
      rw [h.by, h.want, this] at hx
      cases hx
    rw [tight_tightOf hg' hw', if_neg, if_pos hz]
    rw [hz]
    intro hn
    exact hg'.truths (List.eq_nil_of_length_eq_zero hn.symm)
  · exact .inl h1
theorem Less.cut {d d' : Dome} (h : Less d d') (hg : Good d) (hg' : Good d') {r : Int} (hne : goods (tentOf d) r ≠ []) : goods (tentOf d') r ≠ [] ∧ lowAt d' r ≤ lowAt d r ∧ highAt d r ≤ highAt d' r := by
  have sub : ∀ x, x ∈ goods (tentOf d) r → x ∈ goods (tentOf d') r := fun x hx => by
    rw [mem_goods] at hx ⊢
    have e : (tentOf d').dome.loss = d.loss := h.l
    rw [e]
    exact ⟨hx.1, h.fits hg hg' hx.1.1 hx.2⟩
  have m1 := sub _ (headD_mem hne)
  have m2 := sub _ (getLastD_mem hne)
  refine ⟨?_, (sorted_bounds (goods_sorted _ _) m1).1, (sorted_bounds (goods_sorted _ _) m2).2⟩
  intro hn; rw [hn] at m1; cases m1
/-! one more strip -/
def moreB (b : Bolt) (s : Strip) : Bolt := ⟨b.stretch, b.strips ++ [s], b.wrong⟩
def moreD (d : Dome) (j : Nat) (b : Bolt) (s : Strip) : Dome := ⟨d.bolts.set j (moreB b s), d.gores, d.loss, d.rounds, d.widths, d.slope⟩
theorem can_more {b : Bolt} {s : Strip} {x : Int} (h : can (moreB b s) x = true) : can b x = true := by
  have h' : (within x b.stretch.low b.stretch.high && decide ((falses (b.strips ++ [s]) x : Int) ≤ b.wrong)) = true := h
  simp only [Bool.and_eq_true, decide_eq_true_eq] at h'
  have : falses b.strips x ≤ falses (b.strips ++ [s]) x := by unfold falses; rw [List.countP_append]; omega
  simp only [can, Bool.and_eq_true, decide_eq_true_eq]
  exact ⟨h'.1, by omega⟩
theorem less_more {d : Dome} {j : Nat} {b : Bolt} (hb : d.bolts[j]? = some b) (s : Strip) : Less d (moreD d j b s) := by
  refine ⟨rfl, rfl, rfl, rfl, List.length_set, fun i x hi h => ?_⟩
  by_cases hij : i = j
  · subst hij
    have e1 : boltAt (moreD d i b s) i = moreB b s := by simp [boltAt, moreD, hi]
    have e2 : boltAt d i = b := by simp [boltAt, hb]
    rw [e1] at h
    rw [e2]
    exact can_more h
  · have e1 : boltAt (moreD d j b s) i = boltAt d i := by simp only [boltAt, moreD, Int.toNat_natCast]; rw [List.getElem?_set_ne (Ne.symm hij)]
    rwa [e1] at h

theorem rowsO_head {bs : List Bolt} {j : Nat} {b : Bolt} (h : bs[j]? = some b) : (List.drop (j * 4 + 2) (rowsO 0 bs).flatten).headD V.u = .rf (2 * j + 3) 1 0 b.strips.length 3 := by
  have hj := getElemLt h
  have hx : (rowsO 0 bs)[j]? = some (rowO j b) := by rw [rowsO_get, h, Nat.zero_add]; rfl
  have hd := drop_rows (k := 4) _ j _ rowsO_four hx
  have hfl : (rowsO 0 bs).flatten.length = bs.length * 4 := by rw [flat_rows_len (k := 4) _ rowsO_four, rowsO_len]
  rw [List.headD_eq_head?_getD, List.head?_drop]
  have e : (rowsO 0 bs).flatten[j * 4 + 2]? = (((rowsO 0 bs).flatten.drop (j * 4)).take 4)[2]? := by
    rw [List.getElem?_take_of_lt (by decide), List.getElem?_drop]
  rw [e, hd]; rfl
theorem rowsO_put {bs : List Bolt} {j : Nat} {b : Bolt} (h : bs[j]? = some b) (x : V) :
    List.take (j * 4 + 2) (rowsO 0 bs).flatten ++ [x] ++ List.drop (j * 4 + 2 + 1) (rowsO 0 bs).flatten = ((rowsO 0 bs).set j [.i b.stretch.low, .i b.stretch.high, x, .i b.wrong]).flatten := by
  have hj := getElemLt h
  have hx : (rowsO 0 bs)[j]? = some (rowO j b) := by rw [rowsO_get, h, Nat.zero_add]; rfl
  have hfl : (rowsO 0 bs).flatten.length = bs.length * 4 := by rw [flat_rows_len (k := 4) _ rowsO_four, rowsO_len]
  rw [set_take (by omega), flat_set (k := 4) (m := 2) _ j _ _ rowsO_four hx (by decide)]
  rfl
theorem own_len (d : Dome) (go : List Int) (ss : List (List Strip)) (h : ss.length = d.bolts.length) : (ownHp d go ss).length = 2 * d.bolts.length + 9 := by
  simp only [ownHp, List.length_cons, List.length_append, strM_len, List.length_nil]; omega
theorem own_2 (d : Dome) (go : List Int) (ss : List (List Strip)) (L : List Blk) : (ownHp d go ss ++ L)[2]? = some (.cells 1 (rowsO 0 d.bolts).flatten) := rfl
theorem own_s {d : Dome} {go : List Int} {ss : List (List Strip)} {L : List Blk} {j : Nat} {l : List Strip} (h : ss[j]? = some l) : (ownHp d go ss ++ L)[2 * j + 3]? = some (.cells 1 (l.map eStrip).flatten) := by
  show (strM ss ++ _ ++ L)[2 * j]? = _
  have hj := getElemLt h
  rw [List.append_assoc, List.getElem?_append_left (by rw [strM_len]; omega)]
  exact strM_get ss j l h
theorem own_tail {d : Dome} {go : List Int} {ss : List (List Strip)} (h : ss.length = d.bolts.length) (L : List Blk) (k : Nat) :
    (ownHp d go ss ++ L)[2 * d.bolts.length + 3 + k]? = ([.cells 1 (go.map eI).flatten, .hole, .cells 1 (d.rounds.map eSpan).flatten, .hole, .cells 1 (d.widths.map eI).flatten, .hole] ++ L)[k]? := by
  rw [show 2 * d.bolts.length + 3 + k = 2 * d.bolts.length + k + 1 + 1 + 1 by omega]
  show (strM ss ++ _ ++ L)[2 * d.bolts.length + k]? = _
  rw [List.append_assoc, List.getElem?_append_right (by rw [strM_len]; omega), strM_len, h, Nat.add_sub_cancel_left]
theorem own_box {d : Dome} {go : List Int} {ss : List (List Strip)} (h : ss.length = d.bolts.length) (L : List Blk) (k : Nat) : (ownHp d go ss ++ L)[2 * d.bolts.length + 9 + k]? = L[k]? := by
  rw [List.getElem?_append_right (by rw [own_len d go ss h]; omega), own_len d go ss h, Nat.add_sub_cancel_left]
theorem own_setbox {d : Dome} {go : List Int} {ss : List (List Strip)} (h : ss.length = d.bolts.length) (L : List Blk) (k : Nat) (x : Blk) : (ownHp d go ss ++ L).set (2 * d.bolts.length + 9 + k) x = ownHp d go ss ++ L.set k x := by
  rw [List.set_append_right _ _ (by rw [own_len d go ss h]; omega), own_len d go ss h, Nat.add_sub_cancel_left]
theorem more_own {d : Dome} {j : Nat} {b : Bolt} (hb : d.bolts[j]? = some b) (s : Strip) (X : List Blk) {nb : List V} (hn : nb = ((moreB b s).strips.map eStrip).flatten) :
    OwnAt (((ownHp d d.gores (stripsOf d) ++ X).set (2 * j + 3) (.cells 2 nb)).set 2 (.cells 1 ((rowsO 0 d.bolts).set j [.i b.stretch.low, .i b.stretch.high, .rf (2 * j + 3) 2 0 (b.strips.length + 1) 3, .i b.wrong]).flatten))
      (moreD d j b s).bolts (fun i => if i = j then 2 else 1) d.gores d.rounds d.widths := by
  have hj := getElemLt hb
  have hss : (stripsOf d).length = d.bolts.length := by simp [stripsOf]
  have hl := own_len d d.gores (stripsOf d) hss
  have hlen : (moreD d j b s).bolts.length = d.bolts.length := List.length_set
  have hat : ∀ (i : Nat) (b' : Bolt), (moreD d j b s).bolts[i]? = some b' → (i = j ∧ b' = moreB b s) ∨ (i ≠ j ∧ d.bolts[i]? = some b') := fun i b' h => by
    by_cases hij : i = j
    · subst hij
      left
      simp only [moreD] at h
      rw [List.getElem?_set_self hj] at h
      exact ⟨rfl, (Option.some.inj h).symm⟩
    · right
      simp only [moreD] at h
      rw [List.getElem?_set_ne (Ne.symm hij)] at h
      exact ⟨hij, h⟩
  refine ⟨⟨_, by rw [List.getElem?_set_self (by simp [hl]; omega)], ?_, ?_, ?_⟩, ?_, ?_, ?_, ?_⟩
  · intro r hr
    rcases List.mem_or_eq_of_mem_set hr with h | rfl
    · exact rowsO_four r h
    · rfl
  · rw [List.length_set, rowsO_len, hlen]
  · intro i b' h
    rcases hat i b' h with ⟨rfl, rfl⟩ | ⟨hij, h⟩
    · rw [List.getElem?_set_self (by rw [rowsO_len]; exact hj)]
      simp [moreB]
    · rw [List.getElem?_set_ne (Ne.symm hij), rowsO_get, h, Nat.zero_add, if_neg hij]
      rfl
  · intro i b' h
    rw [List.getElem?_set_ne (by omega)]
    rcases hat i b' h with ⟨rfl, rfl⟩ | ⟨hij, h⟩
    · rw [List.getElem?_set_self (by simp [hl]; omega), hn, if_pos rfl]
    · rw [List.getElem?_set_ne (by omega), if_neg hij]
      exact own_s (by simp [stripsOf, h])
  · rw [hlen, List.getElem?_set_ne (by omega), List.getElem?_set_ne (by omega)]
    exact own_tail hss X 0
  · rw [hlen, List.getElem?_set_ne (by omega), List.getElem?_set_ne (by omega)]
    exact own_tail hss X 2
  · rw [hlen, List.getElem?_set_ne (by omega), List.getElem?_set_ne (by omega)]
    exact own_tail hss X 4
set_option maxRecDepth 20000 in
set_option maxHeartbeats 8000000 in
theorem P9 (d : Dome) (s : Strip) (x : Int × Int) : PureCall Try.prog 9 [.ag (eDome d), .ag (eStrip s), .ag [.i x.1, .i x.2]] (.b true) := by
  obtain ⟨j, row⟩ := x
  dsimp only
  refine pure_body okC1 hmix Try.func9 cb9 N.cc9 cs9 cn9 ?_
  by_cases hr : ready d row = true
  · obtain ⟨hv, hc, hir, r1, r2⟩ := ready_of hr
    have hnb := hv.nb
    have hnr := hv.nr
    by_cases h1 : j < 0
    · simp only [N.rc9, rs9, gC15, gC16, hr, h1, ru_reg, ru_seq, ru_cnd, ru_ret, ru_keep, thenQ, run_nil, run_cons, Fam.step, stepQ, needQ, condB, ug, evO, opv, qv, pickV_bb, pickV_t, binV, ldV, iadV, lenV, callV, V.cells, solid, hasRef, hasRefL, flat, upd_some, lkp_cons, lkp_nil, ↓reduceIte, Nat.reduceEqDiff, Nat.reduceAdd, Nat.reduceLT, Nat.reduceLeDiff, List.map_cons, List.map_nil, List.all_cons, List.all_nil, List.length_cons, List.length_nil, List.drop_succ_cons, List.drop_zero, List.take_succ_cons, List.take_nil, List.headD_cons, List.append_nil, List.getElem?_nil, endQ, rvs, rv1, resV, vw_i, vw_b, vw_sl, vw_ag, zipA, beq_self_eq_true, Nat.zero_add, Bool.and_self, Bool.and_true, Bool.or_false, Bool.not_true, Bool.false_eq_true, Bool.true_eq_false, decide_true, true_and, and_true, and_self, false_and, forall_const, implies_true, reduceCtorEq, beq_false, imp_self, List.length_map, List.getD_eq_getElem?_getD, List.getElem?_map, domeE, eStrip, eDome]
    by_cases h2 : (d.bolts.length : Int) ≤ j
    · simp only [N.rc9, rs9, gC15, gC16, hr, h1, h2, ru_reg, ru_seq, ru_cnd, ru_ret, ru_keep, thenQ, run_nil, run_cons, Fam.step, stepQ, needQ, condB, ug, evO, opv, qv, pickV_bb, pickV_t, binV, ldV, iadV, lenV, callV, V.cells, solid, hasRef, hasRefL, flat, upd_some, lkp_cons, lkp_nil, ↓reduceIte, Nat.reduceEqDiff, Nat.reduceAdd, Nat.reduceLT, Nat.reduceLeDiff, List.map_cons, List.map_nil, List.all_cons, List.all_nil, List.length_cons, List.length_nil, List.drop_succ_cons, List.drop_zero, List.take_succ_cons, List.take_nil, List.headD_cons, List.append_nil, List.getElem?_nil, endQ, rvs, rv1, resV, vw_i, vw_b, vw_sl, vw_ag, zipA, beq_self_eq_true, Nat.zero_add, Bool.and_self, Bool.and_true, Bool.or_false, Bool.not_true, Bool.false_eq_true, Bool.true_eq_false, decide_true, decide_false, true_and, and_true, and_self, false_and, forall_const, implies_true, reduceCtorEq, beq_false, imp_self, List.length_map, List.getD_eq_getElem?_getD, List.getElem?_map, domeE, eStrip, eDome]
    have hj0 : 0 ≤ j := by omega
    have hj1 : j < d.bolts.length := by omega
    obtain ⟨b, hb⟩ : ∃ b, d.bolts[j.toNat]? = some b := ⟨_, List.getElem?_eq_getElem (by omega)⟩
    have hvb := hv.bolts b (List.mem_of_getElem? hb)
    by_cases h3 : (8 : Int) ≤ b.strips.length
    · simp only [N.rc9, rs9, gC15, gC16, hr, h1, h2, hj0, hj1, hb, h3, ru_reg, ru_seq, ru_cnd, ru_ret, ru_keep, thenQ, run_nil, run_cons, Fam.step, stepQ, needQ, condB, ug, evO, opv, qv, pickV_bb, binV, ldV, iadV, lenV, callV, V.cells, solid, hasRef, hasRefL, flat, upd_some, lkp_cons, lkp_nil, ↓reduceIte, Nat.reduceEqDiff, Nat.reduceAdd, Nat.reduceLT, Nat.reduceLeDiff, List.map_cons, List.map_nil, List.all_cons, List.all_nil, List.length_cons, List.length_nil, List.drop_succ_cons, List.drop_zero, List.take_succ_cons, List.take_nil, List.headD_cons, List.append_nil, Option.getD_some, endQ, rvs, rv1, resV, vw_i, vw_b, vw_sl, vw_ag, zipA, beq_self_eq_true, Nat.zero_add, Bool.and_self, Bool.or_false, Bool.not_true, Bool.false_eq_true, decide_true, decide_false, and_self, forall_const, implies_true, reduceCtorEq, Option.map_some, List.length_map, List.getD_eq_getElem?_getD, List.getElem?_map, domeE, eStrip, eBolt, eDome]
    have h22 := hv.ok22
    have hss : (stripsOf d).length = d.bolts.length := by simp [stripsOf]
    have hl := own_len d d.gores (stripsOf d) hss
    have b0 : ∀ L : List Blk, (ownHp d d.gores (stripsOf d) ++ L)[2 * d.bolts.length + 9]? = L[0]? := fun L => own_box hss L 0
    have sb0 : ∀ (L : List Blk) (x : Blk), (ownHp d d.gores (stripsOf d) ++ L).set (2 * d.bolts.length + 9) x = ownHp d d.gores (stripsOf d) ++ L.set 0 x := fun L x => own_setbox hss L 0 x
    have hst : ∀ L : List Blk, (ownHp d d.gores (stripsOf d) ++ L)[2 * j.toNat + 3]? = some (.cells 1 (b.strips.map eStrip).flatten) := fun L => own_s (by simp [stripsOf, hb])
    have hhd := rowsO_head hb
    have hput := rowsO_put hb
    have f1 : fitsLen (b.strips.length + 1) := by unfold fitsLen; omega
    have hsl := flat_len (e := eStrip) (k := 3) (fun _ => rfl) b.strips
    have hrl : (rowsO 0 d.bolts).flatten.length = d.bolts.length * 4 := by rw [flat_rows_len (k := 4) _ rowsO_four, rowsO_len]
    have f2 : j.toNat * 4 + 2 + 1 ≤ d.bolts.length * 4 := by omega
    have n1 : (2 * j.toNat == 2 * d.bolts.length + 6) = false := beq_eq_false_iff_ne.2 (by omega)
    have s2 : ∀ (L : List Blk) (x : Blk), ((ownHp d d.gores (stripsOf d) ++ L).set (2 * j.toNat + 3) x)[2]? = some (.cells 1 (rowsO 0 d.bolts).flatten) := fun L x => by rw [List.getElem?_set_ne (by omega)]; rfl
    simp only [n1, s2, N.rc9, rs9, gC15, gC22o, hr, h1, h2, hj0, hj1, hb, h3, h22, own_vB, shB_zero, hl, ownCs, b0, sb0, own_2, hst, hhd, hput, f1, hsl, hrl, f2, List.append_assoc, Nat.add_assoc, Nat.reduceBeqDiff, ru_skip, ru_reg, ru_any, ru_seq, ru_cnd, ru_keep, chunk1, stepO, ocV, nidQ, plO, plQ, plB, putBs, optL, rflat, rflatL, shV, shL, putB, thenQ, run_nil, run_cons, Fam.step, stepQ, stepW, needQ, needW, condB, ug, runX, eff, nextD, fpR, fpQ, fpV, disjB, hits, putB, nv, sv, newsV, evO, opv, qv, pickV_bb, binV, ldV, iadV, lenV, curG, callV, foldParts, putAt, partsOk, partsOne, V.cells, solid, cellOk, hasRef, hasRefL, flat, upd_some, upd_none, lkp_cons, lkp_nil, ↓reduceIte, Nat.reduceEqDiff, Nat.reduceAdd, Nat.reduceMul, Nat.reduceLT, Nat.reduceLeDiff, List.map_cons, List.map_nil, List.all_cons, List.all_nil, List.length_cons, List.length_nil, List.drop_succ_cons, List.drop_zero, List.drop_nil, List.take_succ_cons, List.take_zero, List.take_nil, List.headD_cons, List.cons_append, List.nil_append, List.append_nil, List.getElem?_cons_zero, List.getElem?_cons_succ, List.getElem?_nil, Option.getD_some, Option.getD_none, List.set_cons_zero, List.replicate_zero, List.replicate_succ, List.isEmpty_nil, List.isEmpty_cons, vw_i, vw_sl, vw_ag, zipA, beq_self_eq_true, Nat.zero_add, Nat.add_zero, Bool.and_self, Bool.and_true, Bool.true_and, Bool.false_and, Bool.or_false, Bool.false_or, Bool.not_true, Bool.not_false, Bool.false_eq_true, decide_false, true_and, and_self, forall_const, implies_true, reduceCtorEq, not_false_eq_true, ne_eq, Option.map_some, List.any_cons, List.any_nil, List.contains_cons, List.contains_nil, List.length_map, List.getD_eq_getElem?_getD, List.getElem?_map, domeE, eStrip, eBolt, eDome]
    refine drp_own (l' := [(3, .pa (eDome d)), (5, .pa [.i j, .i row]), (7, .pa (eDome (moreD d j.toNat b s)))]) ?_ ?_
    · simp only [List.map_cons, List.map_nil, cutV, hpF_zero, Nat.not_lt_zero, if_false, eDome]
      rw [own_view (more_own hb s _ (by simp [moreB, eStrip])) (l := d.loss) (s := d.slope)]
      · rfl
      · rw [show (moreD d j.toNat b s).bolts.length = d.bolts.length from List.length_set, List.getElem?_set_ne (by omega), List.getElem?_set_ne (by omega), b0]
        rfl
    obtain ⟨k1, k2, k3, k4, k5, k6, k7⟩ := row_of hv hir
    have hmD : (⟨d.bolts.set j.toNat (moreB b s), d.gores, d.loss, d.rounds, d.widths, d.slope⟩ : Dome) = moreD d j.toNat b s := rfl
    have hls := less_more hb s
    have hln : (d.bolts.set j.toNat (moreB b s)).length = d.bolts.length := List.length_set
    have hbl : d.bolts.length < 1000 := by omega
    have hnr2 : d.rounds.length < 1000 := by omega
    have hm1 : (moreD d j.toNat b s).bolts.length < 1000 := by rw [hls.n]; exact hbl
    have hm2 : (moreD d j.toNat b s).rounds.length < 1000 := hnr2
    have hib : isBoltOf d j = true := by simp only [isBoltOf, within, Bool.and_eq_true, decide_eq_true_eq]; omega
    have hib' : isBoltOf (moreD d j.toNat b s) j = true := by simp only [isBoltOf, within, Bool.and_eq_true, decide_eq_true_eq, hls.n]; omega
    have hir' : isRow (moreD d j.toNat b s) row = true := hir
    by_cases hc2 : check (moreD d j.toNat b s) = 0
    · have hbd : boltAt d j = b := by simp [boltAt, hb]
      have hbd' : boltAt (moreD d j.toNat b s) j = moreB b s := by
        simp only [boltAt, moreD]; rw [List.getElem?_set_self (by omega)]; rfl
      rcases pitch_vals hc2 with hp' | hp'
      · obtain ⟨hg', _⟩ := pitchE_zero hp'
        have hg := hls.good hc hg'
        have hp := hg.pitch true
        simp only [if_true] at hp
        have e1 : stretchesR d j = (numbersOf b, 0) := by unfold stretchesR; rw [hib, if_pos hp, hbd]
        have e2 : stretchesR (moreD d j.toNat b s) j = (numbersOf (moreB b s), 0) := by unfold stretchesR; rw [hib', if_pos hp', hbd']
        have e3 : roundR d row = (roundOf (tentOf d) (widthAt d row), 0) := by unfold roundR; rw [hir, if_pos hp]
        have e4 : roundR (moreD d j.toNat b s) row = (roundOf (tentOf (moreD d j.toNat b s)) (widthAt d row), 0) := by unfold roundR; rw [hir', if_pos hp']; rfl
        have e5 : tightR d row = (tightOf (tentOf d) row (widthAt d row), 0) := by unfold tightR; rw [hir, if_pos hp]
        have e6 : tightR (moreD d j.toNat b s) row = (tightOf (tentOf (moreD d j.toNat b s)) row (widthAt d row), 0) := by unfold tightR; rw [hir', if_pos hp']; rfl
        have hrd := hls.round hg hg' k6
        have n1 : ¬ (roundOf (tentOf (moreD d j.toNat b s)) (widthAt d row)).low < (roundOf (tentOf d) (widthAt d row)).low := by omega
        have n2 : ¬ (roundOf (tentOf d) (widthAt d row)).high < (roundOf (tentOf (moreD d j.toNat b s)) (widthAt d row)).high := by omega
        have hti := hls.tight hg hg' (r := row) k6
        have hn1 := numbersOf_len hvb
        have hnl : (numbersOf b).length < 10000000 := by omega
        have hgo := fun x (hx : x ∈ numbersOf (moreB b s)) => show x ∈ numbersOf b from mem_numbersOf.2 (can_more (mem_numbersOf.1 hx))
        have hcuts : ∀ (P : Prop), ((goods (tentOf d) row).isEmpty = true → P) → ((goods (tentOf d) row).isEmpty = false → (goods (tentOf (moreD d j.toNat b s)) row).isEmpty = false → lowAt (moreD d j.toNat b s) row ≤ lowAt d row → highAt d row ≤ highAt (moreD d j.toNat b s) row → P) → P := by
          intro P a c
          cases he : (goods (tentOf d) row).isEmpty with
          | true => exact a he
          | false =>
            have hne : goods (tentOf d) row ≠ [] := by intro h; rw [h] at he; cases he
            obtain ⟨q1, q2, q3⟩ := hls.cut hg hg' hne
            exact c he (by simpa using q1) q2 q3
        have c1 : cutR d row = if (goods (tentOf d) row).isEmpty then (⟨0, 0⟩, 3) else (⟨lowAt d row, highAt d row⟩, 0) := by unfold cutR; rw [hir, if_pos hp]; rfl
        have c2 : cutR (moreD d j.toNat b s) row = if (goods (tentOf (moreD d j.toNat b s)) row).isEmpty then (⟨0, 0⟩, 3) else (⟨lowAt (moreD d j.toNat b s) row, highAt (moreD d j.toNat b s) row⟩, 0) := by unfold cutR; rw [hir', if_pos hp']; rfl
        generalize hto : tightOf (tentOf d) row (widthAt d row) = to at *
        generalize hto' : tightOf (tentOf (moreD d j.toNat b s)) row (widthAt d row) = to' at *
        have ht3 : (to ≠ 3 → to = to') := fun h => hti.resolve_left h
        by_cases h33 : to = 3
        · simp only [gC39, hc2, gC36, gC23, gC17, hm1, hm2, hbl, hnr2, e1, e2, e3, e4, e5, e6, eLE, eSE, eNE, n1, n2, h33, ru_skip, ru_reg, ru_seq, ru_cnd, ru_block, ru_keep, putB, thenQ, run_nil, run_cons, Fam.step, stepQ, stepW, needQ, needW, condB, ug, putB, nv, sv, evO, opv, qv, pickV_bb, binV, ldV, curG, callV, putAt, V.cells, solid, cellOk, hasRef, hasRefL, flat, flatL, upd_some, upd_none, lkp_cons, lkp_nil, ↓reduceIte, Nat.reduceEqDiff, Nat.reduceAdd, Nat.reduceLT, Nat.reduceLeDiff, List.map_cons, List.map_nil, List.all_cons, List.all_nil, List.length_cons, List.length_nil, List.drop_succ_cons, List.drop_zero, List.drop_nil, List.take_succ_cons, List.take_zero, List.take_nil, List.headD_cons, List.cons_append, List.nil_append, List.append_nil, List.getElem?_cons_zero, List.getElem?_cons_succ, Option.getD_some, List.set_cons_zero, List.set_cons_succ, vw_i, vw_sl, vw_ag, beq_self_eq_true, Nat.zero_add, Nat.add_zero, Bool.and_self, Bool.and_true, Bool.and_false, Bool.or_false, Bool.not_true, Bool.false_eq_true, decide_true, decide_false, true_and, and_true, and_self, forall_const, implies_true, beq_true, imp_self, domeE, eSpan, eDome]
          refine ru_count (numbersOf (moreB b s)).length (fun i => ⟨lkp [(3, .pa (eDome d)), (5, .pa [.i j, .i row]), (7, .pa (eDome (moreD d j.toNat b s))), (8, .sl 1 ((numbersOf b).map eI)), (10, .sl 1 ((numbersOf (moreB b s)).map eI)), (20, .i i)],
            [.cells 0 (eSpan (roundOf (tentOf d) (widthAt d row))), .cells 0 (eSpan (roundOf (tentOf (moreD d j.toNat b s)) (widthAt d row)))]⟩) ?_ ?_ ?_
          · simp only [Int.natCast_zero, kp, lkp_cons, lkp_nil, ↓reduceIte, Nat.reduceEqDiff, List.map_cons, List.map_nil, eSpan, eDome]
          · intro i hi
            obtain ⟨y, hy⟩ : ∃ y, (numbersOf (moreB b s))[i]? = some y := ⟨_, List.getElem?_eq_getElem hi⟩
            have hlt : (i : Int) < (numbersOf (moreB b s)).length := by omega
            have hmy := hgo y (List.mem_of_getElem? hy)
            have hnl2 := Nat.le_trans (List.length_filter_le (can (moreB b s)) (ints b.stretch.low b.stretch.high)) (Nat.le_of_eq (ints_len _ _))
            have hst2 := hvb.st
            have hnl3 : (numbersOf (moreB b s)).length ≤ 1000 := Nat.le_trans hnl2 (by omega)
            have i3 : inI ((i : Int) + 1) := by unfold inI; omega
            simp only [hy, hlt, gC37, hnl, hmy, i3, Int.natCast_add, Int.natCast_one, ru_skip, ru_reg, ru_seq, ru_cnd, ru_block, ru_keep, thenQ, blockQ, run_nil, run_cons, Fam.step, stepQ, evO, opv, qv, binV, ldV, iadV, lenV, callV, hasRef, hasRefL, flat, kp, upd_some, lkp_cons, lkp_nil, ↓reduceIte, Nat.reduceEqDiff, Nat.reduceLT, Nat.reduceLeDiff, List.map_cons, List.map_nil, List.length_cons, List.length_nil, List.headD_cons, List.append_nil, Option.getD_some, vw_i, vw_sl, Int.natCast_nonneg, Nat.zero_add, Bool.or_false, Bool.not_true, Bool.false_eq_true, decide_true, and_self, implies_true, Option.map_some, List.length_map, Int.toNat_natCast, List.getD_eq_getElem?_getD, List.getElem?_map, eSpan, eDome, eI]
          · have hgt : ¬ (((numbersOf (moreB b s)).length : Int) < (numbersOf (moreB b s)).length) := by omega
            refine hcuts _ (fun he => ?_) (fun he he' q2 q3 => ?_)
            · simp only [hgt, gC19, gC16, hnr2, hm2, c1, c2, he, eSE, ru_reg, ru_seq, ru_cnd, ru_exit, ru_ret, ru_keep, putB, thenQ, blockQ, run_nil, run_cons, Fam.step, stepQ, stepW, needQ, needW, condB, ug, putB, nv, sv, evO, opv, qv, pickV_bb, binV, ldV, lenV, curG, callV, putAt, V.cells, solid, cellOk, hasRef, hasRefL, flat, flatL, upd_some, upd_none, lkp_cons, lkp_nil, ↓reduceIte, Nat.reduceEqDiff, Nat.reduceAdd, Nat.reduceLT, Nat.reduceLeDiff, Int.reduceEq, List.map_cons, List.map_nil, List.all_cons, List.all_nil, List.length_cons, List.length_nil, List.drop_succ_cons, List.drop_zero, List.drop_nil, List.take_succ_cons, List.take_zero, List.take_nil, List.headD_cons, List.cons_append, List.nil_append, List.append_nil, List.getElem?_cons_zero, List.getElem?_cons_succ, Option.getD_some, List.set_cons_zero, List.set_cons_succ, endQ, rvs, rv1, resV, vw_i, vw_b, vw_sl, vw_ag, beq_self_eq_true, Nat.zero_add, Nat.add_zero, Bool.and_self, Bool.and_true, Bool.false_and, Bool.or_false, Bool.not_true, Bool.not_false, Bool.false_eq_true, Bool.true_eq_false, decide_false, decide_eq_true_eq, decide_eq_false_iff_not, and_true, and_self, false_and, forall_const, implies_true, beq_true, beq_false, ite_f, Bool.decide_eq_true, imp_self, List.length_map, domeE, eSpan, eDome]
            · simp only [hgt, gC19, gC16, hnr2, hm2, c1, c2, he, he', q2, q3, eSE, ru_reg, ru_seq, ru_cnd, ru_exit, ru_ret, ru_keep, putB, thenQ, blockQ, run_nil, run_cons, Fam.step, stepQ, stepW, needQ, needW, condB, ug, putB, nv, sv, evO, opv, qv, pickV_bb, binV, ldV, lenV, curG, callV, putAt, V.cells, solid, cellOk, hasRef, hasRefL, flat, flatL, upd_some, upd_none, lkp_cons, lkp_nil, ↓reduceIte, Nat.reduceEqDiff, Nat.reduceAdd, Nat.reduceLT, Nat.reduceLeDiff, List.map_cons, List.map_nil, List.all_cons, List.all_nil, List.length_cons, List.length_nil, List.drop_succ_cons, List.drop_zero, List.drop_nil, List.take_succ_cons, List.take_zero, List.take_nil, List.headD_cons, List.cons_append, List.nil_append, List.append_nil, List.getElem?_cons_zero, List.getElem?_cons_succ, Option.getD_some, List.set_cons_zero, List.set_cons_succ, endQ, rvs, rv1, resV, vw_i, vw_b, vw_sl, vw_ag, beq_self_eq_true, Nat.zero_add, Nat.add_zero, Bool.and_self, Bool.or_false, Bool.not_true, Bool.false_eq_true, Bool.true_eq_false, decide_true, decide_false, and_self, forall_const, implies_true, List.length_map, domeE, eSpan, eDome]
        · have hee := ht3 h33
          simp only [gC39, hc2, gC36, gC23, gC17, hm1, hm2, hbl, hnr2, e1, e2, e3, e4, e5, e6, eLE, eSE, eNE, n1, n2, h33, ← hee, ru_skip, ru_reg, ru_seq, ru_cnd, ru_block, ru_keep, putB, thenQ, run_nil, run_cons, Fam.step, stepQ, stepW, needQ, needW, condB, ug, putB, nv, sv, evO, opv, qv, pickV_bb, binV, ldV, curG, callV, putAt, V.cells, solid, cellOk, hasRef, hasRefL, flat, flatL, upd_some, upd_none, lkp_cons, lkp_nil, ↓reduceIte, Nat.reduceEqDiff, Nat.reduceAdd, Nat.reduceLT, Nat.reduceLeDiff, List.map_cons, List.map_nil, List.all_cons, List.all_nil, List.length_cons, List.length_nil, List.drop_succ_cons, List.drop_zero, List.drop_nil, List.take_succ_cons, List.take_zero, List.take_nil, List.headD_cons, List.cons_append, List.nil_append, List.append_nil, List.getElem?_cons_zero, List.getElem?_cons_succ, Option.getD_some, List.set_cons_zero, List.set_cons_succ, vw_i, vw_sl, vw_ag, beq_self_eq_true, Nat.zero_add, Nat.add_zero, Bool.and_self, Bool.and_true, Bool.or_false, Bool.not_true, Bool.not_false, Bool.false_eq_true, Bool.true_eq_false, decide_true, decide_false, true_and, and_self, forall_const, implies_true, imp_self, domeE, eSpan, eDome]
          refine ru_count (numbersOf (moreB b s)).length (fun i => ⟨lkp [(3, .pa (eDome d)), (5, .pa [.i j, .i row]), (7, .pa (eDome (moreD d j.toNat b s))), (8, .sl 1 ((numbersOf b).map eI)), (10, .sl 1 ((numbersOf (moreB b s)).map eI)), (20, .i i)],
            [.cells 0 (eSpan (roundOf (tentOf d) (widthAt d row))), .cells 0 (eSpan (roundOf (tentOf (moreD d j.toNat b s)) (widthAt d row)))]⟩) ?_ ?_ ?_
          · simp only [Int.natCast_zero, kp, lkp_cons, lkp_nil, ↓reduceIte, Nat.reduceEqDiff, List.map_cons, List.map_nil, eSpan, eDome]
          · intro i hi
            obtain ⟨y, hy⟩ : ∃ y, (numbersOf (moreB b s))[i]? = some y := ⟨_, List.getElem?_eq_getElem hi⟩
            have hlt : (i : Int) < (numbersOf (moreB b s)).length := by omega
            have hmy := hgo y (List.mem_of_getElem? hy)
            have hnl2 := Nat.le_trans (List.length_filter_le (can (moreB b s)) (ints b.stretch.low b.stretch.high)) (Nat.le_of_eq (ints_len _ _))
            have hst2 := hvb.st
            have hnl3 : (numbersOf (moreB b s)).length ≤ 1000 := Nat.le_trans hnl2 (by omega)
            have i3 : inI ((i : Int) + 1) := by unfold inI; omega
            simp only [hy, hlt, gC37, hnl, hmy, i3, Int.natCast_add, Int.natCast_one, ru_skip, ru_reg, ru_seq, ru_cnd, ru_block, ru_keep, thenQ, blockQ, run_nil, run_cons, Fam.step, stepQ, evO, opv, qv, binV, ldV, iadV, lenV, callV, hasRef, hasRefL, flat, kp, upd_some, lkp_cons, lkp_nil, ↓reduceIte, Nat.reduceEqDiff, Nat.reduceLT, Nat.reduceLeDiff, List.map_cons, List.map_nil, List.length_cons, List.length_nil, List.headD_cons, List.append_nil, Option.getD_some, vw_i, vw_sl, Int.natCast_nonneg, Nat.zero_add, Bool.or_false, Bool.not_true, Bool.false_eq_true, decide_true, and_self, implies_true, Option.map_some, List.length_map, Int.toNat_natCast, List.getD_eq_getElem?_getD, List.getElem?_map, eSpan, eDome, eI]
          · have hgt : ¬ (((numbersOf (moreB b s)).length : Int) < (numbersOf (moreB b s)).length) := by omega
            refine hcuts _ (fun he => ?_) (fun he he' q2 q3 => ?_)
            · simp only [hgt, gC19, gC16, hnr2, hm2, c1, c2, he, eSE, ru_reg, ru_seq, ru_cnd, ru_exit, ru_ret, ru_keep, putB, thenQ, blockQ, run_nil, run_cons, Fam.step, stepQ, stepW, needQ, needW, condB, ug, putB, nv, sv, evO, opv, qv, pickV_bb, binV, ldV, lenV, curG, callV, putAt, V.cells, solid, cellOk, hasRef, hasRefL, flat, flatL, upd_some, upd_none, lkp_cons, lkp_nil, ↓reduceIte, Nat.reduceEqDiff, Nat.reduceAdd, Nat.reduceLT, Nat.reduceLeDiff, Int.reduceEq, List.map_cons, List.map_nil, List.all_cons, List.all_nil, List.length_cons, List.length_nil, List.drop_succ_cons, List.drop_zero, List.drop_nil, List.take_succ_cons, List.take_zero, List.take_nil, List.headD_cons, List.cons_append, List.nil_append, List.append_nil, List.getElem?_cons_zero, List.getElem?_cons_succ, Option.getD_some, List.set_cons_zero, List.set_cons_succ, endQ, rvs, rv1, resV, vw_i, vw_b, vw_sl, vw_ag, beq_self_eq_true, Nat.zero_add, Nat.add_zero, Bool.and_self, Bool.and_true, Bool.false_and, Bool.or_false, Bool.not_true, Bool.not_false, Bool.false_eq_true, Bool.true_eq_false, decide_false, decide_eq_true_eq, decide_eq_false_iff_not, and_true, and_self, false_and, forall_const, implies_true, beq_true, beq_false, ite_f, Bool.decide_eq_true, imp_self, List.length_map, domeE, eSpan, eDome]
            · simp only [hgt, gC19, gC16, hnr2, hm2, c1, c2, he, he', q2, q3, eSE, ru_reg, ru_seq, ru_cnd, ru_exit, ru_ret, ru_keep, putB, thenQ, blockQ, run_nil, run_cons, Fam.step, stepQ, stepW, needQ, needW, condB, ug, putB, nv, sv, evO, opv, qv, pickV_bb, binV, ldV, lenV, curG, callV, putAt, V.cells, solid, cellOk, hasRef, hasRefL, flat, flatL, upd_some, upd_none, lkp_cons, lkp_nil, ↓reduceIte, Nat.reduceEqDiff, Nat.reduceAdd, Nat.reduceLT, Nat.reduceLeDiff, List.map_cons, List.map_nil, List.all_cons, List.all_nil, List.length_cons, List.length_nil, List.drop_succ_cons, List.drop_zero, List.drop_nil, List.take_succ_cons, List.take_zero, List.take_nil, List.headD_cons, List.cons_append, List.nil_append, List.append_nil, List.getElem?_cons_zero, List.getElem?_cons_succ, Option.getD_some, List.set_cons_zero, List.set_cons_succ, endQ, rvs, rv1, resV, vw_i, vw_b, vw_sl, vw_ag, beq_self_eq_true, Nat.zero_add, Nat.add_zero, Bool.and_self, Bool.or_false, Bool.not_true, Bool.false_eq_true, Bool.true_eq_false, decide_true, decide_false, and_self, forall_const, implies_true, List.length_map, domeE, eSpan, eDome]
      · have e1 : stretchesR (moreD d j.toNat b s) j = ([], 3) := by unfold stretchesR; rw [hib', if_neg (by rw [hp']; decide), hp']
        simp only [gC39, hc2, gC36, gC16, hm1, hbl, e1, eLE, ru_skip, ru_reg, ru_seq, ru_cnd, ru_ret, ru_keep, thenQ, run_nil, run_cons, Fam.step, stepQ, needQ, condB, ug, evO, opv, qv, pickV_bb, binV, ldV, callV, hasRef, hasRefL, flat, flatL, upd_some, lkp_cons, lkp_nil, ↓reduceIte, Nat.reduceEqDiff, Nat.reduceAdd, Nat.reduceLT, Nat.reduceLeDiff, Int.reduceEq, List.map_cons, List.map_nil, List.all_cons, List.all_nil, List.length_cons, List.length_nil, List.drop_zero, List.take_succ_cons, List.take_nil, List.headD_cons, List.append_nil, List.getElem?_cons_zero, List.getElem?_cons_succ, Option.getD_some, endQ, rvs, rv1, resV, vw_i, vw_b, vw_sl, vw_ag, beq_self_eq_true, Nat.zero_add, Bool.and_self, Bool.and_true, Bool.or_false, Bool.not_true, Bool.not_false, Bool.false_eq_true, Bool.true_eq_false, decide_true, decide_false, and_self, forall_const, implies_true, imp_self, domeE, eDome]
    · simp only [gC39, gC16, hc2, ru_reg, ru_seq, ru_cnd, ru_ret, ru_keep, thenQ, run_nil, run_cons, Fam.step, stepQ, evO, opv, qv, binV, ldV, callV, hasRef, hasRefL, flat, upd_some, lkp_cons, lkp_nil, ↓reduceIte, Nat.reduceEqDiff, Nat.reduceAdd, Nat.reduceLT, Nat.reduceLeDiff, List.map_cons, List.map_nil, List.length_cons, List.length_nil, List.take_succ_cons, List.take_nil, List.append_nil, endQ, rvs, rv1, resV, vw_i, vw_b, vw_sl, vw_ag, Nat.zero_add, Bool.or_false, Bool.not_false, Bool.false_eq_true, decide_false, and_self, implies_true, domeE, eDome]
  · have hr' : ready d row = false := by simpa using hr
    simp only [N.rc9, rs9, gC15, gC16, hr', ru_reg, ru_seq, ru_cnd, ru_ret, ru_keep, thenQ, run_nil, run_cons, Fam.step, stepQ, needQ, condB, ug, evO, opv, qv, pickV_bb, pickV_t, binV, ldV, iadV, lenV, callV, V.cells, solid, hasRef, hasRefL, flat, upd_some, lkp_cons, lkp_nil, ↓reduceIte, Nat.reduceEqDiff, Nat.reduceAdd, Nat.reduceLT, Nat.reduceLeDiff, List.map_cons, List.map_nil, List.all_cons, List.all_nil, List.length_cons, List.length_nil, List.drop_succ_cons, List.drop_zero, List.take_succ_cons, List.take_nil, List.headD_cons, List.append_nil, List.getElem?_nil, endQ, rvs, rv1, resV, vw_i, vw_b, vw_sl, vw_ag, zipA, Nat.zero_add, Bool.and_self, Bool.and_true, Bool.or_false, Bool.not_true, Bool.not_false, Bool.false_eq_true, Bool.true_eq_false, true_and, and_true, and_self, false_and, forall_const, implies_true, reduceCtorEq, beq_false, imp_self, List.length_map, List.getD_eq_getElem?_getD, List.getElem?_map, domeE, eStrip, eDome]
end Go.C02
set_option linter.unusedSimpArgs false
set_option linter.unusedVariables false
namespace Go.C02
open Go.Fam Go.Proofs
/-! The order of strips and gores. -/
end Go.C02
set_option linter.unusedSimpArgs false
set_option linter.unusedVariables false
namespace Go.C02
open Go.Fam Go.Proofs
end Go.C02
set_option linter.unusedSimpArgs false
set_option linter.unusedVariables false
namespace Go.C02
open Go.Fam Go.Proofs Go.ChangeAt
variable {H : Type} {enc : TypeId × Value → H} {W : World}
theorem aStrip : RdV enc Try.prog W 52 (fun s => .ag (eStrip s)) (fun _ => True) := rdStrip.agg (fs := Try.prog.fieldsOf 52) (by kernel_rfl)
end Go.C02
