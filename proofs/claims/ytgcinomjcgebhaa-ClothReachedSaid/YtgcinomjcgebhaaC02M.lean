import Derived.Test.YtgcinomjcgebhaaC02L
set_option linter.all false
set_option linter.unusedSimpArgs false
set_option linter.unusedVariables false
namespace Go.C02
open Go.Fam Go.Proofs
theorem flat_at {α : Type} {e : α → List V} {k : Nat} (h : ∀ x, (e x).length = k) : ∀ {l : List α} {i : Nat} {x : α}, l[i]? = some x → (((l.map e).flatten).drop (i * k)).take k = e x
  | [], i, x, hx => by simp at hx
  | y :: l, 0, x, hx => by
    simp at hx; subst hx
    rw [List.map_cons, List.flatten_cons, Nat.zero_mul, List.drop_zero, List.take_append_of_le_length (by rw [h]; exact Nat.le_refl _), List.take_of_length_le (by rw [h]; exact Nat.le_refl _)]
  | y :: l, i + 1, x, hx => by
    simp at hx
    have e1 : (e y).drop ((i + 1) * k) = [] := by rw [List.drop_eq_nil_iff, h, Nat.succ_mul]; omega
    rw [List.map_cons, List.flatten_cons, List.drop_append, e1, List.nil_append, h, show (i + 1) * k - k = i * k from by rw [Nat.succ_mul]; omega]
    exact flat_at h hx
theorem noref_S (l : List Span) : hasRefL ((l.map eSpan).flatten) = false := hasRefL_flat (e := eSpan) (fun _ => rfl) l
theorem len_S (l : List Span) : ((l.map eSpan).flatten).length = l.length * 2 := flat_len (e := eSpan) (k := 2) (fun _ => rfl) l
theorem mem_goods {t : Tent} {r w : Int} : w ∈ goods t r ↔ (2 * t.dome.loss ≤ w ∧ w ≤ 2000) ∧ fits t r w = true := by
  simp only [goods, List.mem_filter, mem_ints]
def lowAt (d : Dome) (r : Int) : Int := (goods (tentOf d) r).headD 0
def highAt (d : Dome) (r : Int) : Int := (goods (tentOf d) r).getLastD 0
theorem headD_mem {l : List Int} (h : l ≠ []) : l.headD 0 ∈ l := by cases l <;> simp at *
theorem getLastD_mem {l : List Int} (h : l ≠ []) : l.getLastD 0 ∈ l := by
  rw [List.getLastD_eq_getLast?, List.getLast?_eq_some_getLast h]
  exact List.getLast_mem h
theorem lowAt_range (d : Dome) (r : Int) (h : 0 ≤ d.loss) : 0 ≤ lowAt d r ∧ lowAt d r ≤ 2000 := by
  unfold lowAt
  by_cases he : goods (tentOf d) r = []
  · rw [he]; simp
  · have := (mem_goods.1 (headD_mem he)).1
    have e : (tentOf d).dome.loss = d.loss := rfl
    rw [e] at this
    omega
theorem highAt_range (d : Dome) (r : Int) (h : 0 ≤ d.loss) : 0 ≤ highAt d r ∧ highAt d r ≤ 2000 := by
  unfold highAt
  by_cases he : goods (tentOf d) r = []
  · rw [he]; simp
  · have := (mem_goods.1 (getLastD_mem he)).1
    have e : (tentOf d).dome.loss = d.loss := rfl
    rw [e] at this
    omega
def spanAt (d : Dome) (r : Nat) : Span := ⟨lowAt d r, highAt d r⟩
def cutsTo (d : Dome) (k : Nat) : List Span := (List.range k).map (spanAt d)
theorem cutsTo_get {d : Dome} {n k : Nat} (h : k < n) : (cutsTo d n)[k]? = some (spanAt d k) := by simp [cutsTo, h]
theorem cutsTo_succ (d : Dome) (k : Nat) : cutsTo d (k + 1) = cutsTo d k ++ [spanAt d k] := by simp [cutsTo, List.range_succ]
theorem cutsTo_len (d : Dome) (k : Nat) : (cutsTo d k).length = k := by simp [cutsTo]
def needTo (d : Dome) (row : Nat) (k : Nat) : Int := (List.range k).foldl (fun (m : Int) (j : Nat) => max m (lowAt d j - d.slope * max ((row : Int) - j) ((j : Int) - row))) (lowAt d row)
theorem needTo_succ (d : Dome) (row k : Nat) : needTo d row (k + 1) = max (needTo d row k) (lowAt d k - d.slope * max ((row : Int) - k) ((k : Int) - row)) := by
  simp [needTo, List.range_succ]
theorem slope_mul {s a : Int} (h : 0 ≤ s ∧ s ≤ 500) (ha : 0 ≤ a ∧ a ≤ 1000) : 0 ≤ s * a ∧ s * a ≤ 500000 := by
  refine ⟨Int.mul_nonneg h.1 ha.1, ?_⟩
  have := Int.mul_le_mul h.2 ha.2 ha.1 (by decide)
  omega
theorem needTo_range {d : Dome} (hv : Valid d) {row : Nat} (hr : row ≤ 12) : ∀ k : Nat, k ≤ 12 → 0 ≤ needTo d row k ∧ needTo d row k ≤ 2000
  | 0, _ => by simpa [needTo] using lowAt_range d row hv.loss.1
  | k + 1, hk => by
    have h1 := needTo_range hv hr k (by omega)
    have h2 := lowAt_range d k hv.loss.1
    have h3 := slope_mul (a := max ((row : Int) - k) ((k : Int) - row)) hv.slope (by omega)
    rw [needTo_succ]
    omega
def outsTo (d : Dome) (n k : Nat) : List Int := (List.range k).map fun r => needTo d r n
theorem outsTo_succ (d : Dome) (n k : Nat) : outsTo d n (k + 1) = outsTo d n k ++ [needTo d k n] := by simp [outsTo, List.range_succ]
theorem outsTo_len (d : Dome) (n k : Nat) : (outsTo d n k).length = k := by simp [outsTo]
def hasCuts (d : Dome) (k : Nat) : Bool := (List.range k).all fun r => !(goods (tentOf d) r).isEmpty
def fitsAll (d : Dome) (n k : Nat) : Bool := (List.range k).all fun r => decide (needTo d r n ≤ highAt d r)
def curveR (d : Dome) : List Int × Int :=
  if pitchE d true = 0 then
    (if hasCuts d d.rounds.length && fitsAll d d.rounds.length d.rounds.length then (outsTo d d.rounds.length d.rounds.length, 0) else ([], 3))
  else ([], pitchE d true)
theorem all_range_false {p : Nat → Bool} {n i : Nat} (hi : i < n) (h : p i = false) : (List.range n).all p = false := by
  rw [List.all_eq_false]
  exact ⟨i, List.mem_range.2 hi, by simp [h]⟩
theorem all_range_succ {p : Nat → Bool} {n : Nat} (h : (List.range n).all p = true) (h2 : p n = true) : (List.range (n + 1)).all p = true := by
  rw [List.range_succ, List.all_append, h]; simp [h2]
theorem P33 (d : Dome) : PureCall Try.prog 33 [.ag (eDome d)] (eLE (curveR d)) := by
  refine pure_body okM hmix Try.func33 cb33 cc33 cs33 cn33 ?_
  simp only [rc33, rs33, gM45, pitchV, eLE, curveR, ru_skip, ru_reg, ru_seq, ru_cond, ru_block, ru_ret, ru_keep, ru_own, thenQ, run_nil, run_cons, Fam.step, stepQ, evO, opv, qv, pickV, binV, ldV, lenV, callV, V.cells, solid, hasRef, hasRefL, flat, flatL, upd_some, lkp_cons, lkp_nil, ↓reduceIte, Nat.reduceEqDiff, Nat.reduceAdd, Nat.reduceLT, Nat.reduceLeDiff, List.map_cons, List.map_nil, List.length_cons, List.length_nil, List.drop_succ_cons, List.drop_zero, List.take_succ_cons, List.take_nil, List.headD_cons, List.cons_append, List.nil_append, List.append_nil, List.getElem?_cons_zero, List.getElem?_cons_succ, List.getElem?_nil, Option.getD_some, endQ, rvs, rv1, resV, vw_i, vw_b, vw_z, vw_sl, vw_ag, vw_tp, zipA, Nat.zero_add, Bool.and_self, Bool.and_true, Bool.or_false, Bool.false_eq_true, decide_eq_true_eq, decide_eq_false_iff_not, true_and, and_self, false_implies, Bool.not_eq_false', Bool.not_eq_true', List.length_map, domeE, eDome, eTent]
  refine ⟨fun h => by simp [h], fun h => ?_⟩
  obtain ⟨hg, _⟩ := pitchE_zero h
  have hnr := hg.v.nr
  simp only [h, ↓reduceIte]
  refine ru_countC d.rounds.length (fun i => ⟨lkp [(1, .pa (eDome d)), (4, .pa (eTent (tentOf d))), (6, .rf 0 i 0 i 2), (26, .i d.rounds.length), (27, .i i)], [.cells i ((cutsTo d i).map eSpan).flatten]⟩) (fun i => hasCuts d i = true) ?_ ?_ ?_ ?_
  · simp only [Int.natCast_zero, tentOf, eTent, cutsTo, List.range_zero, List.flatten_nil, cutH, kp, cutV, cutL, cutB, lkp_cons, lkp_nil, ↓reduceIte, Nat.reduceEqDiff, Nat.reduceLT, List.map_cons, List.map_nil, List.take_succ_cons, List.take_nil, List.cons_append, List.nil_append, eDome, eTent]
  · rfl
  · intro i hi hC
    have hrow : isRow d i = true := by simp only [isRow, within, Bool.and_eq_true, decide_eq_true_eq]; omega
    have h48 := hg.ok48 hrow
    have hlt : (i : Int) < d.rounds.length := by omega
    have h3 : inI ((i : Int) + 1) := by unfold inI; omega
    unfold tentOf at h48
    simp only [hlt, h3, eTent, tentOf, gM48, h48, eSB, cutOf, Int.natCast_add, Int.natCast_one, cutsTo_succ, ru_skip, ru_reg, ru_seq, ru_cond, ru_block, ru_exit, ru_ret, ru_keep, ru_drp, ru_own, chunk1, ↓cut_lkp, cutH, putB, thenQ, blockQ, run_nil, run_cons, Fam.step, stepQ, stepW, needW, putB, nv, sv, newsV, evO, opv, qv, pickV, binV, ldV, lenV, callV, foldParts, putAt, partsOk, partsOne, V.cells, solid, cellOk, hasRef, hasRefL, flat, flatL, kp, cutV, cutL, cutB, upd_some, upd_none, lkp_cons, lkp_nil, ↓reduceIte, Nat.reduceEqDiff, Nat.reduceAdd, Nat.reduceMul, Nat.reduceLT, Nat.reduceLeDiff, List.map_cons, List.map_nil, List.all_cons, List.all_nil, List.length_cons, List.length_nil, List.drop_succ_cons, List.drop_zero, List.drop_nil, List.take_succ_cons, List.take_zero, List.take_nil, List.cons_append, List.nil_append, List.append_nil, List.getElem?_cons_zero, List.getElem?_cons_succ, Option.getD_some, List.set_cons_zero, List.set_cons_succ, List.replicate_zero, List.replicate_succ, endQ, rvs, rv1, resV, vw_i, vw_z, vw_pa, vw_ag, vw_tp, vw_ad, Nat.zero_add, Bool.and_self, Bool.or_false, Bool.false_eq_true, Bool.true_eq_false, decide_true, true_and, and_true, and_self, forall_const, false_implies, implies_true, reduceCtorEq, not_false_eq_true, ne_eq, Bool.not_not, domeE, eSpan, eDome, eTent]
    refine ⟨fun he => ?_, fun he => ?_⟩
    · have e : hasCuts d d.rounds.length = false := all_range_false hi (by simp only [tentOf, he]; rfl)
      simp only [e, ↓reduceIte, List.map_nil, Bool.false_and, Bool.false_eq_true]
    · have hsp : cutSp (goods ⟨d, cansOf d⟩ i) = spanAt d i := rfl
      refine ⟨⟨by rw [len_S, cutsTo_len], by unfold fitsLen; omega⟩, all_range_succ hC (by simp only [tentOf, he]; rfl), ?_⟩
      simp only [hsp, cutL_append, cutL_noref _ _ _ (noref_S (cutsTo d i)), List.flatten_cons, List.flatten_nil, flat_snoc, cutV, cutL, List.append_nil, eSpan]
  · intro hC
    simp only [ru_skip, ru_reg, ru_seq, ru_cond, ru_block, ru_exit, ru_ret, ru_keep, ru_drp, ru_own, chunk1, ↓cut_lkp, cutH, putB, thenQ, blockQ, run_nil, run_cons, Fam.step, stepQ, stepW, needW, putB, nv, sv, newsV, evO, opv, qv, pickV, binV, ldV, lenV, callV, foldParts, putAt, partsOk, partsOne, V.cells, solid, hasRef, hasRefL, cutV, cutB, upd_some, upd_none, lkp_cons, lkp_nil, ↓reduceIte, Nat.reduceEqDiff, Nat.reduceAdd, Nat.reduceMul, Nat.reduceLT, Nat.reduceLeDiff, List.map_cons, List.map_nil, List.length_cons, List.length_nil, List.drop_zero, List.take_succ_cons, List.take_zero, List.cons_append, List.nil_append, List.append_nil, List.getElem?_cons_zero, List.getElem?_cons_succ, List.set_cons_zero, List.set_cons_succ, List.replicate_zero, List.replicate_succ, endQ, rvs, rv1, resV, vw_i, vw_z, vw_pa, vw_ag, vw_tp, vw_ad, Int.lt_irrefl, Nat.zero_add, Bool.or_false, Bool.false_eq_true, decide_false, true_and, and_true, and_self, and_false, forall_const, false_implies, reduceCtorEq, not_false_eq_true, ne_eq, List.length_map, eDome, eTent]
    refine ru_countC d.rounds.length (fun i => ⟨lkp [(1, .pa (eDome d)), (6, .rf 0 d.rounds.length 0 d.rounds.length 2), (10, .rf 1 i 0 i 1), (43, .rf 0 d.rounds.length 0 d.rounds.length 2), (44, .i d.rounds.length), (45, .i i)],
      [.cells d.rounds.length ((cutsTo d d.rounds.length).map eSpan).flatten, .cells i ((outsTo d d.rounds.length i).map eI).flatten]⟩) (fun i => fitsAll d d.rounds.length i = true) ?_ ?_ ?_ ?_
    · simp only [Int.natCast_zero, outsTo, List.range_zero, List.flatten_nil, cutL_noref _ _ _ (noref_S _), cutH, kp, cutV, cutL, cutB, lkp_cons, lkp_nil, ↓reduceIte, Nat.reduceEqDiff, Nat.reduceLT, List.map_cons, List.map_nil, List.take_succ_cons, List.take_nil, eDome]
    · rfl
    · intro i hi hC2
      have hlt : (i : Int) < d.rounds.length := by omega
      have h3 : inI ((i : Int) + 1) := by unfold inI; omega
      have hat := flat_at (e := eSpan) (k := 2) (fun _ => rfl) (cutsTo_get (d := d) hi)
      have hli := len_S (cutsTo d d.rounds.length)
      rw [cutsTo_len] at hli
      have h5 : i * 2 + 2 ≤ d.rounds.length * 2 := by omega
      simp only [hlt, hat, hli, h5, ru_skip, ru_reg, ru_seq, ru_cond, ru_block, ru_exit, ru_ret, ru_keep, cutH, putB, thenQ, blockQ, run_nil, run_cons, Fam.step, stepQ, stepW, needW, putB, nv, sv, evO, opv, qv, pickV, binV, ldV, iadV, lenV, curG, putAt, V.cells, solid, cellOk, kp, upd_some, upd_none, lkp_cons, lkp_nil, ↓reduceIte, Nat.reduceEqDiff, Nat.reduceAdd, Nat.reduceLeDiff, List.map_cons, List.map_nil, List.all_cons, List.all_nil, List.length_cons, List.length_nil, List.drop_succ_cons, List.drop_zero, List.drop_nil, List.take_zero, List.headD_cons, List.cons_append, List.nil_append, List.append_nil, List.getElem?_cons_zero, List.getElem?_cons_succ, List.set_cons_zero, List.set_cons_succ, endQ, rvs, rv1, resV, vw_i, vw_tp, vw_rf, Int.natCast_nonneg, beq_self_eq_true, Nat.zero_add, Nat.add_zero, Bool.and_self, Bool.false_eq_true, Bool.true_eq_false, decide_true, true_and, and_true, and_self, forall_const, false_implies, Int.toNat_natCast, eSpan, eDome]
      refine ru_count d.rounds.length (fun k => ⟨lkp [(1, .pa (eDome d)), (6, .rf 0 d.rounds.length 0 d.rounds.length 2), (10, .rf 1 i 0 i 1), (11, .i i), (12, .ad 2 0 0), (13, .i (needTo d i k)), (43, .rf 0 d.rounds.length 0 d.rounds.length 2), (44, .i d.rounds.length), (45, .i i), (52, .rf 0 d.rounds.length 0 d.rounds.length 2), (53, .i d.rounds.length), (54, .i k)],
        [.cells d.rounds.length ((cutsTo d d.rounds.length).map eSpan).flatten, .cells i ((outsTo d d.rounds.length i).map eI).flatten, .cells 0 (eSpan (spanAt d i))]⟩) ?_ ?_ ?_
      · simp only [Int.natCast_zero, cutL_noref _ _ _ (noref_S _), cutL_noref _ _ _ (noref_I _), cutH, kp, cutV, cutL, cutB, lkp_cons, lkp_nil, ↓reduceIte, Nat.reduceEqDiff, Nat.reduceLT, List.map_cons, List.map_nil, List.take_succ_cons, List.take_nil, eSpan, eDome]
        rfl
      · intro k hk
        have hat2 := flat_at (e := eSpan) (k := 2) (fun _ => rfl) (cutsTo_get (d := d) hk)
        have hlt2 : (k : Int) < d.rounds.length := by omega
        have h4 : inI ((k : Int) + 1) := by unfold inI; omega
        have l1 := lowAt_range d k hg.v.loss.1
        have l2 := needTo_range hg.v (row := i) (by omega) k (by omega)
        have l3 := slope_mul (a := max ((i : Int) - k) ((k : Int) - i)) hg.v.slope (by omega)
        have i5 : inI ((i : Int) - k) := by unfold inI; omega
        have i6 : inI ((k : Int) - i) := by unfold inI; omega
        have i7 : inI (d.slope * max ((i : Int) - k) ((k : Int) - i)) := by unfold inI; omega
        have i8 : inI (lowAt d k - d.slope * max ((i : Int) - k) ((k : Int) - i)) := by unfold inI; omega
        have h6 : k * 2 + 2 ≤ d.rounds.length * 2 := by omega
        simp only [hlt2, h4, h6, hat2, hli, Int.natCast_add, Int.natCast_one, needTo_succ, spanAt, i5, i6, i7, i8, cutL_noref _ _ _ (noref_S _), cutL_noref _ _ _ (noref_I _), ru_skip, ru_reg, ru_seq, ru_cond, ru_block, ru_exit, ru_ret, ru_keep, ru_drp, chunk1, ↓cut_lkp, cutH, putB, thenQ, blockQ, run_nil, run_cons, Fam.step, stepQ, stepW, needW, putB, nv, sv, newsV, evO, opv, qv, pickV, binV, ldV, iadV, curG, foldParts, putAt, partsOk, partsOne, V.cells, solid, cellOk, hasRef, hasRefL, kp, cutV, cutL, cutB, upd_some, upd_none, lkp_cons, lkp_nil, ↓reduceIte, Nat.reduceEqDiff, Nat.reduceAdd, Nat.reduceMul, Nat.reduceLT, Nat.reduceLeDiff, List.map_cons, List.map_nil, List.all_cons, List.all_nil, List.length_cons, List.length_nil, List.drop_succ_cons, List.drop_zero, List.drop_nil, List.take_succ_cons, List.take_zero, List.take_nil, List.headD_cons, List.cons_append, List.nil_append, List.append_nil, List.getElem?_cons_zero, List.getElem?_cons_succ, List.set_cons_zero, List.set_cons_succ, List.replicate_zero, List.replicate_succ, endQ, rvs, rv1, resV, vw_i, vw_z, vw_tp, vw_ad, Int.natCast_nonneg, beq_self_eq_true, Nat.zero_add, Nat.add_zero, Bool.and_self, Bool.or_false, Bool.false_eq_true, Bool.true_eq_false, decide_true, decide_eq_true_eq, decide_eq_false_iff_not, true_and, and_self, forall_const, false_implies, reduceCtorEq, not_false_eq_true, ne_eq, Int.toNat_natCast, eSpan, eDome]
      · have hsp : spanAt d i = ⟨lowAt d i, highAt d i⟩ := rfl
        have hn := needTo_range hg.v (row := i) (by omega) d.rounds.length (by omega)
        simp only [hsp, cutL_noref _ _ _ (noref_S _), cutL_noref _ _ _ (noref_I _), ru_skip, ru_reg, ru_seq, ru_cond, ru_block, ru_exit, ru_ret, ru_keep, ru_drp, chunk1, ↓cut_lkp, cutH, putB, thenQ, blockQ, run_nil, run_cons, Fam.step, stepQ, stepW, needW, putB, nv, sv, newsV, evO, opv, qv, pickV, binV, ldV, iadV, curG, foldParts, putAt, partsOk, partsOne, V.cells, solid, cellOk, hasRef, hasRefL, cutV, cutL, cutB, upd_some, upd_none, lkp_cons, lkp_nil, ↓reduceIte, Nat.reduceEqDiff, Nat.reduceAdd, Nat.reduceMul, Nat.reduceLT, Nat.reduceLeDiff, List.map_cons, List.map_nil, List.all_cons, List.all_nil, List.length_cons, List.length_nil, List.drop_succ_cons, List.drop_zero, List.take_succ_cons, List.take_zero, List.take_nil, List.headD_cons, List.cons_append, List.nil_append, List.getElem?_cons_zero, List.getElem?_cons_succ, List.set_cons_zero, List.set_cons_succ, List.replicate_zero, List.replicate_succ, endQ, rvs, rv1, resV, vw_i, vw_z, vw_tp, vw_ad, Int.lt_irrefl, Int.natCast_nonneg, beq_self_eq_true, Nat.zero_add, Nat.add_zero, Bool.and_self, Bool.or_false, Bool.false_eq_true, decide_false, decide_eq_true_eq, decide_eq_false_iff_not, true_and, and_self, and_false, forall_const, reduceCtorEq, not_false_eq_true, ne_eq, imp_self, Int.toNat_natCast, eSpan, eDome]
        refine ⟨fun hgt => ?_, fun hle => ?_⟩
        · have e : fitsAll d d.rounds.length d.rounds.length = false := all_range_false hi (by simp; omega)
          simp only [e, ↓reduceIte, List.map_nil, Bool.and_false, Bool.false_eq_true]
        · have e : decide (needTo d i d.rounds.length ≤ highAt d i) = true := by simp; omega
          refine ⟨⟨by rw [len_I, outsTo_len], by unfold fitsLen; omega⟩, h3, all_range_succ hC2 e, ?_⟩
          simp only [outsTo_succ, cutL_append, cutL_noref _ _ _ (noref_I _), List.flatten_cons, List.flatten_nil, flat_snoc, Int.natCast_add, Int.natCast_one, cutV, cutL, List.append_nil, eI]
    · intro hC2
      have hch := chunk_I (outsTo d d.rounds.length d.rounds.length)
      rw [outsTo_len] at hch
      simp only [hC, hC2, hch, outsTo_len, len_I, vw_I, Nat.mul_one, Nat.le_refl, ru_skip, ru_reg, ru_seq, ru_cond, ru_block, ru_exit, ru_ret, ru_keep, putB, thenQ, blockQ, run_nil, run_cons, Fam.step, stepQ, stepW, needW, putB, nv, sv, evO, opv, qv, pickV, binV, ldV, iadV, lenV, curG, putAt, V.cells, solid, upd_some, upd_none, lkp_cons, lkp_nil, ↓reduceIte, Nat.reduceEqDiff, Nat.reduceAdd, List.map_cons, List.map_nil, List.length_cons, List.length_nil, List.drop_zero, List.take_zero, List.cons_append, List.nil_append, List.getElem?_cons_zero, List.getElem?_cons_succ, List.set_cons_zero, List.set_cons_succ, endQ, rvs, rv1, resV, vw_i, vw_tp, vw_rf, Int.lt_irrefl, Int.natCast_nonneg, beq_self_eq_true, Nat.zero_add, Nat.add_zero, Bool.and_self, Bool.false_eq_true, decide_false, true_and, and_self, false_and, and_false, forall_const, imp_self, Int.toNat_natCast, eDome]

theorem curveR_range (d : Dome) : (curveR d).1.length ≤ 12 ∧ ∀ x ∈ (curveR d).1, 0 ≤ x ∧ x ≤ 2000 := by
  unfold curveR
  by_cases h : pitchE d true = 0
  · rw [if_pos h]
    obtain ⟨hg, _⟩ := pitchE_zero h
    have hnr := hg.v.nr
    split
    · refine ⟨by rw [outsTo_len]; omega, fun x hx => ?_⟩
      obtain ⟨r, hr, rfl⟩ := List.mem_map.1 hx
      have := List.mem_range.1 hr
      exact needTo_range hg.v (by omega) _ (by omega)
    · simp
  · rw [if_neg h]; simp
def leastR (d : Dome) : Int × Int := ((curveR d).1.sum, (curveR d).2)
def r33 : List V → Prop × V := fnG (fun d => [.ag (eDome d)]) dD (fun _ => True) curveR eLE
def GN : Gam := GM.ext 33 r33
theorem okN : GOk Try.prog GN := okM.ext (f := 33) (r := r33) (fun a w => Try.call33 a w) (fnG_ok fun a _ => P33 a)
theorem gN33 (b : List Bolt) (g : List Int) (l : Int) (r : List Span) (w : List Int) (s : Int) :
    GN 33 [.ag [.sl 4 (b.map eBolt), .sl 1 (g.map eI), .i l, .sl 2 (r.map eSpan), .sl 1 (w.map eI), .i s]] = (True, eLE (curveR ⟨b, g, l, r, w, s⟩)) :=
  (show GN 33 _ = r33 [.ag (eDome ⟨b, g, l, r, w, s⟩)] from rfl).trans (fnG_at (e := fun d => [.ag (eDome d)]) _ (dDome_e _))
theorem P31 (d : Dome) : PureCall Try.prog 31 [.ag (eDome d)] (eNE (leastR d)) := by
  refine pure_body okN hmix Try.func31 cb31 cc31 cs31 cn31 ?_
  have hr := curveR_range d
  unfold leastR
  generalize hc : curveR d = c at *
  obtain ⟨l, e⟩ := c
  simp only [rc31, rs31, gN33, hc, eLE, eNE, ru_reg, ru_seq, ru_block, ru_keep, thenQ, run_nil, run_cons, Fam.step, stepQ, evO, opv, qv, pickV, ldV, lenV, callV, V.cells, solid, hasRef, hasRefL, flat, flatL, upd_some, lkp_cons, lkp_nil, ↓reduceIte, Nat.reduceEqDiff, Nat.reduceAdd, Nat.reduceLT, Nat.reduceLeDiff, List.map_cons, List.map_nil, List.length_cons, List.length_nil, List.take_succ_cons, List.take_nil, List.append_nil, List.getElem?_cons_zero, List.getElem?_cons_succ, Option.getD_some, vw_i, vw_sl, vw_ag, zipA, Nat.zero_add, Bool.and_self, Bool.and_true, Bool.or_false, Bool.false_eq_true, true_and, and_self, imp_self, List.length_map, domeE, eDome]
  dsimp only at hr
  refine ru_count l.length (fun i => ⟨lkp [(2, .i (l.take i).sum), (3, .i e), (12, .sl 1 (l.map eI)), (13, .i l.length), (14, .i i)], []⟩) ?_ ?_ ?_
  · simp only [Int.natCast_zero, List.sum_nil, kp, lkp_cons, lkp_nil, ↓reduceIte, Nat.reduceEqDiff, List.map_cons, List.map_nil, List.take_zero]
  · intro i hi
    obtain ⟨x, hx⟩ : ∃ x, l[i]? = some x := ⟨_, List.getElem?_eq_getElem hi⟩
    have hlt : (i : Int) < l.length := by omega
    have h3 : inI ((i : Int) + 1) := by unfold inI; omega
    have h4 := sum_tame (M := 2000) (by decide) (l.take (i + 1)) (fun y hy => by have := hr.2 y (List.mem_of_mem_take hy); unfold tame; omega)
    have h5 : (l.take (i + 1)).sum = (l.take i).sum + x := by rw [take_succ_of hx, List.sum_append]; simp
    have h6 : ((l.take (i + 1)).length : Int) ≤ 12 := by have := List.length_take_le (i + 1) l; omega
    have h7 : inI ((l.take i).sum + x) := by rw [← h5]; unfold inI tame at *; omega
    simp only [hx, hlt, h3, h5, h7, Int.natCast_add, Int.natCast_one, ru_skip, ru_reg, ru_seq, ru_cond, ru_block, ru_exit, ru_ret, ru_keep, thenQ, blockQ, run_nil, run_cons, Fam.step, stepQ, evO, opv, qv, pickV, binV, ldV, iadV, kp, upd_some, lkp_cons, lkp_nil, ↓reduceIte, Nat.reduceEqDiff, Nat.reduceLeDiff, List.map_cons, List.map_nil, List.length_cons, List.length_nil, List.headD_cons, List.getElem?_nil, Option.getD_some, endQ, rvs, rv1, resV, vw_i, vw_tp, Int.natCast_nonneg, Nat.zero_add, Bool.false_eq_true, Bool.true_eq_false, decide_true, true_and, and_self, forall_const, false_implies, Option.map_some, List.length_map, Int.toNat_natCast, List.getD_eq_getElem?_getD, List.getElem?_map, eI]
  · simp only [List.take_length, ru_skip, ru_reg, ru_seq, ru_cond, ru_block, ru_exit, ru_ret, ru_keep, thenQ, blockQ, run_nil, run_cons, Fam.step, stepQ, evO, opv, qv, pickV, binV, ldV, iadV, upd_some, lkp_cons, lkp_nil, ↓reduceIte, Nat.reduceEqDiff, List.map_cons, List.map_nil, List.getElem?_nil, endQ, rvs, rv1, resV, vw_i, vw_tp, Int.lt_irrefl, Int.natCast_nonneg, Bool.false_eq_true, decide_false, and_self, and_false, forall_const, imp_self, List.length_map, Int.toNat_natCast, List.getD_eq_getElem?_getD, List.getElem?_map]
end Go.C02
