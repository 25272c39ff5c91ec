import Derived.Test.YtgcinomjcgebhaaC02H
set_option linter.all false
set_option linter.unusedSimpArgs false
set_option linter.unusedVariables false
namespace Go.C02
open Go.Fam Go.Proofs
theorem flat_len {α : Type} {e : α → List V} {k : Nat} (h : ∀ x, (e x).length = k) : ∀ l : List α, ((l.map e).flatten).length = l.length * k
  | [] => by simp
  | x :: l => by rw [List.map_cons, List.flatten_cons, List.length_append, h, flat_len h l, List.length_cons, Nat.succ_mul]; omega
mutual
theorem cutV_noref (hp : List Blk) (n : Nat) : ∀ v : V, hasRef v = false → cutV hp n v = v
  | .u, _ | .b _, _ | .i _, _ | .z _, _ | .sl _ _, _ | .pa _, _ | .pn, _ | .yl _, _ => by simp [cutV]
  | .ag cs, h | .tp cs, h => by simp only [hasRef] at h; simp only [cutV, cutL_noref hp n cs h]
  | .fn f cs, h => by simp only [hasRef] at h; simp only [cutV, cutL_noref hp n cs h]
  | .gv q v, h => by simp only [hasRef] at h; simp only [cutV, cutV_noref hp n v h]
  | .ad _ _ _, h | .rf _ _ _ _ _, h | .mp _ _, h | .it _ _, h => by simp [hasRef] at h
theorem cutL_noref (hp : List Blk) (n : Nat) : ∀ vs : List V, hasRefL vs = false → cutL hp n vs = vs
  | [], _ => rfl
  | v :: vs, h => by
    simp only [hasRefL, Bool.or_eq_false_iff] at h
    simp only [cutL, cutV_noref hp n v h.1, cutL_noref hp n vs h.2]
end
theorem cutL_append (hp : List Blk) (n : Nat) : ∀ (a b : List V), cutL hp n (a ++ b) = cutL hp n a ++ cutL hp n b
  | [], b => rfl
  | v :: a, b => by simp only [List.cons_append, cutL, cutL_append hp n a b]
theorem hasRefL_append : ∀ (a b : List V), hasRefL (a ++ b) = (hasRefL a || hasRefL b)
  | [], b => by simp [hasRefL]
  | v :: a, b => by simp only [List.cons_append, hasRefL, hasRefL_append a b, Bool.or_assoc]
mutual
theorem upV_noref (n : Nat) : ∀ v : V, hasRef v = false → upV n v = v
  | .u, _ | .b _, _ | .i _, _ | .z _, _ | .sl _ _, _ | .pa _, _ | .pn, _ | .yl _, _ => by simp [upV]
  | .ag cs, h | .tp cs, h => by simp only [hasRef] at h; simp only [upV, upL_noref n cs h]
  | .fn f cs, h => by simp only [hasRef] at h; simp only [upV, upL_noref n cs h]
  | .gv q v, h => by simp only [hasRef] at h; simp only [upV, upV_noref n v h]
  | .ad _ _ _, h | .rf _ _ _ _ _, h | .mp _ _, h | .it _ _, h => by simp [hasRef] at h
theorem upL_noref (n : Nat) : ∀ vs : List V, hasRefL vs = false → upL n vs = vs
  | [], _ => rfl
  | v :: vs, h => by
    simp only [hasRefL, Bool.or_eq_false_iff] at h
    simp only [upL, upV_noref n v h.1, upL_noref n vs h.2]
end
theorem hasRefL_flat {α : Type} {e : α → List V} (h : ∀ x, hasRefL (e x) = false) : ∀ l : List α, hasRefL (l.map e).flatten = false
  | [] => rfl
  | x :: l => by simp only [List.map_cons, List.flatten_cons, hasRefL_append, h, hasRefL_flat h l, Bool.or_false]
theorem hasRefL_take (vs : List V) (n : Nat) (h : hasRefL vs = false) : hasRefL (vs.take n) = false := by
  have := hasRefL_append (vs.take n) (vs.drop n)
  rw [List.take_append_drop, h] at this
  exact (Bool.or_eq_false_iff.1 this.symm).1
theorem hasRefL_drop (vs : List V) (n : Nat) (h : hasRefL vs = false) : hasRefL (vs.drop n) = false := by
  have := hasRefL_append (vs.take n) (vs.drop n)
  rw [List.take_append_drop, h] at this
  exact (Bool.or_eq_false_iff.1 this.symm).2
theorem put_same {vs : List V} {k : Nat} {v : V} (h : vs[k]? = some v) : vs.take k ++ [v] ++ vs.drop (k + 1) = vs := by
  have hl := getElemLt h
  have e : vs[k] = v := by rw [List.getElem?_eq_getElem hl] at h; exact Option.some.inj h
  rw [← e, List.append_assoc, List.singleton_append, ← List.drop_eq_getElem_cons hl, List.take_append_drop]
theorem flat_get {α : Type} {e : α → List V} {k : Nat} (h : ∀ x, (e x).length = k) : ∀ (l : List α) (i j : Nat) (x : α), l[i]? = some x → j < k → ((l.map e).flatten)[i * k + j]? = (e x)[j]?
  | [], i, j, x, hx, _ => by simp at hx
  | y :: l, 0, j, x, hx, hj => by
    simp at hx; subst hx
    rw [List.map_cons, List.flatten_cons, List.getElem?_append_left (by rw [h]; omega)]
    congr 1; omega
  | y :: l, i + 1, j, x, hx, hj => by
    rw [List.map_cons, List.flatten_cons, List.getElem?_append_right (by rw [h, Nat.succ_mul]; omega), h]
    have := flat_get h l i j x (by simpa using hx) hj
    rw [← this]; congr 1; rw [Nat.succ_mul]; omega
theorem chunk_flat {α : Type} {e : α → List V} {k : Nat} (h : ∀ x, (e x).length = k) : ∀ (l : List α), chunk k ((l.map e).flatten) 0 l.length = l.map e
  | [] => by simp [chunk]
  | x :: l => by
    rw [List.length_cons, chunk_succ, List.map_cons, List.flatten_cons, Nat.zero_add, List.drop_zero]
    have e1 : (e x ++ (l.map e).flatten).take k = e x := by rw [List.take_append_of_le_length (by rw [h]; exact Nat.le_refl _), List.take_of_length_le (by rw [h]; exact Nat.le_refl _)]
    rw [e1]
    congr 1
    have ih := chunk_flat h l
    unfold chunk at ih ⊢
    conv => rhs; rw [← ih]
    apply List.map_congr_left
    intro j _
    congr 1
    have e2 : k + j * k = (e x).length + j * k := by rw [h]
    rw [e2, List.drop_append, Nat.zero_add]
    simp
theorem map_vw_rows {α : Type} {e : α → List V} (hp : List Blk) (n : Nat) (h : ∀ x, (e x).map (vw hp n) = e x) (l : List α) : (l.map e).map (fun r => r.map (vw hp n)) = l.map e := by
  rw [List.map_map]
  exact List.map_congr_left fun x _ => h x
theorem P22 (d : Dome) (h : d.bolts.length < 1000000 ∧ d.gores.length < 1000000 ∧ d.rounds.length < 1000000 ∧ d.widths.length < 1000000 ∧ ∀ b ∈ d.bolts, b.strips.length < 1000000) : PureCall Try.prog 22 [.ag (eDome d)] (.ag (eDome d)) := by
  refine pure_body okH hmix Try.func22 cb22 cc22 cs22 cn22 ?_
  simp only [rc22, rs22, List.flatten_nil, ru_reg, ru_seq, ru_block, ru_keep, putB, thenQ, run_nil, run_cons, Fam.step, stepQ, stepW, needW, putB, nv, sv, newsV, evO, opv, qv, pickV, ldV, curG, foldParts, putAt, partsOk, partsOne, V.cells, solid, cellOk, hasRef, hasRefL, upd_some, upd_none, lkp_cons, lkp_nil, ↓reduceIte, Nat.reduceEqDiff, Nat.reduceAdd, Nat.reduceMul, Nat.reduceLeDiff, List.map_cons, List.map_nil, List.all_cons, List.all_nil, List.length_cons, List.length_nil, List.drop_succ_cons, List.drop_zero, List.drop_nil, List.take_succ_cons, List.take_zero, List.take_nil, List.headD_cons, List.cons_append, List.nil_append, List.append_nil, List.getElem?_cons_zero, List.getElem?_cons_succ, List.set_cons_zero, List.set_cons_succ, List.replicate_zero, vw_i, vw_sl, vw_ag, zipA, beq_self_eq_true, Nat.zero_add, Nat.add_zero, Bool.and_self, Bool.or_false, Bool.false_eq_true, true_and, and_self, List.length_map, eDome]
  refine ⟨by unfold fitsLen; omega, ?_⟩
  refine ru_count d.bolts.length (fun i => ⟨lkp [(1, .pa (eDome d)), (2, .ad 0 0 0), (3, .ad 1 0 0), (4, .i i)], [.cells 0 [.z 4, .z 1, .i 0, .z 2, .z 1, .i 0], .cells 0 [.rf 2 1 0 d.bolts.length 4, .sl 1 (d.gores.map eI), .i d.loss, .sl 2 (d.rounds.map eSpan), .sl 1 (d.widths.map eI), .i d.slope], .cells 1 (d.bolts.map eBolt).flatten]⟩) ?_ ?_ ?_
  · simp only [Int.natCast_zero, cutL_noref _ _ _ (hasRefL_flat (e := eBolt) (fun _ => rfl) d.bolts), cutH, kp, cutV, cutL, cutB, lkp_cons, lkp_nil, ↓reduceIte, Nat.reduceEqDiff, Nat.reduceLT, List.map_cons, List.map_nil, List.take_succ_cons, List.take_nil, eDome]
  · intro i hi
    obtain ⟨x, hx⟩ : ∃ x, d.bolts[i]? = some x := ⟨_, List.getElem?_eq_getElem hi⟩
    have hlt : (i : Int) < d.bolts.length := by omega
    have h3 : inI ((i : Int) + 1) := by unfold inI; omega
    have hfl := flat_len (e := eBolt) (k := 4) (fun _ => rfl) d.bolts
    have hst : fitsLen x.strips.length := by have := h.2.2.2.2 x (List.mem_of_getElem? hx); unfold fitsLen; omega
    have hoff : i * 4 + 2 + 1 ≤ d.bolts.length * 4 := by omega
    have hnr := hasRefL_flat (e := eBolt) (fun _ => rfl) d.bolts
    have hns := hasRefL_flat (e := eStrip) (fun _ => rfl) x.strips
    have hsl := flat_len (e := eStrip) (k := 3) (fun _ => rfl) x.strips
    have hvw : ∀ hp, (x.strips.map eStrip).map (fun r => r.map (vw hp 7)) = x.strips.map eStrip := fun hp => map_vw_rows (e := eStrip) hp 7 (fun _ => rfl) _
    have hput : List.take (i * 4 + 2) (d.bolts.map eBolt).flatten ++ [V.sl 3 (x.strips.map eStrip)] ++ List.drop (i * 4 + 2 + 1) (d.bolts.map eBolt).flatten = (d.bolts.map eBolt).flatten :=
      put_same (flat_get (k := 4) (fun _ => rfl) d.bolts i 2 x hx (by decide))
    simp only [hx, hlt, Int.natCast_add, Int.natCast_one, h3, List.flatten_nil, hfl, hst, hoff, cutL_append, cutL_noref _ _ _ (hasRefL_take _ _ hnr), cutL_noref _ _ _ (hasRefL_drop _ _ hnr), cutL_noref _ _ _ hnr, hpF, upB, upL_noref _ _ hns, chunk_flat (e := eStrip) (k := 3) (fun _ => rfl), hsl, hvw, Nat.le_refl, hput, ru_skip, ru_reg, ru_any, ru_seq, ru_cond, ru_block, ru_exit, ru_ret, ru_keep, ru_drp, ↓cut_lkp, cutH, putB, thenQ, blockQ, run_nil, run_cons, Fam.step, stepQ, stepW, needW, runX, eff, nextD, fpR, fpQ, fpV, disjB, hits, putB, nv, sv, newsV, evO, opv, qv, pickV, binV, ldV, iadV, lenV, curG, foldParts, putAt, partsOk, partsOne, V.cells, solid, cellOk, kp, cutV, cutL, cutB, upd_some, upd_none, lkp_cons, lkp_nil, ↓reduceIte, Nat.reduceEqDiff, Nat.reduceAdd, Nat.reduceMul, Nat.reduceLT, Nat.reduceLeDiff, Nat.reduceBEq, List.map_cons, List.map_nil, List.all_cons, List.all_nil, List.length_cons, List.length_nil, List.drop_succ_cons, List.drop_zero, List.drop_nil, List.take_succ_cons, List.take_zero, List.take_nil, List.headD_cons, List.cons_append, List.nil_append, List.append_nil, List.getElem?_cons_zero, List.getElem?_cons_succ, List.getElem?_nil, Option.getD_some, Option.getD_none, List.set_cons_zero, List.set_cons_succ, List.replicate_zero, List.replicate_succ, List.isEmpty_nil, List.isEmpty_cons, endQ, rvs, rv1, resV, vw_i, vw_ag, vw_rf, Int.natCast_nonneg, beq_self_eq_true, Nat.zero_add, Nat.add_zero, Bool.and_self, Bool.and_true, Bool.true_and, Bool.false_and, Bool.and_false, Bool.or_false, Bool.false_or, Bool.not_true, Bool.not_false, Bool.false_eq_true, Bool.true_eq_false, decide_true, true_and, and_self, false_and, forall_const, false_implies, reduceCtorEq, Option.map_some, List.any_cons, List.any_nil, List.contains_cons, List.contains_nil, List.length_map, Int.toNat_natCast, List.getD_eq_getElem?_getD, List.getElem?_map, eBolt, eDome]
  · have v1 : ∀ hp, (d.bolts.map eBolt).map (fun r => r.map (vw hp 6)) = d.bolts.map eBolt := fun hp => map_vw_rows (e := eBolt) hp 6 (fun _ => rfl) _
    have v2 : ∀ hp, (d.gores.map eI).map (fun r => r.map (vw hp 6)) = d.gores.map eI := fun hp => map_vw_rows (e := eI) hp 6 (fun _ => rfl) _
    have v3 : ∀ hp, (d.rounds.map eSpan).map (fun r => r.map (vw hp 6)) = d.rounds.map eSpan := fun hp => map_vw_rows (e := eSpan) hp 6 (fun _ => rfl) _
    have v4 : ∀ hp, (d.widths.map eI).map (fun r => r.map (vw hp 6)) = d.widths.map eI := fun hp => map_vw_rows (e := eI) hp 6 (fun _ => rfl) _
    simp only [List.flatten_nil, flat_len (e := eBolt) (k := 4) (fun _ => rfl), flat_len (e := eI) (k := 1) (fun _ => rfl), flat_len (e := eSpan) (k := 2) (fun _ => rfl), chunk_flat (e := eBolt) (k := 4) (fun _ => rfl), chunk_flat (e := eI) (k := 1) (fun _ => rfl), chunk_flat (e := eSpan) (k := 2) (fun _ => rfl), v1, v2, v3, v4, Nat.le_refl, ru_skip, ru_reg, ru_any, ru_seq, ru_cond, ru_block, ru_exit, ru_ret, ru_keep, ru_drp, ↓cut_lkp, cutH, putB, thenQ, blockQ, run_nil, run_cons, Fam.step, stepQ, stepW, needW, runX, eff, nextD, fpR, fpQ, fpV, disjB, hits, putB, nv, sv, newsV, evO, opv, qv, pickV, binV, ldV, iadV, lenV, curG, foldParts, putAt, partsOk, partsOne, V.cells, solid, cellOk, cutV, upd_some, upd_none, lkp_cons, lkp_nil, ↓reduceIte, Nat.reduceEqDiff, Nat.reduceAdd, Nat.reduceMul, Nat.reduceLT, Nat.reduceLeDiff, Nat.reduceBEq, List.map_cons, List.map_nil, List.all_cons, List.all_nil, List.length_cons, List.length_nil, List.drop_succ_cons, List.drop_zero, List.drop_nil, List.take_succ_cons, List.take_zero, List.take_nil, List.headD_cons, List.cons_append, List.nil_append, List.append_nil, List.getElem?_cons_zero, List.getElem?_cons_succ, List.getElem?_nil, Option.getD_some, Option.getD_none, List.set_cons_zero, List.set_cons_succ, List.replicate_zero, List.replicate_succ, List.isEmpty_nil, List.isEmpty_cons, endQ, rvs, rv1, resV, vw_i, vw_ag, vw_rf, Int.lt_irrefl, Int.natCast_nonneg, beq_self_eq_true, Nat.zero_add, Nat.add_zero, Bool.and_self, Bool.and_true, Bool.true_and, Bool.false_and, Bool.and_false, Bool.or_false, Bool.false_or, Bool.not_true, Bool.not_false, Bool.false_eq_true, decide_false, true_and, and_true, and_self, and_false, forall_const, List.any_cons, List.any_nil, List.contains_cons, List.contains_nil, imp_self, List.length_map, Int.toNat_natCast, List.getD_eq_getElem?_getD, List.getElem?_map, eDome]
    unfold fitsLen
    omega
end Go.C02
