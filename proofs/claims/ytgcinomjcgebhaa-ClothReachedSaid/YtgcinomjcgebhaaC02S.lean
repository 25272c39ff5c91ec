import Derived.Test.YtgcinomjcgebhaaC02Q
set_option linter.all false
set_option linter.unusedSimpArgs false
set_option linter.unusedVariables false
namespace Go.C02
open Go.Fam Go.Proofs
def bigs (d : Dome) : Bool := decide ((20 : Int) < d.bolts.length) || decide ((60 : Int) < d.gores.length) || decide ((60 : Int) < d.rounds.length) || decide ((60 : Int) < d.widths.length)
def manyTo (d : Dome) (k : Nat) : Int := (d.bolts.take k).foldl (fun m b => m * (numbersOf b).length) 1
theorem manyTo_succ {d : Dome} {k : Nat} {b : Bolt} (h : d.bolts[k]? = some b) : manyTo d (k + 1) = manyTo d k * (numbersOf b).length := by
  simp [manyTo, take_succ_of h]
def far (d : Dome) : Bool :=
  if bigs d then true else if d.bolts.any (fun b => decide ((60 : Int) < b.strips.length)) then true else if check d ≠ 0 then false
  else decide ((49 : Int) < manyTo d d.bolts.length) || decide ((8 : Int) < d.gores.length) || decide ((4 : Int) < d.rounds.length)
theorem manyTo_range {d : Dome} (hv : Valid d) : ∀ k : Nat, k ≤ 4 → 0 ≤ manyTo d k ∧ manyTo d k ≤ 61 ^ k
  | 0, _ => by simp [manyTo]
  | k + 1, hk => by
    have h1 := manyTo_range hv k (by omega)
    cases hb : d.bolts[k]? with
    | none =>
      have : manyTo d (k + 1) = manyTo d k := by
        have hl := List.getElem?_eq_none_iff.1 hb
        simp [manyTo, List.take_of_length_le hl, List.take_of_length_le (Nat.le_trans hl (Nat.le_succ k))]
      rw [this]
      refine ⟨h1.1, Int.le_trans h1.2 ?_⟩
      exact_mod_cast Nat.pow_le_pow_right (by decide : 0 < 61) (Nat.le_succ k)
    | some b =>
      rw [manyTo_succ hb]
      have h2 := numbersOf_len (hv.bolts b (List.mem_of_getElem? hb))
      refine ⟨Int.mul_nonneg h1.1 (by omega), ?_⟩
      rw [Int.pow_succ]
      exact Int.mul_le_mul h1.2 (by omega) (by omega) (by exact_mod_cast Nat.zero_le (61 ^ k))
theorem gR39 (b : List Bolt) (g : List Int) (l : Int) (r : List Span) (w : List Int) (s : Int) : GR 39 [.ag [.sl 4 (b.map eBolt), .sl 1 (g.map eI), .i l, .sl 2 (r.map eSpan), .sl 1 (w.map eI), .i s]] = (True, .i (check ⟨b, g, l, r, w, s⟩)) := gJ39 ⟨b, g, l, r, w, s⟩
theorem gR49 (a b : Int) (l : List Strip) (w s : Int) : GR 49 [.ag [.i a, .i b, .sl 3 (l.map eStrip), .i w], .i s] = (ok66 l s, .b (can ⟨⟨a, b⟩, l, w⟩ s)) := gJ49 a b l w s
theorem P21 (d : Dome) : PureCall Try.prog 21 [.ag (eDome d)] (.b (far d)) := by
  refine pure_body okR hmix Try.func21 cb21 cc21 cs21 cn21 ?_
  simp only [rc21, rs21, ru_skip, ru_reg, ru_seq, ru_cond, ru_block, ru_ret, ru_keep, thenQ, run_nil, run_cons, Fam.step, stepQ, needQ, condB, ug, evO, opv, qv, pickV, binV, ldV, lenV, V.cells, solid, hasRef, hasRefL, upd_some, lkp_cons, lkp_nil, ↓reduceIte, Nat.reduceEqDiff, Nat.reduceAdd, Nat.reduceLeDiff, List.map_cons, List.map_nil, List.all_cons, List.all_nil, List.length_cons, List.length_nil, List.drop_succ_cons, List.drop_zero, List.headD_cons, endQ, rvs, rv1, resV, vw_i, vw_b, vw_sl, vw_ag, zipA, Nat.zero_add, V.b.injEq, Bool.and_self, Bool.and_true, Bool.or_false, Bool.false_eq_true, decide_eq_true_eq, decide_eq_false_iff_not, true_and, and_true, and_self, implies_true, beq_false, Bool.not_eq_true', ite_t, Bool.decide_eq_true, imp_self, List.length_map, eDome]
  refine ⟨fun h => ?_, fun h => ?_⟩
  · have : bigs d = true := h
    simp [far, this]
  have hbig : bigs d = false := h
  have hlen : d.bolts.length ≤ 20 := by
    simp only [bigs, Bool.or_eq_false_iff, decide_eq_false_iff_not] at hbig
    omega
  refine ru_countC d.bolts.length (fun i => ⟨lkp [(1, .pa (eDome d)), (3, .i i)], []⟩) (fun i => (d.bolts.take i).any (fun b => decide ((60 : Int) < b.strips.length)) = false) ?_ ?_ ?_ ?_
  · simp only [Int.natCast_zero, kp, lkp_cons, lkp_nil, ↓reduceIte, Nat.reduceEqDiff, List.map_cons, List.map_nil, eDome]
  · rfl
  · intro i hi hC
    obtain ⟨b, hb⟩ : ∃ b, d.bolts[i]? = some b := ⟨_, List.getElem?_eq_getElem hi⟩
    have hlt : (i : Int) < d.bolts.length := by omega
    have h3 : inI ((i : Int) + 1) := by unfold inI; omega
    simp only [hb, hlt, h3, Int.natCast_add, Int.natCast_one, ru_skip, ru_reg, ru_seq, ru_cond, ru_block, ru_exit, ru_ret, ru_keep, thenQ, blockQ, run_nil, run_cons, Fam.step, stepQ, evO, opv, qv, pickV, binV, ldV, iadV, lenV, callV, hasRef, hasRefL, kp, upd_some, lkp_cons, lkp_nil, ↓reduceIte, Nat.reduceEqDiff, Nat.reduceAdd, Nat.reduceLT, Nat.reduceLeDiff, List.map_cons, List.map_nil, List.length_cons, List.length_nil, List.drop_succ_cons, List.drop_zero, List.take_succ_cons, List.take_nil, List.headD_cons, List.append_nil, Option.getD_some, endQ, rvs, rv1, resV, vw_i, vw_b, vw_sl, vw_ag, Int.natCast_nonneg, Nat.zero_add, V.b.injEq, Bool.or_false, Bool.false_eq_true, Bool.true_eq_false, decide_true, decide_eq_true_eq, decide_eq_false_iff_not, true_and, and_true, and_self, forall_const, false_implies, Option.map_some, List.length_map, Int.toNat_natCast, List.getD_eq_getElem?_getD, List.getElem?_map, eBolt, eDome]
    refine ⟨fun h60 => ?_, fun h60 => ?_⟩
    · have : d.bolts.any (fun b => decide ((60 : Int) < b.strips.length)) = true := List.any_eq_true.2 ⟨b, List.mem_of_getElem? hb, by simpa using h60⟩
      simp [far, hbig, this]
    · rw [take_succ_of hb, List.any_append, hC]
      simp; omega
  · intro hC
    rw [List.take_length] at hC
    simp only [gR39, ru_skip, ru_reg, ru_seq, ru_cond, ru_block, ru_exit, ru_ret, ru_keep, thenQ, blockQ, run_nil, run_cons, Fam.step, stepQ, evO, opv, qv, pickV, binV, ldV, iadV, lenV, callV, hasRef, hasRefL, flat, upd_some, lkp_cons, lkp_nil, ↓reduceIte, Nat.reduceEqDiff, Nat.reduceAdd, Nat.reduceLT, Nat.reduceLeDiff, List.map_cons, List.map_nil, List.length_cons, List.length_nil, List.drop_zero, List.take_succ_cons, List.take_nil, List.headD_cons, List.append_nil, List.getElem?_nil, endQ, rvs, rv1, resV, vw_i, vw_b, vw_sl, vw_ag, Int.lt_irrefl, Int.natCast_nonneg, Nat.zero_add, V.b.injEq, Bool.or_false, Bool.false_eq_true, decide_false, decide_eq_true_eq, decide_eq_false_iff_not, true_and, and_self, false_and, and_false, forall_const, implies_true, Bool.not_eq_false', Bool.not_eq_true', imp_self, List.length_map, Int.toNat_natCast, List.getD_eq_getElem?_getD, List.getElem?_map, domeE, eDome]
    refine ⟨fun hc => ?_, fun hc => ?_⟩
    · simp [far, hbig, hC, hc]
    have hv := valid_of hc
    have hnb := hv.nb
    refine ru_count d.bolts.length (fun i => ⟨lkp [(1, .pa (eDome d)), (4, .i (manyTo d i)), (5, .i i)], []⟩) ?_ ?_ ?_
    · simp only [Int.natCast_zero, manyTo, List.foldl_nil, kp, lkp_cons, lkp_nil, ↓reduceIte, Nat.reduceEqDiff, List.map_cons, List.map_nil, List.take_zero, eDome]
    · intro i hi
      obtain ⟨b, hb⟩ : ∃ b, d.bolts[i]? = some b := ⟨_, List.getElem?_eq_getElem hi⟩
      have hlt : (i : Int) < d.bolts.length := by omega
      have h3 : inI ((i : Int) + 1) := by unfold inI; omega
      have hvb := hv.bolts b (List.mem_of_getElem? hb)
      have hst := hvb.st
      simp only [hb, hlt, Int.natCast_add, Int.natCast_one, ru_skip, ru_reg, ru_seq, ru_cond, ru_block, ru_exit, ru_ret, ru_keep, thenQ, blockQ, run_nil, run_cons, Fam.step, stepQ, needQ, condB, ug, evO, opv, qv, pickV, binV, ldV, iadV, lenV, kp, upd_some, lkp_cons, lkp_nil, ↓reduceIte, Nat.reduceEqDiff, Nat.reduceAdd, Nat.reduceLeDiff, List.map_cons, List.map_nil, List.all_cons, List.all_nil, List.length_cons, List.length_nil, List.drop_succ_cons, List.drop_zero, List.headD_cons, Option.getD_some, endQ, rvs, rv1, resV, vw_b, Int.natCast_nonneg, Nat.zero_add, V.b.injEq, Bool.and_self, Bool.and_true, Bool.false_eq_true, Bool.true_eq_false, decide_true, decide_eq_true_eq, decide_eq_false_iff_not, true_and, and_true, and_self, forall_const, false_implies, implies_true, Option.map_some, beq_false, Bool.not_eq_true', ite_t, Bool.decide_eq_true, imp_self, List.length_map, Int.toNat_natCast, List.getD_eq_getElem?_getD, List.getElem?_map, eBolt, eDome]
      refine ru_count (b.stretch.high + 1 - b.stretch.low).toNat (fun k => ⟨lkp [(1, .pa (eDome d)), (4, .i (manyTo d i)), (5, .i i), (6, .i (numbersTo b k).length), (7, .i (b.stretch.low + k))], []⟩) ?_ ?_ ?_
      · simp only [Int.natCast_zero, Int.add_zero, numbersTo, List.filter_nil, kp, lkp_cons, lkp_nil, ↓reduceIte, Nat.reduceEqDiff, List.map_cons, List.map_nil, List.length_nil, List.take_zero, eDome]
      · intro k hk
        have hlt2 : b.stretch.low + (k : Int) ≤ b.stretch.high := by omega
        have h4 : inI (b.stretch.low + (k : Int) + 1) := by unfold inI; omega
        have h5 := hvb.ok66 (s := b.stretch.low + k) (by omega)
        have h6 := numbersTo_len b k
        have h7 : inI (((numbersTo b k).length : Int) + 1) := by unfold inI; omega
        rw [Int.add_assoc] at h4
        simp only [hb, hlt, hlt2, h4, h5, h7, gR49, numbersTo_succ hk, Int.natCast_add, Int.natCast_one, Int.add_assoc, ru_skip, ru_reg, ru_seq, ru_cond, ru_block, ru_exit, ru_keep, thenQ, blockQ, run_nil, run_cons, Fam.step, stepQ, evO, opv, qv, pickV, binV, ldV, iadV, callV, hasRef, hasRefL, flat, kp, upd_some, lkp_cons, lkp_nil, ↓reduceIte, Nat.reduceEqDiff, Nat.reduceAdd, Nat.reduceLT, Nat.reduceLeDiff, List.map_cons, List.map_nil, List.length_cons, List.length_nil, List.drop_succ_cons, List.drop_zero, List.take_succ_cons, List.take_nil, List.headD_cons, List.append_nil, Option.getD_some, vw_i, vw_sl, vw_ag, Int.natCast_nonneg, Nat.zero_add, Bool.or_false, Bool.false_eq_true, Bool.true_eq_false, decide_true, true_and, and_true, and_self, forall_const, false_implies, implies_true, Option.map_some, List.length_map, Int.toNat_natCast, List.getD_eq_getElem?_getD, List.getElem?_map, spanE, boltE, eBolt, eDome]
        refine ⟨fun h => ?_, fun h => ?_⟩
        · simp only [h, List.length_append, Int.natCast_add, Int.natCast_one, ↓reduceIte, List.length_cons, List.length_nil, Nat.zero_add]
        · simp only [h, ↓reduceIte, List.append_nil, Bool.false_eq_true]
      · have hgt : ¬ (b.stretch.low + ((b.stretch.high + 1 - b.stretch.low).toNat : Int) ≤ b.stretch.high) := by omega
        have hm := manyTo_range hv (i + 1) (by omega)
        have hp : (61 : Int) ^ (i + 1) ≤ 61 ^ 4 := by exact_mod_cast Nat.pow_le_pow_right (by decide : 0 < 61) (show i + 1 ≤ 4 by omega)
        rw [manyTo_succ hb] at hm
        have h8 : inI (manyTo d i * (numbersOf b).length) := by unfold inI; omega
        simp only [hb, hlt, hgt, numbersTo_all, h8, h3, manyTo_succ hb, ru_skip, ru_reg, ru_seq, ru_cond, ru_block, ru_exit, ru_keep, thenQ, blockQ, run_nil, run_cons, Fam.step, stepQ, evO, opv, qv, pickV, binV, ldV, iadV, callV, hasRef, hasRefL, upd_some, lkp_cons, lkp_nil, ↓reduceIte, Nat.reduceEqDiff, Nat.reduceAdd, Nat.reduceLT, Nat.reduceLeDiff, List.map_cons, List.map_nil, List.length_cons, List.length_nil, List.drop_succ_cons, List.drop_zero, List.take_succ_cons, List.take_nil, List.headD_cons, List.append_nil, Option.getD_some, vw_i, vw_sl, vw_ag, Int.natCast_nonneg, Nat.zero_add, Bool.or_false, Bool.false_eq_true, decide_false, true_and, and_true, and_self, and_false, forall_const, false_implies, Option.map_some, List.length_map, Int.toNat_natCast, List.getD_eq_getElem?_getD, List.getElem?_map, eBolt, eDome]
    · simp only [ru_skip, ru_reg, ru_seq, ru_cond, ru_block, ru_exit, ru_ret, ru_keep, thenQ, blockQ, run_nil, run_cons, Fam.step, stepQ, needQ, condB, ug, evO, opv, qv, pickV, binV, ldV, iadV, lenV, upd_some, lkp_cons, lkp_nil, ↓reduceIte, Nat.reduceEqDiff, Nat.reduceAdd, Nat.reduceLeDiff, List.map_cons, List.map_nil, List.all_cons, List.all_nil, List.length_cons, List.length_nil, List.drop_succ_cons, List.drop_zero, List.headD_cons, endQ, rvs, rv1, resV, vw_b, Int.lt_irrefl, Int.natCast_nonneg, Nat.zero_add, V.b.injEq, Bool.and_self, Bool.and_true, Bool.false_eq_true, decide_false, decide_eq_true_eq, decide_eq_false_iff_not, true_and, and_true, and_self, false_and, and_false, forall_const, implies_true, beq_false, Bool.not_eq_true', ite_t, Bool.decide_eq_true, imp_self, List.length_map, Int.toNat_natCast, List.getD_eq_getElem?_getD, List.getElem?_map, eDome]
      simp [far, hbig, hC, hc]
def r21 : List V → Prop × V := fnG (fun d => [.ag (eDome d)]) dD (fun _ => True) far .b
def r16 : List V → Prop × V := fnG (fun _ : Unit => []) (fun _ => ()) (fun _ => True) (fun _ => true) .b
noncomputable def GS : Gam := (GR.ext 21 r21).ext 16 r16
theorem okS : GOk Try.prog GS := by
  have k1 := okR.ext (f := 21) (r := r21) (fun a w => Try.call21 a w) (fnG_ok fun a _ => P21 a)
  exact k1.ext (f := 16) (r := r16) (fun a w => Try.call16 a w) (fnG_ok fun _ _ => P16)
theorem gS21 (b : List Bolt) (g : List Int) (l : Int) (r : List Span) (w : List Int) (s : Int) : GS 21 [.ag [.sl 4 (b.map eBolt), .sl 1 (g.map eI), .i l, .sl 2 (r.map eSpan), .sl 1 (w.map eI), .i s]] = (True, .b (far ⟨b, g, l, r, w, s⟩)) :=
  (show GS 21 _ = r21 [.ag (eDome ⟨b, g, l, r, w, s⟩)] from rfl).trans (fnG_at (e := fun d => [.ag (eDome d)]) _ (dDome_e _))
theorem gS39 (b : List Bolt) (g : List Int) (l : Int) (r : List Span) (w : List Int) (s : Int) : GS 39 [.ag [.sl 4 (b.map eBolt), .sl 1 (g.map eI), .i l, .sl 2 (r.map eSpan), .sl 1 (w.map eI), .i s]] = (True, .i (check ⟨b, g, l, r, w, s⟩)) := gR39 b g l r w s
theorem gS16 : GS 16 [] = (True, .b true) := (show GS 16 _ = r16 [] from rfl).trans (by simp [r16, fnG])
theorem gS22o (b : List Bolt) (g : List Int) (l : Int) (r : List Span) (w : List Int) (s : Int) : GS 1000022 [.ag [.sl 4 (b.map eBolt), .sl 1 (g.map eI), .i l, .sl 2 (r.map eSpan), .sl 1 (w.map eI), .i s]] = (Ok22 ⟨b, g, l, r, w, s⟩, .tp [copyV ⟨b, g, l, r, w, s⟩, .tp ((copyHp ⟨b, g, l, r, w, s⟩).map bV)]) :=
  (show GS 1000022 _ = r22o [.ag (eDome ⟨b, g, l, r, w, s⟩)] from rfl).trans (fnG_at (e := fun d => [.ag (eDome d)]) _ (dDome_e _))
def ready (d : Dome) (row : Int) : Bool := !far d && decide (check d = 0) && decide (0 ≤ row) && decide (row < d.rounds.length)
theorem P15 (d : Dome) (row : Int) : PureCall Try.prog 15 [.ag (eDome d), .i row] (.b (ready d row)) := by
  refine pure_body okS hmix Try.func15 cb15 cc15 cs15 cn15 ?_
  simp only [rc15, rs15, gS21, gS39, ready, ru_reg, ru_seq, ru_ret, ru_keep, thenQ, run_nil, run_cons, Fam.step, stepQ, needQ, condB, ug, evO, opv, qv, pickV, binV, ldV, lenV, callV, V.cells, solid, hasRef, hasRefL, flat, upd_some, lkp_cons, lkp_nil, ↓reduceIte, Nat.reduceEqDiff, Nat.reduceAdd, Nat.reduceLT, Nat.reduceLeDiff, List.map_cons, List.map_nil, List.all_cons, List.all_nil, List.length_cons, List.length_nil, List.drop_succ_cons, List.drop_zero, List.take_succ_cons, List.take_nil, List.headD_cons, List.append_nil, endQ, rvs, rv1, resV, vw_i, vw_b, vw_sl, vw_ag, zipA, Nat.zero_add, Bool.and_self, Bool.and_true, Bool.or_false, Bool.false_eq_true, and_true, and_self, implies_true, reduceCtorEq, beq_true, Bool.not_eq_false', Bool.not_eq_true', ite_f, Bool.decide_eq_true, Bool.decide_eq_false, imp_self, List.length_map, domeE, eDome]
theorem hole_vb : vB (bV .hole) = .hole := rfl
theorem put_I {l : List Int} {k : Nat} {x : Int} (h : k < l.length) : List.take k (l.map eI).flatten ++ [V.i x] ++ List.drop (k + 1) (l.map eI).flatten = ((l.set k x).map eI).flatten := by
  have e : ∀ l : List Int, (l.map eI).flatten = l.map V.i := by
    intro l
    induction l with
    | nil => rfl
    | cons y l ih => rw [List.map_cons, List.flatten_cons, ih]; rfl
  rw [e, e, List.map_set, List.set_eq_take_append_cons_drop, if_pos (by simpa using h)]
  simp
theorem P18 (d : Dome) (row w : Int) (h : Ok22 d) (hr : 0 ≤ row ∧ row < d.widths.length) : PureCall Try.prog 18 [.ag (eDome d), .i row, .i w] (.ag (eDome { d with widths := d.widths.set row.toNat w })) := by
  refine pure_body okS hmix Try.func18 cb18 cc18 cs18 cn18 ?_
  have nb := hasRefL_flat (e := eBolt) (fun _ => rfl) d.bolts
  have hset : List.take row.toNat (d.widths.map eI).flatten ++ [V.i w] ++ List.drop (row.toNat + 1) (d.widths.map eI).flatten = ((d.widths.set row.toNat w).map eI).flatten := put_I (by omega)
  have hsl : (d.widths.set row.toNat w).length = d.widths.length := List.length_set
  have hch := chunk_I (d.widths.set row.toNat w)
  rw [hsl] at hch
  have hw1 : row.toNat + 1 ≤ d.widths.length := by omega
  simp only [rc18, rs18, gS22o, h, copyV, copyHp, copyCs, hr, hole_vb, shL_noref _ _ nb, shL_noref _ _ (noref_I _), shL_noref _ _ (noref_S _), flat_len (e := eBolt) (k := 4) (fun _ => rfl), len_I, len_S, Nat.mul_one, hset, hch, hw1, chunk_flat (e := eBolt) (k := 4) (fun _ => rfl), chunk_I, chunk_flat (e := eSpan) (k := 2) (fun _ => rfl), vw_B, vw_S, vw_I, Nat.le_refl, hsl, ru_reg, ru_seq, ru_ret, ru_keep, stepO, ocV, rflat, rflatL, rflatB, shV, shL, shB, vB_cells, putB, thenQ, run_nil, run_cons, Fam.step, stepQ, stepW, needW, putB, nv, sv, evO, opv, qv, pickV, ldV, iadV, curG, putAt, V.cells, solid, cellOk, hasRef, hasRefL, upd_some, upd_none, lkp_cons, lkp_nil, ↓reduceIte, Nat.reduceEqDiff, Nat.reduceAdd, Nat.reduceLT, Nat.reduceLeDiff, List.map_cons, List.map_nil, List.all_cons, List.all_nil, List.length_cons, List.length_nil, List.drop_succ_cons, List.drop_zero, List.drop_nil, List.take_succ_cons, List.take_zero, List.take_nil, List.headD_cons, List.cons_append, List.nil_append, List.append_nil, List.getElem?_cons_zero, List.getElem?_cons_succ, List.set_cons_zero, List.set_cons_succ, endQ, rvs, rv1, resV, vw_i, vw_sl, vw_ag, vw_rf, zipA, beq_self_eq_true, Nat.zero_add, Bool.and_self, Bool.and_true, Bool.true_and, Bool.or_false, Bool.false_eq_true, true_and, and_self, false_implies, reduceCtorEq, domeE, eDome]
end Go.C02
