import Derived.Test.YtgcinomjcgebhaaC02N
set_option linter.all false
set_option linter.unusedSimpArgs false
set_option linter.unusedVariables false
namespace Go.C02
open Go.Fam Go.Proofs
theorem range_map_get (ks : List (List Int)) (f : List Int → Int) : ((List.range ks.length).map fun j => f (ks[j]?.getD [])).sum = (ks.map f).sum := by
  congr 1
  apply List.ext_getElem?
  intro i
  rw [List.getElem?_map, List.getElem?_map]
  by_cases h : i < ks.length
  · rw [List.getElem?_range h, List.getElem?_eq_getElem h]; simp [h]
  · rw [List.getElem?_eq_none (by simp; omega), List.getElem?_eq_none (by omega)]; rfl
theorem psum_all (t : Tent) (w : Int) (c : Int → Int) : psum t w c (List.range (cmKs t.dome.gores).length) = sumBy t.dome.gores fun g => pull (w - 2 * t.dome.loss) (c g) := by
  unfold psum sumBy
  rw [← cm_sum (fun g => pull (w - 2 * t.dome.loss) (c g)) t.dome.gores]
  exact range_map_get (cmKs t.dome.gores) fun k => part t w (k.headD 0) (c (k.headD 0))
def inSums (t : Tent) (w x : Int) : Prop := ∃ c : Int → Int, (∀ g ∈ t.dome.gores, c g ∈ canAt t g) ∧ x = sumBy t.dome.gores fun g => pull (w - 2 * t.dome.loss) (c g)
theorem inv68_mem {t : Tent} {w : Int} {xs : List Int} (h : Inv68 t w (List.range (cmKs t.dome.gores).length) xs) (x : Int) : x ∈ xs ↔ inSums t w x := by
  rw [h.mem]
  have : ∀ c : Int → Int, (∀ j ∈ List.range (cmKs t.dome.gores).length, c (gk t j) ∈ canAt t (gk t j)) ↔ ∀ g ∈ t.dome.gores, c g ∈ canAt t g := by
    intro c
    constructor
    · intro hj g hg
      have hm := (mem_cmKs t.dome.gores [g]).2 ⟨g, hg, rfl⟩
      have := hj ((cmKs t.dome.gores).idxOf [g]) (List.mem_range.2 (List.idxOf_lt_length_iff.2 hm))
      have e : gk t ((cmKs t.dome.gores).idxOf [g]) = g := by unfold gk; rw [idxOf_get hm]; rfl
      rwa [e] at this
    · intro hg j hj
      obtain ⟨x, hx, e, _⟩ := cmKs_get (List.mem_range.1 hj)
      have e : gk t j = x := by unfold gk; rw [e]; rfl
      rw [e]; exact hg x hx
  simp only [this, psum_all]; rfl
def p68 (vs : List V) : Prop := eTN (dTN vs) = vs ∧ Ok68 (dTN vs).1 (dTN vs).2
def q68 : List V → Prop
  | .tp (r :: bs) :: vs => ∃ xs : List Int, r = .mp 0 0 ∧ bs = [bV (cm xs)] ∧ ∀ x, x ∈ xs ↔ inSums (dTN vs).1 (dTN vs).2 x
  | _ => False
def GO : Gam := (GN.ext 3000068 fun vs => (p68 vs, .u)).ext 4000068 fun vs => (q68 vs, .u)
theorem okO : GOk Try.prog GO := by
  refine okN.extR (f := 68) (p := p68) (q := q68) (fun a w => Try.call68 a w) fun vs h => ?_
  have := P68 _ _ h.2
  have e : eTN (dTN vs) = vs := h.1
  unfold eTN at e
  rw [e] at this
  refine this.mono fun r hp hr => ?_
  obtain ⟨xs, rfl, rfl, hi⟩ := hr
  exact ⟨[bV (cm xs)], by simp [cm, vB_map], xs, rfl, rfl, inv68_mem hi⟩
theorem gO68 (b : List Bolt) (g : List Int) (l : Int) (r : List Span) (w : List Int) (s : Int) (c : List (List Int)) (n : Int) :
    GO 3000068 [.pa [.sl 4 (b.map eBolt), .sl 1 (g.map eI), .i l, .sl 2 (r.map eSpan), .sl 1 (w.map eI), .i s, .sl 1 (c.map eCan)], .i n] = (Ok68 ⟨⟨b, g, l, r, w, s⟩, c⟩ n, .u) := by
  have e := dTN_e (⟨⟨b, g, l, r, w, s⟩, c⟩, n)
  refine (show GO 3000068 _ = (p68 (eTN (⟨⟨b, g, l, r, w, s⟩, c⟩, n)), V.u) from rfl).trans ?_
  unfold p68
  rw [e]; simp
theorem gO68' (b : List Bolt) (g : List Int) (l : Int) (r : List Span) (w : List Int) (s : Int) (c : List (List Int)) (n : Int) (x : V) (bs : List V) :
    GO 4000068 [.tp (x :: bs), .pa [.sl 4 (b.map eBolt), .sl 1 (g.map eI), .i l, .sl 2 (r.map eSpan), .sl 1 (w.map eI), .i s, .sl 1 (c.map eCan)], .i n] = (∃ xs : List Int, x = .mp 0 0 ∧ bs = [bV (cm xs)] ∧ ∀ y, y ∈ xs ↔ inSums ⟨⟨b, g, l, r, w, s⟩, c⟩ n y, .u) := by
  have e := dTN_e (⟨⟨b, g, l, r, w, s⟩, c⟩, n)
  refine (show GO 4000068 _ = (∃ xs : List Int, x = .mp 0 0 ∧ bs = [bV (cm xs)] ∧ ∀ y, y ∈ xs ↔ inSums (dTN (eTN (⟨⟨b, g, l, r, w, s⟩, c⟩, n))).1 (dTN (eTN (⟨⟨b, g, l, r, w, s⟩, c⟩, n))).2 y, V.u) from rfl).trans ?_
  rw [e]
theorem gO67 (n lo hi : Int) : GO 67 [.i n, .i lo, .i hi] = (True, .b (within n lo hi)) := rfl
theorem gO50 (b : List Bolt) (g : List Int) (l : Int) (r : List Span) (w : List Int) (s : Int) (c : List (List Int)) (n : Int) :
    GO 50 [.pa [.sl 4 (b.map eBolt), .sl 1 (g.map eI), .i l, .sl 2 (r.map eSpan), .sl 1 (w.map eI), .i s, .sl 1 (c.map eCan)], .i n] = (ok50 ⟨⟨b, g, l, r, w, s⟩, c⟩ n, .ag (eSpan (roundOf ⟨⟨b, g, l, r, w, s⟩, c⟩ n))) := gL50 b g l r w s c n
open Classical in
noncomputable def tightOf (t : Tent) (row w : Int) : Int :=
  if (wantAt t.dome row).low ≤ (roundOf t w).low ∧ (roundOf t w).high ≤ (wantAt t.dome row).high then 1
  else if ∃ x, inSums t w x ∧ within x (wantAt t.dome row).low (wantAt t.dome row).high = true then 3 else 2
structure Ok47 (t : Tent) (row w : Int) : Prop where
  row : 0 ≤ row ∧ row < t.dome.rounds.length
  k50 : ok50 t w
  k68 : Ok68 t w
theorem P47 (t : Tent) (row w : Int) (h : Ok47 t row w) : PureCall Try.prog 47 [.pa (eTent t), .i row, .i w] (.i (tightOf t row w)) := by
  refine pure_body okO hmix Try.func47 cb47 cc47 cs47 cn47 ?_
  obtain ⟨⟨h3, h4⟩, h5, h6⟩ := h
  have e2 : t.dome.rounds[row.toNat]? = some (wantAt t.dome row) := by rw [wantAt, List.getElem?_eq_getElem (by omega)]; rfl
  simp only [rc47, rs47, eTent, h3, h4, e2, gO50, h5, gO68, h6, gO68', ru_skip, ru_reg, ru_seq, ru_cond, ru_block, ru_ret, ru_keep, ru_crl, putB, thenQ, run_nil, run_cons, Fam.step, stepQ, stepW, needQ, needW, condB, ug, putB, nv, sv, evO, opv, qv, pickV, binV, ldV, iadV, curG, callV, putAt, V.cells, solid, cellOk, hasRef, hasRefL, flat, flatL, upd_some, upd_none, lkp_cons, lkp_nil, ↓reduceIte, Nat.reduceEqDiff, Nat.reduceAdd, Nat.reduceLT, Nat.reduceLeDiff, List.map_cons, List.map_nil, List.all_cons, List.all_nil, List.length_cons, List.length_nil, List.drop_succ_cons, List.drop_zero, List.drop_nil, List.take_succ_cons, List.take_zero, List.take_nil, List.headD_cons, List.cons_append, List.nil_append, List.append_nil, List.getElem?_cons_zero, List.getElem?_cons_succ, Option.getD_some, List.set_cons_zero, List.set_cons_succ, endQ, rvs, rv1, resV, vw_i, vw_pa, zipA, beq_self_eq_true, Nat.zero_add, Nat.add_zero, V.i.injEq, Bool.and_self, Bool.and_true, Bool.or_false, Bool.false_eq_true, decide_eq_true_eq, decide_eq_false_iff_not, true_and, and_true, and_self, and_false, implies_true, reduceCtorEq, Option.map_some, beq_true, ite_f, imp_self, List.length_map, List.getD_eq_getElem?_getD, List.getElem?_map, domeE, tentE, eSpan, eDome, eTent]
  refine ⟨fun hs => ?_, fun hs r bs hr => ?_⟩
  · rw [Bool.and_eq_true, decide_eq_true_eq, decide_eq_true_eq] at hs
    simp [tightOf, hs]
  · have hs' : ¬ ((wantAt t.dome row).low ≤ (roundOf t w).low ∧ (roundOf t w).high ≤ (wantAt t.dome row).high) := by
      rw [Bool.and_eq_false_iff, decide_eq_false_iff_not, decide_eq_false_iff_not] at hs
      omega
    obtain ⟨xs, rfl, rfl, hm⟩ := hr
    simp only [vB_map, cm, shL_noref _ _ (noref_cm _), shV, shB, vB_map, Nat.reduceAdd, List.map_cons, List.map_nil, List.length_cons, List.length_nil, List.cons_append, List.nil_append, List.getElem?_cons_zero, List.getElem?_cons_succ, Nat.zero_add, Nat.add_zero, true_and]
    refine ru_range (cmKs xs).length (fun pre => ⟨lkp [(7, .ad 0 0 0), (36, .it 3 0)], [.cells 0 (eSpan (wantAt t.dome row)), .cells 0 (eSpan (roundOf t w)), cm xs, .iter 2 (cmKs xs).length (leftN (cmKs xs).length pre) pre.getLast?]⟩)
      (fun pre => ∀ j ∈ pre, within (((cmKs xs)[j]?.getD []).headD 0) (wantAt t.dome row).low (wantAt t.dome row).high = false) ?_ (by simp) ?_
    · simp only [cm, leftN_nil, List.getLast?_nil, kp, lkp_cons, lkp_nil, ↓reduceIte, Nat.reduceEqDiff, List.map_cons, List.map_nil, eSpan]
    · intro pre hnd hlt hC
      simp only [cm, ru_skip, ru_reg, ru_seq, ru_cond, ru_block, ru_exit, ru_ret, ru_keep, ru_nxt, entV, keyV, thenQ, blockQ, run_nil, run_cons, Fam.step, stepQ, evO, opv, qv, pickV, ldV, curG, callV, hasRef, hasRefL, kp, upd_some, lkp_cons, lkp_nil, ↓reduceIte, Nat.reduceEqDiff, Nat.reduceAdd, Nat.reduceLT, Nat.reduceLeDiff, List.map_cons, List.map_nil, List.length_cons, List.length_nil, List.drop_succ_cons, List.drop_zero, List.headD_cons, List.append_nil, List.getElem?_cons_zero, List.getElem?_cons_succ, Option.getD_some, List.set_cons_zero, List.set_cons_succ, endQ, rvs, rv1, resV, vw_i, beq_self_eq_true, Nat.zero_add, Nat.add_zero, V.i.injEq, Bool.or_false, Bool.false_eq_true, Bool.true_eq_false, true_and, and_true, and_self, forall_const, false_implies, List.getD_eq_getElem?_getD, eSpan]
      refine ⟨fun hnil => ?_, fun j hj => ?_⟩
      · have hp := perm_leftN hnd hlt hnil
        have : ¬ ∃ x, inSums t w x ∧ within x (wantAt t.dome row).low (wantAt t.dome row).high = true := by
          rintro ⟨x, hx, hw⟩
          have hk := (mem_cmKs xs [x]).2 ⟨x, (hm x).2 hx, rfl⟩
          have := hC ((cmKs xs).idxOf [x]) (hp.mem_iff.2 (List.mem_range.2 (List.idxOf_lt_length_iff.2 hk)))
          rw [idxOf_get hk] at this
          simp [hw] at this
        simp [tightOf, hs', this]
      · obtain ⟨hjn, hjp⟩ := mem_leftN.1 hj
        obtain ⟨x, hx, hk1, hk2⟩ := cmKs_get hjn
        simp only [hk1, leftN_erase hj, gO67, List.headD_cons, Option.getD_some, true_and]
        refine ⟨fun hw => ?_, fun hw => ⟨j, hj, ?_, ?_⟩⟩
        · have : ∃ x, inSums t w x ∧ within x (wantAt t.dome row).low (wantAt t.dome row).high = true := ⟨x, (hm x).1 hx, hw⟩
          simp [tightOf, hs', this]
        · intro i hi
          rcases List.mem_append.1 hi with hi | hi
          · exact hC i hi
          · simp at hi; subst hi; rw [hk1]; exact hw
        · simp only [List.getLast?_concat]
theorem Good.ok68 {d : Dome} (h : Good d) {w : Int} (hw : 2 * d.loss ≤ w ∧ w ≤ 2000) : Ok68 (tentOf d) w := by
  have hl := h.v.loss
  refine ⟨⟨?_, ?_⟩, h.v.loss, h.v.ng.2, ?_, ?_, ?_⟩
  · show 0 ≤ w - 2 * d.loss; omega
  · show w - 2 * d.loss ≤ 2000; omega
  · intro g hg
    have := h.v.gores g hg
    simp only [tentOf, cansOf, List.length_map]
    omega
  · have := h.v.nb
    simp only [tentOf, cansOf, List.length_map]
    omega
  · intro l hl
    obtain ⟨b, hb, rfl⟩ := List.mem_map.1 hl
    have hvb := h.v.bolts b hb
    exact ⟨numbersOf_len hvb, fun s hs => numbersOf_range hvb hs⟩
theorem Good.ok47 {d : Dome} (h : Good d) {row w : Int} (hr : isRow d row = true) (hw : 2 * d.loss ≤ w ∧ w ≤ 2000) : Ok47 (tentOf d) row w := by
  obtain ⟨k1, k2, _⟩ := row_of h.v hr
  have := h.v.loss
  exact ⟨⟨k1, k2⟩, h.ok50 (by unfold tame; omega), h.ok68 hw⟩
def eTNN (a : Tent × Int × Int) : List V := [.pa (eTent a.1), .i a.2.1, .i a.2.2]
def dTNN : List V → Tent × Int × Int | [.pa cs, .i n, .i m] => (dTent cs, n, m) | _ => (⟨D0, []⟩, 0, 0)
theorem dTNN_e (a : Tent × Int × Int) : dTNN (eTNN a) = a := by simp [dTNN, eTNN, dTent_e]
noncomputable def r47 : List V → Prop × V := fnG eTNN dTNN (fun a => Ok47 a.1 a.2.1 a.2.2) (fun a => tightOf a.1 a.2.1 a.2.2) .i
noncomputable def GP : Gam := GO.ext 47 r47
theorem okP : GOk Try.prog GP := okO.ext (f := 47) (r := r47) (fun a w => Try.call47 a w) (fnG_ok fun a h => P47 a.1 a.2.1 a.2.2 h)
theorem gP47 (b : List Bolt) (g : List Int) (l : Int) (r : List Span) (w : List Int) (s : Int) (c : List (List Int)) (n m : Int) :
    GP 47 [.pa [.sl 4 (b.map eBolt), .sl 1 (g.map eI), .i l, .sl 2 (r.map eSpan), .sl 1 (w.map eI), .i s, .sl 1 (c.map eCan)], .i n, .i m] = (Ok47 ⟨⟨b, g, l, r, w, s⟩, c⟩ n m, .i (tightOf ⟨⟨b, g, l, r, w, s⟩, c⟩ n m)) :=
  (show GP 47 _ = r47 (eTNN (⟨⟨b, g, l, r, w, s⟩, c⟩, n, m)) from rfl).trans (fnG_at _ (dTNN_e _))
theorem gP45 (b : List Bolt) (g : List Int) (l : Int) (r : List Span) (w : List Int) (s : Int) (x : Bool) :
    GP 45 [.ag [.sl 4 (b.map eBolt), .sl 1 (g.map eI), .i l, .sl 2 (r.map eSpan), .sl 1 (w.map eI), .i s], .b x] = (True, pitchV ⟨b, g, l, r, w, s⟩ x) := gL45 b g l r w s x
theorem gP46 (b : List Bolt) (g : List Int) (l : Int) (r : List Span) (w : List Int) (s : Int) (n : Int) :
    GP 46 [.ag [.sl 4 (b.map eBolt), .sl 1 (g.map eI), .i l, .sl 2 (r.map eSpan), .sl 1 (w.map eI), .i s], .i n] = (r.length < 1000, .b (isRow ⟨b, g, l, r, w, s⟩ n)) := gL46 b g l r w s n
noncomputable def tightR (d : Dome) (row : Int) : Int × Int := if pitchE d (isRow d row) = 0 then (tightOf (tentOf d) row (widthAt d row), 0) else (0, pitchE d (isRow d row))
theorem P17 (d : Dome) (n : Int) (hb : d.rounds.length < 1000) : PureCall Try.prog 17 [.ag (eDome d), .i n] (eNE (tightR d n)) := by
  refine pure_body okP hmix Try.func17 cb17 cc17 cs17 cn17 ?_
  simp only [rc17, rs17, gP46, gP45, pitchV, eNE, tightR, ru_skip, ru_reg, ru_any, ru_seq, ru_cond, ru_ret, ru_keep, putB, thenQ, run_nil, run_cons, Fam.step, stepQ, runX, eff, nextD, fpR, fpQ, fpV, disjB, hits, putB, evO, opv, qv, pickV, binV, ldV, iadV, callV, V.cells, solid, hasRef, hasRefL, flat, flatL, upd_some, lkp_cons, lkp_nil, ↓reduceIte, Nat.reduceEqDiff, Nat.reduceAdd, Nat.reduceLT, Nat.reduceLeDiff, List.map_cons, List.map_nil, List.all_nil, List.length_cons, List.length_nil, List.drop_succ_cons, List.drop_zero, List.take_succ_cons, List.take_nil, List.headD_cons, List.cons_append, List.nil_append, List.append_nil, List.getElem?_cons_zero, List.getElem?_cons_succ, List.getElem?_nil, Option.getD_some, Option.getD_none, List.replicate_zero, List.isEmpty_nil, endQ, rvs, rv1, resV, vw_i, vw_b, vw_sl, vw_ag, vw_tp, zipA, Nat.zero_add, Bool.and_self, Bool.and_true, Bool.false_and, Bool.or_false, Bool.false_or, Bool.not_true, Bool.not_false, Bool.false_eq_true, decide_eq_true_eq, decide_eq_false_iff_not, true_and, and_true, and_self, false_implies, implies_true, reduceCtorEq, List.any_nil, List.contains_nil, Bool.not_eq_false', Bool.not_eq_true', List.length_map, List.getD_eq_getElem?_getD, List.getElem?_map, domeE, eDome, eTent]
  refine ⟨by omega, fun h => ?_, fun h => ?_⟩
  · simp [h]
  · obtain ⟨hg, hr⟩ := pitchE_zero h
    obtain ⟨k1, k2, k3, k4, k5, k6⟩ := row_of hg.v hr
    have h3 := hg.ok47 hr k6
    unfold tentOf at *
    simp only [h, k1, k3, k4, gP47, h3, hasRef, flat, ↓reduceIte, Nat.reduceLeDiff, List.length_cons, List.length_nil, List.headD_cons, Option.getD_some, vw_i, vw_pa, Nat.zero_add, Bool.or_false, Bool.false_eq_true, and_self, implies_true, Option.map_some, domeE, eI]
noncomputable def looseTo (d : Dome) (k : Nat) : List Int := ((ints 0 (d.widths.length - 1)).take k).filter fun r => decide (tightOf (tentOf d) r (widthAt d r) ≠ 1)
noncomputable def looseR (d : Dome) : List Int × Int := if pitchE d true = 0 then (looseTo d d.widths.length, 0) else ([], pitchE d true)
theorem P26 (d : Dome) : PureCall Try.prog 26 [.ag (eDome d)] (eLE (looseR d)) := by
  refine pure_body okP hmix Try.func26 cb26 cc26 cs26 cn26 ?_
  simp only [rc26, rs26, gP45, pitchV, eLE, looseR, ru_skip, ru_reg, ru_seq, ru_cond, ru_block, ru_ret, ru_keep, ru_own, thenQ, run_nil, run_cons, Fam.step, stepQ, evO, opv, qv, pickV, binV, ldV, lenV, callV, V.cells, solid, hasRef, hasRefL, flat, flatL, upd_some, lkp_cons, lkp_nil, ↓reduceIte, Nat.reduceEqDiff, Nat.reduceAdd, Nat.reduceLT, Nat.reduceLeDiff, List.map_cons, List.map_nil, List.length_cons, List.length_nil, List.drop_succ_cons, List.drop_zero, List.take_succ_cons, List.take_nil, List.headD_cons, List.cons_append, List.nil_append, List.append_nil, List.getElem?_cons_zero, List.getElem?_cons_succ, List.getElem?_nil, Option.getD_some, endQ, rvs, rv1, resV, vw_i, vw_b, vw_z, vw_sl, vw_ag, vw_tp, zipA, Nat.zero_add, Bool.and_self, Bool.and_true, Bool.or_false, Bool.false_eq_true, decide_eq_true_eq, decide_eq_false_iff_not, true_and, and_self, false_implies, Bool.not_eq_false', Bool.not_eq_true', List.length_map, domeE, eDome, eTent]
  refine ⟨fun h => by simp [h], fun h => ?_⟩
  obtain ⟨hg, _⟩ := pitchE_zero h
  have hnr := hg.v.nr
  have hnw := hg.v.nw
  simp only [h, ↓reduceIte]
  refine ru_count d.widths.length (fun i => ⟨lkp [(4, .pa (eTent (tentOf d))), (6, .rf 0 (looseTo d i).length 0 (looseTo d i).length 1), (18, .sl 1 (d.widths.map eI)), (19, .i d.widths.length), (20, .i i)], [.cells (looseTo d i).length ((looseTo d i).map eI).flatten]⟩) ?_ ?_ ?_
  · simp only [Int.natCast_zero, tentOf, eTent, looseTo, List.filter_nil, List.flatten_nil, kp, lkp_cons, lkp_nil, ↓reduceIte, Nat.reduceEqDiff, List.map_cons, List.map_nil, List.length_nil, List.take_zero, List.cons_append, List.nil_append, ne_eq, eDome, eTent]
  · intro i hi
    obtain ⟨x, hx⟩ : ∃ x, d.widths[i]? = some x := ⟨_, List.getElem?_eq_getElem hi⟩
    have hxw : widthAt d i = x := by simp [widthAt, hx]
    have hrow : isRow d i = true := by simp only [isRow, within, Bool.and_eq_true, decide_eq_true_eq]; omega
    have h47 := hg.ok47 hrow (w := x) (hg.v.widths x (List.mem_of_getElem? hx))
    have hlt : (i : Int) < d.widths.length := by omega
    have h3 : inI ((i : Int) + 1) := by unfold inI; omega
    have hget : (ints 0 ((d.widths.length : Int) - 1))[i]? = some (i : Int) := by rw [ints_get (by omega)]; simp
    have hs : looseTo d (i + 1) = looseTo d i ++ (if decide (tightOf (tentOf d) i (widthAt d i) ≠ 1) then [(i : Int)] else []) := filter_snoc _ hget
    have hll : (looseTo d i).length ≤ i := Nat.le_trans (List.length_filter_le _ _) (List.length_take_le _ _)
    rw [hxw] at hs
    unfold tentOf at hs h47
    simp only [hlt, h3, hx, eTent, tentOf, gP47, h47, hs, Int.natCast_add, Int.natCast_one, ru_skip, ru_reg, ru_seq, ru_cond, ru_block, ru_exit, ru_ret, ru_keep, chunk1, putB, thenQ, blockQ, run_nil, run_cons, Fam.step, stepQ, stepW, needW, putB, nv, sv, newsV, evO, opv, qv, pickV, binV, ldV, iadV, callV, foldParts, putAt, partsOk, partsOne, V.cells, solid, cellOk, hasRef, hasRefL, flat, kp, upd_some, lkp_cons, lkp_nil, ↓reduceIte, Nat.reduceEqDiff, Nat.reduceMul, Nat.reduceLT, Nat.reduceLeDiff, List.map_cons, List.map_nil, List.all_cons, List.all_nil, List.length_cons, List.length_nil, List.take_succ_cons, List.take_zero, List.headD_cons, List.cons_append, List.nil_append, List.append_nil, List.getElem?_cons_zero, Option.getD_some, List.set_cons_zero, List.replicate_zero, List.replicate_succ, endQ, rvs, rv1, resV, vw_i, vw_pa, vw_tp, vw_rf, Int.natCast_nonneg, Nat.zero_add, Bool.and_self, Bool.or_false, Bool.false_eq_true, Bool.true_eq_false, decide_true, decide_eq_true_eq, decide_eq_false_iff_not, true_and, and_true, and_self, forall_const, false_implies, implies_true, reduceCtorEq, not_false_eq_true, ne_eq, Option.map_some, Bool.not_eq_false', Bool.not_eq_true', List.length_map, Int.toNat_natCast, List.getD_eq_getElem?_getD, List.getElem?_map, domeE, eDome, eI, eTent]
    refine ⟨fun he => ?_, fun he => ?_⟩
    · simp only [he, len_I, List.length_append, List.map_append, List.flatten_append, List.flatten_cons, List.flatten_nil, Nat.mul_one, ↓reduceIte, List.map_cons, List.map_nil, List.length_cons, List.length_nil, List.append_nil, Nat.zero_add, true_and, and_true, not_false_eq_true, eI]
      unfold fitsLen; omega
    · simp only [he, ↓reduceIte, List.append_nil, not_true_eq_false]
  · simp only [looseTo, vw8, len_I, Nat.mul_one, Nat.le_refl, chunk_I, vw_I, ru_skip, ru_reg, ru_seq, ru_cond, ru_block, ru_exit, ru_ret, ru_keep, chunk1, putB, thenQ, blockQ, run_nil, run_cons, Fam.step, stepQ, stepW, needW, putB, nv, sv, newsV, evO, opv, qv, pickV, binV, ldV, iadV, callV, foldParts, putAt, partsOk, partsOne, V.cells, solid, cellOk, hasRef, hasRefL, upd_some, lkp_cons, lkp_nil, ↓reduceIte, Nat.reduceEqDiff, Nat.reduceAdd, Nat.reduceLT, List.map_cons, List.map_nil, List.all_cons, List.all_nil, List.length_cons, List.length_nil, List.take_succ_cons, List.take_zero, List.cons_append, List.nil_append, List.append_nil, List.getElem?_cons_zero, List.set_cons_zero, List.replicate_zero, List.replicate_succ, endQ, rvs, rv1, resV, vw_i, vw_pa, vw_tp, vw_rf, Int.lt_irrefl, Int.natCast_nonneg, Nat.zero_add, Bool.and_self, Bool.or_false, Bool.false_or, Bool.false_eq_true, decide_false, true_and, and_self, false_and, and_false, forall_const, reduceCtorEq, not_false_eq_true, ne_eq, imp_self, List.length_map, Int.toNat_natCast, List.getD_eq_getElem?_getD, List.getElem?_map, eDome, eTent]
end Go.C02
