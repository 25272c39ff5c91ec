import Derived.Test.YtgcinomjcgebhaaG7
set_option linter.all false
set_option linter.unusedSimpArgs false
set_option linter.unusedVariables false
namespace Go.C02
open Go.Fam Go.Proofs
/-! The order of strips and gores. -/
def rotL {α : Type} (l : List α) (T : Nat) : List α := l.drop (T % l.length) ++ l.take (T % l.length)
theorem rotL_len {α : Type} (l : List α) (T : Nat) : (rotL l T).length = l.length := by
  unfold rotL
  rw [List.length_append, List.length_drop, List.length_take]; omega
theorem rotL_perm {α : Type} (l : List α) (T : Nat) : (rotL l T).Perm l := by
  unfold rotL
  exact List.perm_append_comm.trans (by rw [List.take_append_drop])
theorem rotL_get {α : Type} {l : List α} {T i : Nat} (h : i < l.length) : (rotL l T)[i]? = l[(i + T) % l.length]? := by
  have hm : T % l.length < l.length := Nat.mod_lt _ (by omega)
  have e : (i + T) % l.length = (i + T % l.length) % l.length := by rw [Nat.add_mod_mod]
  rw [e]
  unfold rotL
  generalize T % l.length = m at *
  by_cases hi : i < l.length - m
  · rw [List.getElem?_append_left (by rw [List.length_drop]; exact hi), List.getElem?_drop, Nat.mod_eq_of_lt (by omega), Nat.add_comm]
  · rw [List.getElem?_append_right (by rw [List.length_drop]; omega), List.length_drop, List.getElem?_take_of_lt (by omega)]
    rw [show i + m = (i - (l.length - m)) + l.length by omega, Nat.add_mod_right, Nat.mod_eq_of_lt (by omega)]
def flipL {α : Type} (l : List α) (T : Nat) : List α := rotL l.reverse T
theorem flipL_len {α : Type} (l : List α) (T : Nat) : (flipL l T).length = l.length := by rw [flipL, rotL_len, List.length_reverse]
theorem flipL_perm {α : Type} (l : List α) (T : Nat) : (flipL l T).Perm l := (rotL_perm _ _).trans (List.reverse_perm l)
theorem flipL_get {α : Type} {l : List α} {T i : Nat} (h : i < l.length) : (flipL l T)[i]? = l[l.length - 1 - (i + T) % l.length]? := by
  rw [flipL, rotL_get (by rw [List.length_reverse]; exact h), List.length_reverse, List.getElem?_reverse (Nat.mod_lt _ (by omega))]
def flipB (T : Nat) (b : Bolt) : Bolt := ⟨b.stretch, flipL b.strips T, b.wrong⟩
def ordD (d : Dome) (T : Nat) : Dome := ⟨d.bolts.map (flipB T), rotL d.gores T, d.loss, d.rounds, d.widths, d.slope⟩
theorem falses_perm {l l' : List Strip} (h : l.Perm l') (s : Int) : falses l s = falses l' s := h.countP_eq _
theorem can_flip (T : Nat) (b : Bolt) : can (flipB T b) = can b := by
  funext s
  show (within s b.stretch.low b.stretch.high && decide ((falses (flipL b.strips T) s : Int) ≤ b.wrong)) = _
  rw [falses_perm (flipL_perm _ _)]; rfl
theorem numbers_flip (T : Nat) (b : Bolt) : numbersOf (flipB T b) = numbersOf b := by
  unfold numbersOf
  rw [can_flip]; rfl
theorem cans_ord (d : Dome) (T : Nat) : cansOf (ordD d T) = cansOf d := by
  simp only [cansOf, ordD, List.map_map, Function.comp_def, numbers_flip]
theorem all_perm {α : Type} {l l' : List α} (h : l.Perm l') (p : α → Bool) : l.all p = l'.all p := by
  rw [Bool.eq_iff_iff, List.all_eq_true, List.all_eq_true]
  exact ⟨fun a x hx => a x (h.mem_iff.2 hx), fun a x hx => a x (h.mem_iff.1 hx)⟩
theorem check_ord {d : Dome} (hc : check d = 0) (T : Nat) : check (ordD d T) = 0 := by
  obtain ⟨a1, a2⟩ := isDome_of hc
  have hg : goreOk (ordD d T) = goreOk d := by funext g; simp [goreOk, ordD]
  have a3 : isDome (ordD d T) = true := by
    unfold isDome at a1 ⊢
    rw [hg]
    show (headOk ⟨d.bolts.map (flipB T), rotL d.gores T, d.loss, d.rounds, d.widths, d.slope⟩ && (rotL d.gores T).all (goreOk d) && d.rounds.all roundOk && d.widths.all (widthOk d)) = true
    rw [all_perm (rotL_perm _ _)]
    simp only [headOk, List.length_map, rotL_len] at a1 ⊢
    exact a1
  have a4 : (ordD d T).bolts.all isBolt = true := by
    rw [List.all_eq_true] at a2 ⊢
    intro x hx
    obtain ⟨b, hb, rfl⟩ := List.mem_map.1 hx
    have := a2 b hb
    have e : isBolt (flipB T b) = isBolt b := by
      show (isSpan b.stretch 60 && decide ((flipL b.strips T).length ≤ 8) && within b.wrong 0 2 && (flipL b.strips T).all isStrip) = _
      rw [flipL_len, all_perm (flipL_perm _ _)]; rfl
    rw [e]; exact this
  simp [check, a3, a4]
theorem sumBy_perm {l l' : List Int} (h : l.Perm l') (f : Int → Int) : sumBy l f = sumBy l' f := perm_sum (h.map f)
theorem pitch_ord {d : Dome} (hc : check d = 0) (T : Nat) (is : Bool) : pitchE (ordD d T) is = pitchE d is := by
  simp [pitchE, hc, check_ord hc T, cans_ord]
theorem can_ord (d : Dome) (T : Nat) : (tentOf (ordD d T)).can = (tentOf d).can := cans_ord d T
theorem round_ord (d : Dome) (T : Nat) (w : Int) : roundOf (tentOf (ordD d T)) w = roundOf (tentOf d) w := by
  unfold roundOf
  have h1 : lowOf (tentOf (ordD d T)) = lowOf (tentOf d) := by funext g; unfold lowOf; rw [can_ord]
  have h2 : highOf (tentOf (ordD d T)) = highOf (tentOf d) := by funext g; unfold highOf; rw [can_ord]
  rw [h1, h2]
  show (⟨sumBy (rotL d.gores T) _, sumBy (rotL d.gores T) _⟩ : Span) = _
  rw [sumBy_perm (rotL_perm _ _), sumBy_perm (rotL_perm _ _)]
  rfl
theorem fits_ord (d : Dome) (T : Nat) (r : Int) : fits (tentOf (ordD d T)) r = fits (tentOf d) r := by
  funext w
  unfold fits
  rw [round_ord]; rfl
theorem goods_ord (d : Dome) (T : Nat) (r : Int) : goods (tentOf (ordD d T)) r = goods (tentOf d) r := by
  unfold goods
  rw [fits_ord]; rfl
theorem sums_ord (d : Dome) (T : Nat) (w x : Int) : inSums (tentOf (ordD d T)) w x ↔ inSums (tentOf d) w x := by
  have hc : canAt (tentOf (ordD d T)) = canAt (tentOf d) := by funext g; unfold canAt; rw [can_ord]
  unfold inSums
  rw [hc]
  constructor
  · rintro ⟨c, h1, h2⟩
    exact ⟨c, fun g hg => h1 g ((rotL_perm d.gores T).mem_iff.2 hg), h2.trans (sumBy_perm (rotL_perm _ _) _)⟩
  · rintro ⟨c, h1, h2⟩
    exact ⟨c, fun g hg => h1 g ((rotL_perm d.gores T).mem_iff.1 hg), h2.trans (sumBy_perm (rotL_perm _ _) _).symm⟩
theorem tight_ord (d : Dome) (T : Nat) (r w : Int) : tightOf (tentOf (ordD d T)) r w = tightOf (tentOf d) r w := by
  have ew : wantAt (tentOf (ordD d T)).dome r = wantAt (tentOf d).dome r := rfl
  unfold tightOf
  rw [round_ord, ew]
  by_cases h1 : (wantAt (tentOf d).dome r).low ≤ (roundOf (tentOf d) w).low ∧ (roundOf (tentOf d) w).high ≤ (wantAt (tentOf d).dome r).high
  · rw [if_pos h1, if_pos h1]
  · rw [if_neg h1, if_neg h1]
    by_cases h2 : ∃ x, inSums (tentOf d) w x ∧ within x (wantAt (tentOf d).dome r).low (wantAt (tentOf d).dome r).high = true
    · rw [if_pos h2, if_pos]
      obtain ⟨x, hx, hw⟩ := h2
      exact ⟨x, (sums_ord d T w x).2 hx, hw⟩
    · rw [if_neg h2, if_neg]
      rintro ⟨x, hx, hw⟩
      exact h2 ⟨x, (sums_ord d T w x).1 hx, hw⟩
theorem low_ord (d : Dome) (T : Nat) : lowAt (ordD d T) = lowAt d ∧ highAt (ordD d T) = highAt d := by
  constructor <;> funext r
  · unfold lowAt; rw [goods_ord]
  · unfold highAt; rw [goods_ord]
theorem need_ord (d : Dome) (T r k : Nat) : needTo (ordD d T) r k = needTo d r k := by
  unfold needTo
  rw [(low_ord d T).1]; rfl
theorem curve_ord {d : Dome} (hc : check d = 0) (T : Nat) : curveR (ordD d T) = curveR d := by
  unfold curveR
  rw [pitch_ord hc]
  have h1 : ∀ n k, outsTo (ordD d T) n k = outsTo d n k := fun n k => by unfold outsTo; simp only [need_ord]
  have h2 : ∀ k, hasCuts (ordD d T) k = hasCuts d k := fun k => by unfold hasCuts; simp only [goods_ord]
  have h3 : ∀ n k, fitsAll (ordD d T) n k = fitsAll d n k := fun n k => by unfold fitsAll; simp only [need_ord, (low_ord d T).2]
  rw [h1, h2, h3]; rfl
theorem laws_ord {d : Dome} (hc : check d = 0) (T : Nat) (r j : Int) : stretchesR (ordD d T) j = stretchesR d j ∧ roundR (ordD d T) r = roundR d r ∧ tightR (ordD d T) r = tightR d r ∧ cutR (ordD d T) r = cutR d r ∧ leastR (ordD d T) = leastR d := by
  have hb : isBoltOf (ordD d T) j = isBoltOf d j := by simp [isBoltOf, ordD]
  have hr : isRow (ordD d T) r = isRow d r := rfl
  have hw : widthAt (ordD d T) r = widthAt d r := rfl
  refine ⟨?_, ?_, ?_, ?_, ?_⟩
  · unfold stretchesR
    rw [pitch_ord hc, hb]
    by_cases hp : pitchE d (isBoltOf d j) = 0
    · rw [if_pos hp, if_pos hp]
      obtain ⟨k1, k2⟩ := within_nat (pitchE_zero hp).2
      obtain ⟨b, hbb⟩ : ∃ b, d.bolts[j.toNat]? = some b := ⟨_, List.getElem?_eq_getElem (by omega)⟩
      have e1 : boltAt (ordD d T) j = flipB T b := by simp [boltAt, ordD, hbb]
      have e2 : boltAt d j = b := by simp [boltAt, hbb]
      rw [e1, e2, numbers_flip]
    · rw [if_neg hp, if_neg hp]
  · unfold roundR; rw [pitch_ord hc, hr, hw, round_ord]
  · unfold tightR; rw [pitch_ord hc, hr, hw, tight_ord]
  · unfold cutR; rw [pitch_ord hc, hr, goods_ord]
  · unfold leastR; rw [curve_ord hc]
end Go.C02
set_option linter.unusedSimpArgs false
set_option linter.unusedVariables false
namespace Go.C02
open Go.Fam Go.Proofs
theorem tmod_nat (a n : Nat) : (a : Int).tmod n = ((a % n : Nat) : Int) := by
  rw [Int.tmod_eq_emod_of_nonneg (Int.natCast_nonneg a), Int.natCast_emod]
theorem half_set {α : Type} {a b : List α} {i : Nat} {x : α} (h : i < b.length) (hx : a[i]? = some x) : (a.take i ++ b.drop i).set i x = a.take (i + 1) ++ b.drop (i + 1) := by
  have hi := getElemLt hx
  have h1 : (a.take i).length = i := by rw [List.length_take]; omega
  rw [List.set_append_right _ _ (by omega), h1, Nat.sub_self, List.drop_eq_getElem_cons h, List.set_cons_zero, take_succ_of hx]
  simp
theorem half_len {α : Type} {a b : List α} {i : Nat} (h : i ≤ b.length) (he : a.length = b.length) : (a.take i ++ b.drop i).length = b.length := by
  rw [List.length_append, List.length_take, List.length_drop]; omega
theorem half_get {α : Type} {a b : List α} {i : Nat} (h : i < b.length) (he : a.length = b.length) : (a.take i ++ b.drop i)[i]? = b[i]? := by
  have h1 : (a.take i).length = i := by rw [List.length_take]; omega
  rw [List.getElem?_append_right (by omega), h1, Nat.sub_self, List.getElem?_drop, Nat.add_zero]
theorem half_all {α : Type} {a b : List α} (he : a.length = b.length) : a.take b.length ++ b.drop b.length = a := by
  rw [List.drop_length, List.append_nil, ← he, List.take_length]
theorem set_same {α : Type} {l : List α} {i : Nat} {x : α} (h : l[i]? = some x) : l.set i x = l := by
  apply List.ext_getElem?
  intro j
  by_cases hj : j = i
  · subst hj; rw [List.getElem?_set_self (getElemLt h), h]
  · rw [List.getElem?_set_ne (Ne.symm hj)]
theorem strips_put {l : List Strip} {j : Nat} {x : Strip} (h : j < l.length) : List.take (j * 3) (l.map eStrip).flatten ++ eStrip x ++ List.drop (j * 3 + 3) (l.map eStrip).flatten = ((l.set j x).map eStrip).flatten := by
  induction l generalizing j with
  | nil => simp at h
  | cons y l ih =>
    cases j with
    | zero => simp [eStrip]
    | succ j =>
      have := ih (j := j) (by simpa using h)
      simp only [List.map_cons, List.flatten_cons, List.set_cons_succ]
      rw [← this]
      have e : (j + 1) * 3 = 3 + j * 3 := by omega
      have e2 : (j + 1) * 3 + 3 = 3 + (j * 3 + 3) := by omega
      rw [e2, e]
      have hl : (eStrip y).length = 3 := rfl
      rw [List.take_append, List.drop_append, hl]
      simp only [Nat.add_sub_cancel_left]
      rw [List.take_of_length_le (by rw [hl]; omega), List.drop_of_length_le (by rw [hl]; omega)]
      simp
theorem own_setg {d : Dome} {go go' : List Int} {ss : List (List Strip)} (h : ss.length = d.bolts.length) (L : List Blk) : (ownHp d go ss ++ L).set (2 * d.bolts.length + 3) (.cells 1 (go'.map eI).flatten) = ownHp d go' ss ++ L := by
  show _ :: _ :: _ :: ((strM ss ++ _ ++ L).set (2 * d.bolts.length) _) = _
  rw [List.append_assoc, List.set_append_right _ _ (by rw [strM_len]; omega), strM_len, h, Nat.sub_self]
  simp [ownHp]
theorem own_sets {d : Dome} {go : List Int} {ss : List (List Strip)} {i : Nat} (h : i < ss.length) (l : List Strip) (L : List Blk) : (ownHp d go ss ++ L).set (2 * i + 3) (.cells 1 (l.map eStrip).flatten) = ownHp d go (ss.set i l) ++ L := by
  show _ :: _ :: _ :: ((strM ss ++ _ ++ L).set (2 * i) _) = _
  rw [List.append_assoc, List.set_append_left _ _ (by rw [strM_len]; omega), strM_set ss i l h]
  simp [ownHp]
def flips (d : Dome) (T : Nat) : List (List Strip) := (stripsOf d).map fun l => flipL l T
theorem ord_own (d : Dome) (T : Nat) (X : List Blk) : OwnAt (ownHp d (rotL d.gores T) (flips d T) ++ X) (ordD d T).bolts (fun _ => 1) (rotL d.gores T) d.rounds d.widths := by
  have hss : (flips d T).length = d.bolts.length := by simp [flips, stripsOf]
  have hlen : (ordD d T).bolts.length = d.bolts.length := List.length_map ..
  have hat : ∀ (i : Nat) (b' : Bolt), (ordD d T).bolts[i]? = some b' → ∃ b, d.bolts[i]? = some b ∧ b' = flipB T b := fun i b' h => by
    simp only [ordD, List.getElem?_map, Option.map_eq_some_iff] at h
    obtain ⟨b, hb, rfl⟩ := h
    exact ⟨b, hb, rfl⟩
  refine ⟨⟨rowsO 0 d.bolts, rfl, rowsO_four, by rw [rowsO_len, hlen], ?_⟩, ?_, ?_, ?_, ?_⟩
  · intro i b' h
    obtain ⟨b, hb, rfl⟩ := hat i b' h
    rw [rowsO_get, hb, Nat.zero_add]
    simp [rowO, flipB, flipL_len]
  · intro i b' h
    obtain ⟨b, hb, rfl⟩ := hat i b' h
    exact own_s (by simp [flips, stripsOf, hb, flipB])
  · rw [hlen]; exact own_tail hss X 0
  · rw [hlen]; exact own_tail hss X 2
  · rw [hlen]; exact own_tail hss X 4
set_option maxRecDepth 20000 in
set_option maxHeartbeats 8000000 in
theorem P11 (d : Dome) (turn : Int) (x : Int × Int) : PureCall Try.prog 11 [.ag (eDome d), .i turn, .ag [.i x.1, .i x.2]] (.b true) := by
  obtain ⟨j, row⟩ := x
  dsimp only
  refine pure_body okC1 hmix Try.func11 cb11 N.cc11 cs11 cn11 ?_
  by_cases hr : ready d row = true
  · obtain ⟨hv, hc, hir, r1, r2⟩ := ready_of hr
    have hnb := hv.nb
    have hnr := hv.nr
    have hng := hv.ng
    by_cases h1 : j < 0
    · simp only [N.rc11, rs11, gC15, gC16, hr, h1, ru_reg, ru_seq, ru_cnd, ru_ret, ru_keep, thenQ, run_nil, run_cons, Fam.step, stepQ, needQ, condB, ug, evO, opv, qv, pickV_bb, binV, ldV, lenV, callV, V.cells, solid, hasRef, hasRefL, flat, upd_some, lkp_cons, lkp_nil, ↓reduceIte, Nat.reduceEqDiff, Nat.reduceAdd, Nat.reduceLT, Nat.reduceLeDiff, List.map_cons, List.map_nil, List.all_cons, List.all_nil, List.length_cons, List.length_nil, List.drop_succ_cons, List.drop_zero, List.take_succ_cons, List.take_nil, List.headD_cons, List.append_nil, endQ, rvs, rv1, resV, vw_i, vw_b, vw_sl, vw_ag, zipA, beq_self_eq_true, Nat.zero_add, Bool.and_self, Bool.and_true, Bool.or_false, Bool.not_true, Bool.false_eq_true, Bool.true_eq_false, decide_true, and_true, and_self, forall_const, implies_true, reduceCtorEq, beq_false, imp_self, List.length_map, domeE, eDome]
    by_cases h2 : (d.bolts.length : Int) ≤ j
    · simp only [N.rc11, rs11, gC15, gC16, hr, h1, h2, ru_reg, ru_seq, ru_cnd, ru_ret, ru_keep, thenQ, run_nil, run_cons, Fam.step, stepQ, needQ, condB, ug, evO, opv, qv, pickV_bb, binV, ldV, lenV, callV, V.cells, solid, hasRef, hasRefL, flat, upd_some, lkp_cons, lkp_nil, ↓reduceIte, Nat.reduceEqDiff, Nat.reduceAdd, Nat.reduceLT, Nat.reduceLeDiff, List.map_cons, List.map_nil, List.all_cons, List.all_nil, List.length_cons, List.length_nil, List.drop_succ_cons, List.drop_zero, List.take_succ_cons, List.take_nil, List.headD_cons, List.append_nil, endQ, rvs, rv1, resV, vw_i, vw_b, vw_sl, vw_ag, zipA, beq_self_eq_true, Nat.zero_add, Bool.and_self, Bool.and_true, Bool.or_false, Bool.not_true, Bool.false_eq_true, Bool.true_eq_false, decide_true, decide_false, and_true, and_self, forall_const, implies_true, reduceCtorEq, beq_false, imp_self, List.length_map, domeE, eDome]
    by_cases h3 : turn < 0
    · simp only [N.rc11, rs11, gC15, gC16, hr, h1, h2, h3, ru_reg, ru_seq, ru_cnd, ru_ret, ru_keep, thenQ, run_nil, run_cons, Fam.step, stepQ, needQ, condB, ug, evO, opv, qv, pickV_bb, binV, ldV, lenV, callV, V.cells, solid, hasRef, hasRefL, flat, upd_some, lkp_cons, lkp_nil, ↓reduceIte, Nat.reduceEqDiff, Nat.reduceAdd, Nat.reduceLT, Nat.reduceLeDiff, List.map_cons, List.map_nil, List.all_cons, List.all_nil, List.length_cons, List.length_nil, List.drop_succ_cons, List.drop_zero, List.take_succ_cons, List.take_nil, List.headD_cons, List.append_nil, endQ, rvs, rv1, resV, vw_i, vw_b, vw_sl, vw_ag, zipA, beq_self_eq_true, Nat.zero_add, Bool.and_self, Bool.and_true, Bool.or_false, Bool.not_true, Bool.false_eq_true, Bool.true_eq_false, decide_true, decide_false, and_true, and_self, forall_const, implies_true, reduceCtorEq, beq_false, imp_self, List.length_map, domeE, eDome]
    by_cases h4 : 1000 < turn
    · simp only [N.rc11, rs11, gC15, gC16, hr, h1, h2, h3, h4, ru_reg, ru_seq, ru_cnd, ru_ret, ru_keep, thenQ, run_nil, run_cons, Fam.step, stepQ, needQ, condB, ug, evO, opv, qv, pickV_bb, binV, ldV, lenV, callV, V.cells, solid, hasRef, hasRefL, flat, upd_some, lkp_cons, lkp_nil, ↓reduceIte, Nat.reduceEqDiff, Nat.reduceAdd, Nat.reduceLT, Nat.reduceLeDiff, List.map_cons, List.map_nil, List.all_cons, List.all_nil, List.length_cons, List.length_nil, List.drop_succ_cons, List.drop_zero, List.take_succ_cons, List.take_nil, List.headD_cons, List.append_nil, endQ, rvs, rv1, resV, vw_i, vw_b, vw_sl, vw_ag, zipA, beq_self_eq_true, Nat.zero_add, Bool.and_self, Bool.or_false, Bool.not_true, Bool.false_eq_true, decide_true, decide_false, and_self, forall_const, implies_true, reduceCtorEq, List.length_map, domeE, eDome]
    obtain ⟨T, rfl⟩ : ∃ T : Nat, turn = T := ⟨turn.toNat, by omega⟩
    have hj0 : 0 ≤ j := by omega
    have hj1 : j < d.bolts.length := by omega
    have h22 := hv.ok22
    have hss : (stripsOf d).length = d.bolts.length := by simp [stripsOf]
    have hl := own_len d d.gores (stripsOf d) hss
    have b0 : ∀ L : List Blk, (ownHp d d.gores (stripsOf d) ++ L)[2 * d.bolts.length + 9]? = L[0]? := fun L => own_box hss L 0
    have sb0 : ∀ (L : List Blk) (x : Blk), (ownHp d d.gores (stripsOf d) ++ L).set (2 * d.bolts.length + 9) x = ownHp d d.gores (stripsOf d) ++ L.set 0 x := fun L x => own_setbox hss L 0 x
    simp only [N.rc11, rs11, gC15, gC22o, hr, h1, h2, h3, h4, h22, own_vB, shB_zero, shL_zero, hl, b0, sb0, ru_skip, ru_reg, ru_seq, ru_cnd, ru_block, ru_keep, stepO, ocV, nidQ, plO, plQ, plB, rflat, shV, putB, thenQ, run_nil, run_cons, Fam.step, stepQ, stepW, needQ, needW, condB, ug, putB, nv, sv, evO, opv, qv, pickV_bb, binV, ldV, lenV, callV, putAt, V.cells, solid, hasRef, hasRefL, flat, upd_some, upd_none, lkp_cons, lkp_nil, ↓reduceIte, Nat.reduceEqDiff, Nat.reduceAdd, Nat.reduceLT, Nat.reduceLeDiff, List.map_cons, List.map_nil, List.all_cons, List.all_nil, List.length_cons, List.length_nil, List.drop_succ_cons, List.drop_zero, List.take_succ_cons, List.take_zero, List.take_nil, List.headD_cons, List.nil_append, List.append_nil, List.getElem?_cons_zero, List.set_cons_zero, vw_i, vw_sl, vw_ag, zipA, beq_self_eq_true, Nat.zero_add, Bool.and_self, Bool.false_and, Bool.or_false, Bool.not_true, Bool.false_eq_true, decide_false, true_and, and_self, forall_const, implies_true, reduceCtorEq, List.length_map, domeE, eDome]
    refine ⟨⟨rfl, rfl⟩, ?_⟩
    refine ru_count d.gores.length (fun i => ⟨lkp [(1, .i T), (3, .pa (eDome d)), (5, .pa [.i j, .i row]), (7, .ad (2 * d.bolts.length + 9) 0 0), (8, .i i)], ownHp d ((rotL d.gores T).take i ++ d.gores.drop i) (stripsOf d) ++ [.cells 0 (ownCs d)]⟩) ?_ ?_ ?_
    · simp only [Int.natCast_zero, ownCs, Nat.add_assoc, kp, lkp_cons, lkp_nil, ↓reduceIte, Nat.reduceEqDiff, Nat.reduceAdd, List.map_cons, List.map_nil, List.length_cons, List.length_nil, List.drop_succ_cons, List.drop_zero, List.drop_nil, List.take_zero, List.nil_append, List.append_nil, Nat.zero_add, eDome]
    · intro i hi
      have hlt : (i : Int) < d.gores.length := by omega
      have i3 : inI ((i : Int) + 1) := by unfold inI; omega
      have i4 : inI ((i : Int) + T) := by unfold inI; omega
      have hm : (i + T) % d.gores.length < d.gores.length := Nat.mod_lt _ (by omega)
      have hrem : ((i : Int) + T).tmod d.gores.length = (((i + T) % d.gores.length : Nat) : Int) := by rw [← Int.natCast_add]; exact tmod_nat _ _
      have hnz : ¬ (d.gores.length : Int) = 0 := by omega
      have hlm : (((i + T) % d.gores.length : Nat) : Int) < d.gores.length := by omega
      have i5 : inI (((i + T) % d.gores.length : Nat) : Int) := by unfold inI; omega
      obtain ⟨y, hy⟩ : ∃ y, d.gores[(i + T) % d.gores.length]? = some y := ⟨_, List.getElem?_eq_getElem hm⟩
      have hy' : (rotL d.gores T)[i]? = some y := by rw [rotL_get hi]; exact hy
      have hgl : ((rotL d.gores T).take i ++ d.gores.drop i).length = d.gores.length := half_len (by omega) (rotL_len _ _)
      have g0 : ∀ (go : List Int) (L : List Blk), (ownHp d go (stripsOf d) ++ L)[2 * d.bolts.length + 3]? = some (.cells 1 (go.map eI).flatten) := fun go L => own_tail hss L 0
      have bx : ∀ (go : List Int) (L : List Blk), (ownHp d go (stripsOf d) ++ L)[2 * d.bolts.length + 9]? = L[0]? := fun go L => own_box hss L 0
      have hput : List.take i (((rotL d.gores T).take i ++ d.gores.drop i).map eI).flatten ++ [V.i y] ++ List.drop (i + 1) (((rotL d.gores T).take i ++ d.gores.drop i).map eI).flatten = (((rotL d.gores T).take (i + 1) ++ d.gores.drop (i + 1)).map eI).flatten := by
        rw [put_I (by omega), half_set hi hy']
      have hset : ∀ go go' : List Int, ∀ L, (ownHp d go (stripsOf d) ++ L).set (2 * d.bolts.length + 3) (.cells 1 (go'.map eI).flatten) = ownHp d go' (stripsOf d) ++ L := fun go go' L => own_setg hss L
      have q2 : i + 1 ≤ d.gores.length := by omega
      simp only [ownCs, Nat.add_assoc, hlt, i4, hrem, hnz, hlm, hy, g0, bx, hgl, len_I, hput, hset, q2, Nat.mul_one, i3, Int.natCast_add, Int.natCast_one, ru_skip, ru_reg, ru_any, ru_seq, ru_cnd, ru_block, ru_keep, putBs, optL, thenQ, blockQ, run_nil, run_cons, Fam.step, stepQ, needW, runX, eff, nextD, fpR, fpQ, fpV, disjB, hits, nv, sv, evO, opv, qv, binV, ldV, iadV, lenV, curG, putAt, V.cells, solid, cellOk, kp, upd_some, upd_none, lkp_cons, lkp_nil, ↓reduceIte, Nat.reduceEqDiff, Nat.reduceAdd, Nat.reduceLeDiff, List.map_cons, List.map_nil, List.all_cons, List.all_nil, List.length_cons, List.length_nil, List.drop_succ_cons, List.drop_zero, List.headD_cons, List.cons_append, List.nil_append, List.append_nil, List.getElem?_cons_zero, List.getElem?_nil, Option.getD_some, Option.getD_none, List.replicate_zero, List.isEmpty_nil, List.isEmpty_cons, Int.natCast_nonneg, beq_self_eq_true, Nat.zero_add, Bool.and_self, Bool.and_true, Bool.true_and, Bool.false_and, Bool.or_false, Bool.false_or, Bool.not_true, Bool.not_false, Bool.false_eq_true, decide_true, and_self, not_false_eq_true, ne_eq, Option.map_some, List.any_cons, List.any_nil, List.contains_cons, List.contains_nil, List.length_map, Int.toNat_natCast, List.getD_eq_getElem?_getD, List.getElem?_map, eDome, eI]
    · have hgt : ¬ ((d.gores.length : Int) < d.gores.length) := by omega
      have hro : (rotL d.gores T).take d.gores.length ++ d.gores.drop d.gores.length = rotL d.gores T := half_all (rotL_len _ _)
      have hfl : (flips d T).length = d.bolts.length := by simp [flips, stripsOf]
      have hsl : ∀ i, i ≤ d.bolts.length → ((flips d T).take i ++ (stripsOf d).drop i).length = d.bolts.length := fun i hi => by
        rw [half_len (by omega) (by omega), hss]
      simp only [hgt, hro, ru_reg, ru_seq, ru_cnd, ru_block, ru_exit, ru_keep, thenQ, blockQ, run_nil, run_cons, Fam.step, stepQ, evO, opv, qv, binV, ldV, lenV, upd_some, lkp_cons, lkp_nil, ↓reduceIte, Nat.reduceEqDiff, Nat.reduceAdd, Nat.reduceLeDiff, List.map_cons, List.map_nil, List.length_cons, List.length_nil, List.drop_succ_cons, List.drop_zero, List.headD_cons, Nat.zero_add, Bool.false_eq_true, decide_false, true_and, List.length_map, eDome]
      refine ru_count d.bolts.length (fun i => ⟨lkp [(1, .i T), (3, .pa (eDome d)), (5, .pa [.i j, .i row]), (7, .ad (2 * d.bolts.length + 9) 0 0), (9, .i i)], ownHp d (rotL d.gores T) ((flips d T).take i ++ (stripsOf d).drop i) ++ [.cells 0 (ownCs d)]⟩) ?_ ?_ ?_
      · simp only [Int.natCast_zero, ownCs, Nat.add_assoc, kp, lkp_cons, lkp_nil, ↓reduceIte, Nat.reduceEqDiff, Nat.reduceAdd, List.map_cons, List.map_nil, List.drop_zero, List.take_zero, List.nil_append, eDome]
      · intro i hi
        obtain ⟨b, hb⟩ : ∃ b, d.bolts[i]? = some b := ⟨_, List.getElem?_eq_getElem hi⟩
        have hlt : (i : Int) < d.bolts.length := by omega
        have i3 : inI ((i : Int) + 1) := by unfold inI; omega
        have hvb := hv.bolts b (List.mem_of_getElem? hb)
        have hbn := hvb.n
        have hsi : (stripsOf d)[i]? = some b.strips := by simp [stripsOf, hb]
        have hfi : (flips d T)[i]? = some (flipL b.strips T) := by simp [flips, hsi]
        have hsame : ((flips d T).take i ++ (stripsOf d).drop i).set i b.strips = (flips d T).take i ++ (stripsOf d).drop i := set_same (by rw [half_get (by omega) (by omega)]; exact hsi)
        have hnext : ((flips d T).take i ++ (stripsOf d).drop i).set i (flipL b.strips T) = (flips d T).take (i + 1) ++ (stripsOf d).drop (i + 1) := half_set (by omega) hfi
        have hslen := hsl i (by omega)
        simp only [hlt, hb, ru_skip, ru_reg, ru_seq, ru_cnd, ru_block, ru_keep, thenQ, run_nil, run_cons, Fam.step, stepQ, evO, opv, qv, binV, ldV, iadV, lenV, kp, upd_some, lkp_cons, lkp_nil, ↓reduceIte, Nat.reduceEqDiff, Nat.reduceAdd, Nat.reduceLeDiff, List.map_cons, List.map_nil, List.length_cons, List.length_nil, List.drop_succ_cons, List.drop_zero, List.headD_cons, Option.getD_some, Int.natCast_nonneg, Nat.zero_add, Bool.false_eq_true, decide_true, true_and, and_self, Option.map_some, List.length_map, Int.toNat_natCast, List.getD_eq_getElem?_getD, List.getElem?_map, eBolt, eDome]
        refine ru_count b.strips.length (fun k => ⟨lkp [(1, .i T), (3, .pa (eDome d)), (5, .pa [.i j, .i row]), (7, .ad (2 * d.bolts.length + 9) 0 0), (9, .i i), (10, .sl 3 (b.strips.map eStrip)), (11, .i k)],
          ownHp d (rotL d.gores T) (((flips d T).take i ++ (stripsOf d).drop i).set i ((flipL b.strips T).take k ++ b.strips.drop k)) ++ [.cells 0 (ownCs d)]⟩) ?_ ?_ ?_
        · simp only [Int.natCast_zero, ownCs, Nat.add_assoc, hsame, kp, lkp_cons, lkp_nil, ↓reduceIte, Nat.reduceEqDiff, Nat.reduceAdd, List.map_cons, List.map_nil, List.drop_zero, List.take_zero, List.nil_append, eDome]
        · intro k hk
          have hltk : (k : Int) < b.strips.length := by omega
          have i4 : inI ((k : Int) + 1) := by unfold inI; omega
          have i5 : inI ((k : Int) + T) := by unfold inI; omega
          have i6 : inI ((b.strips.length : Int) - 1) := by unfold inI; omega
          have hm : (k + T) % b.strips.length < b.strips.length := Nat.mod_lt _ (by omega)
          have hrem : ((k : Int) + T).tmod b.strips.length = (((k + T) % b.strips.length : Nat) : Int) := by rw [← Int.natCast_add]; exact tmod_nat _ _
          have hnz : ¬ (b.strips.length : Int) = 0 := by omega
          have i7 : inI (((k + T) % b.strips.length : Nat) : Int) := by unfold inI; omega
          have i8 : inI ((b.strips.length : Int) - 1 - (((k + T) % b.strips.length : Nat) : Int)) := by unfold inI; omega
          have j1 : 0 ≤ (b.strips.length : Int) - 1 - (((k + T) % b.strips.length : Nat) : Int) := by omega
          have j2 : (b.strips.length : Int) - 1 - (((k + T) % b.strips.length : Nat) : Int) < b.strips.length := by omega
          have j3 : ((b.strips.length : Int) - 1 - (((k + T) % b.strips.length : Nat) : Int)).toNat = b.strips.length - 1 - (k + T) % b.strips.length := by omega
          obtain ⟨y, hy⟩ : ∃ y, b.strips[b.strips.length - 1 - (k + T) % b.strips.length]? = some y := ⟨_, List.getElem?_eq_getElem (by omega)⟩
          have hy' : (flipL b.strips T)[k]? = some y := by rw [flipL_get hk]; exact hy
          have hll : ((flipL b.strips T).take k ++ b.strips.drop k).length = b.strips.length := half_len (by omega) (flipL_len _ _)
          have hsL : ∀ l : List Strip, (((flips d T).take i ++ (stripsOf d).drop i).set i l).length = d.bolts.length := fun l => by rw [List.length_set]; exact hslen
          have bx : ∀ (l : List Strip) (L : List Blk), (ownHp d (rotL d.gores T) (((flips d T).take i ++ (stripsOf d).drop i).set i l) ++ L)[2 * d.bolts.length + 9]? = L[0]? := fun l L => own_box (hsL l) L 0
          have gs : ∀ (l : List Strip) (L : List Blk), (ownHp d (rotL d.gores T) (((flips d T).take i ++ (stripsOf d).drop i).set i l) ++ L)[2 * i + 3]? = some (.cells 1 (l.map eStrip).flatten) := fun l L => own_s (List.getElem?_set_self (by omega))
          have hset : ∀ (l l' : List Strip) (L : List Blk), (ownHp d (rotL d.gores T) (((flips d T).take i ++ (stripsOf d).drop i).set i l) ++ L).set (2 * i + 3) (.cells 1 (l'.map eStrip).flatten) = ownHp d (rotL d.gores T) (((flips d T).take i ++ (stripsOf d).drop i).set i l') ++ L := fun l l' L => by
            rw [own_sets (by rw [hsL]; exact hi), List.set_set]
          have hput : List.take (k * 3) (((flipL b.strips T).take k ++ b.strips.drop k).map eStrip).flatten ++ [V.i y.long, V.i y.pulled.low, V.i y.pulled.high] ++ List.drop (k * 3 + 3) (((flipL b.strips T).take k ++ b.strips.drop k).map eStrip).flatten = (((flipL b.strips T).take (k + 1) ++ b.strips.drop (k + 1)).map eStrip).flatten := by
            have := strips_put (l := (flipL b.strips T).take k ++ b.strips.drop k) (j := k) (x := y) (by omega)
            rw [half_set hk hy'] at this
            exact this
          have hhd := rowsO_head hb
          have hrl : (rowsO 0 d.bolts).flatten.length = d.bolts.length * 4 := by rw [flat_rows_len (k := 4) _ rowsO_four, rowsO_len]
          have q1 : k * 3 + 3 ≤ b.strips.length * 3 := by omega
          simp only [ownCs, Nat.add_assoc, hlt, hltk, i4, i5, i6, hrem, hnz, i8, j1, j2, j3, hy, hll, bx, gs, own_2, hset, hput, hhd, hrl, q1, flat_len (e := eStrip) (k := 3) (fun _ => rfl), Int.natCast_add, Int.natCast_one, ru_skip, ru_reg, ru_any, ru_seq, ru_cnd, ru_block, ru_keep, putBs, optL, thenQ, blockQ, run_nil, run_cons, Fam.step, stepQ, needW, runX, eff, nextD, fpR, fpQ, fpV, disjB, hits, nv, sv, evO, opv, qv, binV, ldV, iadV, lenV, curG, putAt, V.cells, solid, cellOk, kp, upd_some, upd_none, lkp_cons, lkp_nil, ↓reduceIte, Nat.reduceEqDiff, Nat.reduceAdd, Nat.reduceLeDiff, List.map_cons, List.map_nil, List.all_cons, List.all_nil, List.length_cons, List.length_nil, List.drop_zero, List.take_succ_cons, List.take_nil, List.headD_cons, List.cons_append, List.nil_append, List.append_nil, List.getElem?_cons_zero, List.getElem?_nil, Option.getD_some, Option.getD_none, List.replicate_zero, List.isEmpty_nil, List.isEmpty_cons, Int.natCast_nonneg, beq_self_eq_true, Nat.zero_add, Nat.add_zero, Bool.and_self, Bool.and_true, Bool.true_and, Bool.false_and, Bool.or_false, Bool.false_or, Bool.not_true, Bool.not_false, Bool.false_eq_true, decide_true, true_and, and_true, and_self, not_false_eq_true, ne_eq, Option.map_some, List.any_cons, List.any_nil, List.contains_cons, List.contains_nil, List.length_map, Int.toNat_natCast, List.getD_eq_getElem?_getD, List.getElem?_map, eStrip, eDome]
          omega
        · have hgtk : ¬ ((b.strips.length : Int) < b.strips.length) := by omega
          have hall : (flipL b.strips T).take b.strips.length ++ b.strips.drop b.strips.length = flipL b.strips T := half_all (flipL_len _ _)
          simp only [hgtk, hall, hnext, i3, ownCs, Nat.add_assoc, Int.natCast_add, Int.natCast_one, ru_reg, ru_seq, ru_cnd, ru_exit, ru_keep, thenQ, blockQ, run_nil, run_cons, Fam.step, stepQ, evO, opv, qv, binV, lenV, upd_some, lkp_cons, lkp_nil, ↓reduceIte, Nat.reduceEqDiff, Nat.reduceAdd, List.map_cons, List.map_nil, Bool.false_eq_true, decide_false, and_self, List.length_map, eDome]
      · have hgt2 : ¬ ((d.bolts.length : Int) < d.bolts.length) := by omega
        have hsa : (flips d T).take d.bolts.length ++ (stripsOf d).drop d.bolts.length = flips d T := by
          have := half_all (a := flips d T) (b := stripsOf d) (by omega)
          rwa [hss] at this
        simp only [hgt2, hsa, ru_reg, ru_seq, ru_cnd, ru_exit, ru_keep, thenQ, blockQ, run_nil, run_cons, Fam.step, stepQ, evO, opv, qv, binV, ldV, lenV, upd_some, lkp_cons, lkp_nil, ↓reduceIte, Nat.reduceEqDiff, Nat.reduceAdd, Nat.reduceLeDiff, List.map_cons, List.map_nil, List.length_cons, List.length_nil, List.drop_zero, List.headD_cons, Nat.zero_add, Bool.false_eq_true, decide_false, true_and, List.length_map, eDome]
        refine drp_own (l' := [(3, .pa (eDome d)), (5, .pa [.i j, .i row]), (7, .pa (eDome (ordD d T)))]) ?_ ?_
        · simp only [List.map_cons, List.map_nil, cutV, hpF_zero, Nat.not_lt_zero, if_false, eDome]
          rw [own_view (ord_own d T _) (l := d.loss) (s := d.slope)]
          · rfl
          · rw [show (ordD d T).bolts.length = d.bolts.length from List.length_map .., rotL_len]
            exact own_box hfl _ 0
        obtain ⟨e1, e2, e3, e4, e5⟩ := laws_ord hc T row j
        have hoD : (⟨d.bolts.map (flipB T), rotL d.gores T, d.loss, d.rounds, d.widths, d.slope⟩ : Dome) = ordD d T := rfl
        have hbl : d.bolts.length < 1000 := by omega
        have hnr2 : d.rounds.length < 1000 := by omega
        have hm1 : (ordD d T).bolts.length < 1000 := by rw [show (ordD d T).bolts.length = d.bolts.length from List.length_map ..]; exact hbl
        have hm2 : (ordD d T).rounds.length < 1000 := hnr2
        have hst := stretches_len d j
        simp only [gC36, gC23, gC17, gC19, gC31, gC28, gC16, hbl, hnr2, hm1, hm2, hst, e1, e2, e3, e4, e5, eLE, eSE, eNE, eqSpan, Bool.false_xor, ru_reg, ru_seq, ru_ret, ru_keep, putB, thenQ, run_nil, run_cons, Fam.step, stepQ, stepW, needQ, needW, condB, ug, putB, nv, sv, evO, opv, qv, pickV_bb, binV, ldV, callV, putAt, V.cells, solid, cellOk, intsOf, hasRef, hasRefL, flat, flatL, upd_some, upd_none, lkp_cons, lkp_nil, ↓reduceIte, Nat.reduceEqDiff, Nat.reduceAdd, Nat.reduceLT, Nat.reduceLeDiff, List.map_cons, List.map_nil, List.all_cons, List.all_nil, List.length_cons, List.length_nil, List.drop_succ_cons, List.drop_zero, List.drop_nil, List.take_succ_cons, List.take_zero, List.take_nil, List.headD_cons, List.cons_append, List.nil_append, List.append_nil, List.getElem?_cons_zero, List.getElem?_cons_succ, Option.getD_some, List.set_cons_zero, List.set_cons_succ, endQ, rvs, rv1, resV, vw_i, vw_b, vw_sl, vw_ag, beq_self_eq_true, Nat.zero_add, Bool.and_self, Bool.and_true, Bool.or_false, Bool.false_eq_true, Bool.true_eq_false, decide_true, and_self, forall_const, implies_true, Option.map_some, imp_self, domeE, eSpan, eDome]
  · have hr' : ready d row = false := by simpa using hr
    simp only [N.rc11, rs11, gC15, gC16, hr', ru_reg, ru_seq, ru_cnd, ru_ret, ru_keep, thenQ, run_nil, run_cons, Fam.step, stepQ, needQ, condB, ug, evO, opv, qv, pickV_bb, binV, ldV, lenV, callV, V.cells, solid, hasRef, hasRefL, flat, upd_some, lkp_cons, lkp_nil, ↓reduceIte, Nat.reduceEqDiff, Nat.reduceAdd, Nat.reduceLT, Nat.reduceLeDiff, List.map_cons, List.map_nil, List.all_cons, List.all_nil, List.length_cons, List.length_nil, List.drop_succ_cons, List.drop_zero, List.take_succ_cons, List.take_nil, List.headD_cons, List.append_nil, endQ, rvs, rv1, resV, vw_i, vw_b, vw_sl, vw_ag, zipA, Nat.zero_add, Bool.and_self, Bool.and_true, Bool.or_false, Bool.not_true, Bool.not_false, Bool.false_eq_true, Bool.true_eq_false, and_true, and_self, forall_const, implies_true, reduceCtorEq, beq_false, imp_self, List.length_map, domeE, eDome]
end Go.C02
set_option linter.unusedSimpArgs false
set_option linter.unusedVariables false
namespace Go.C02
open Go.Fam Go.Proofs Go.ChangeAt
variable {H : Type} {enc : TypeId × Value → H} {W : World}
end Go.C02
