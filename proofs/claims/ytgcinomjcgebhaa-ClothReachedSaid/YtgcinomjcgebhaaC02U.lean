import Derived.Test.YtgcinomjcgebhaaC02S
set_option linter.all false
set_option linter.unusedSimpArgs false
set_option linter.unusedVariables false
namespace Go.C02
open Go.Fam Go.Proofs
def cutD (d : Dome) (row w : Int) : Dome := { d with widths := d.widths.set row.toNat w }
def eDNN (a : Dome × Int × Int) : List V := [.ag (eDome a.1), .i a.2.1, .i a.2.2]
def dDNN : List V → Dome × Int × Int | [.ag cs, .i n, .i m] => (dDome cs, n, m) | _ => (D0, 0, 0)
theorem dDNN_e (a : Dome × Int × Int) : dDNN (eDNN a) = a := by simp [dDNN, eDNN, dDome_e]
def r15 : List V → Prop × V := fnG eDN dDN (fun _ => True) (fun a => ready a.1 a.2) .b
def r18 : List V → Prop × V := fnG eDNN dDNN (fun a => Ok22 a.1 ∧ 0 ≤ a.2.1 ∧ a.2.1 < a.1.widths.length) (fun a => cutD a.1 a.2.1 a.2.2) (fun d => .ag (eDome d))
noncomputable def GT : Gam := (GS.ext 15 r15).ext 18 r18
theorem okT : GOk Try.prog GT := by
  have k1 := okS.ext (f := 15) (r := r15) (fun a w => Try.call15 a w) (fnG_ok fun a _ => P15 a.1 a.2)
  exact k1.ext (f := 18) (r := r18) (fun a w => Try.call18 a w) (fnG_ok fun a h => P18 a.1 a.2.1 a.2.2 h.1 h.2)
section
variable (b : List Bolt) (g : List Int) (l : Int) (r : List Span) (w : List Int) (s n m : Int)
theorem gT15 : GT 15 [.ag [.sl 4 (b.map eBolt), .sl 1 (g.map eI), .i l, .sl 2 (r.map eSpan), .sl 1 (w.map eI), .i s], .i n] = (True, .b (ready ⟨b, g, l, r, w, s⟩ n)) :=
  (show GT 15 _ = r15 (eDN (⟨b, g, l, r, w, s⟩, n)) from rfl).trans (fnG_at _ (dDN_e _))
theorem gT18 : GT 18 [.ag [.sl 4 (b.map eBolt), .sl 1 (g.map eI), .i l, .sl 2 (r.map eSpan), .sl 1 (w.map eI), .i s], .i n, .i m] = (Ok22 ⟨b, g, l, r, w, s⟩ ∧ 0 ≤ n ∧ n < w.length, .ag (eDome (cutD ⟨b, g, l, r, w, s⟩ n m))) :=
  (show GT 18 _ = r18 (eDNN (⟨b, g, l, r, w, s⟩, n, m)) from rfl).trans (fnG_at _ (dDNN_e _))
theorem gT17 : GT 17 [.ag [.sl 4 (b.map eBolt), .sl 1 (g.map eI), .i l, .sl 2 (r.map eSpan), .sl 1 (w.map eI), .i s], .i n] = (r.length < 1000, eNE (tightR ⟨b, g, l, r, w, s⟩ n)) := gR17 b g l r w s n
theorem gT19 : GT 19 [.ag [.sl 4 (b.map eBolt), .sl 1 (g.map eI), .i l, .sl 2 (r.map eSpan), .sl 1 (w.map eI), .i s], .i n] = (r.length < 1000, eSE (cutR ⟨b, g, l, r, w, s⟩ n)) := gR19 b g l r w s n
theorem gT20 : GT 20 [.ag [.i n, .i m], .i s] = (True, .b (within s n m)) := gR20 n m s
end
theorem gT16 : GT 16 [] = (True, .b true) := gS16

/-! The plain law. -/
theorem pull_mono {a b s : Int} (h : 0 ≤ a) (hab : a ≤ b) (hs : 0 ≤ s) : pull a s ≤ pull b s := by
  have h1 : a * (1000 + s) ≤ b * (1000 + s) := Int.mul_le_mul_of_nonneg_right hab (by omega)
  have h2 : 0 ≤ a * (1000 + s) := Int.mul_nonneg h (by omega)
  unfold pull
  rw [Int.tdiv_eq_ediv_of_nonneg h2, Int.tdiv_eq_ediv_of_nonneg (Int.le_trans h2 h1)]
  exact Int.ediv_le_ediv (by decide) h1
theorem sumBy_mono {l : List Int} {f g : Int → Int} (h : ∀ x ∈ l, f x ≤ g x) : sumBy l f ≤ sumBy l g := by
  unfold sumBy
  induction l with
  | nil => simp
  | cons x l ih =>
    simp only [List.map_cons, List.sum_cons]
    have := h x (by simp)
    have := ih fun y hy => h y (by simp [hy])
    omega
theorem sorted_bounds {l : List Int} (h : l.Pairwise (· < ·)) {x : Int} (hx : x ∈ l) : l.headD 0 ≤ x ∧ x ≤ l.getLastD 0 := by
  constructor
  · cases l with
    | nil => cases hx
    | cons y l =>
      rw [List.pairwise_cons] at h
      rcases List.mem_cons.1 hx with rfl | hx
      · simp
      · have := h.1 x hx; simp; omega
  · induction l generalizing x with
    | nil => cases hx
    | cons y l ih =>
      rw [List.pairwise_cons] at h
      cases l with
      | nil => simp at hx; subst hx; simp
      | cons z l =>
        have e : (y :: z :: l).getLastD 0 = (z :: l).getLastD 0 := by simp [List.getLastD_eq_getLast?, List.getLast?_cons]
        rw [e]
        rcases List.mem_cons.1 hx with rfl | hx
        · have h1 := h.1 z (by simp)
          have h2 := ih h.2 (x := z) (by simp)
          omega
        · exact ih h.2 hx
theorem ints_sorted (lo hi : Int) : (ints lo hi).Pairwise (· < ·) := by
  unfold ints
  rw [List.pairwise_map]
  exact List.Pairwise.imp (fun h => by omega) List.pairwise_lt_range
theorem goods_sorted (t : Tent) (row : Int) : (goods t row).Pairwise (· < ·) := (ints_sorted _ _).filter _
theorem canTent_low {d : Dome} (h : Good d) {g : Int} (hg : g ∈ d.gores) : 0 ≤ lowOf (tentOf d) g ∧ lowOf (tentOf d) g ≤ highOf (tentOf d) g := by
  have hgg := h.v.gores g hg
  obtain ⟨b, hb⟩ : ∃ b, d.bolts[g.toNat]? = some b := ⟨_, List.getElem?_eq_getElem (by omega)⟩
  have hbm := List.mem_of_getElem? hb
  have hc : (tentOf d).can[g.toNat]? = some (numbersOf b) := by simp [tentOf, cansOf, hb]
  have hne := h.ne b hbm
  have hs : (numbersOf b).Pairwise (· < ·) := (ints_sorted _ _).filter _
  simp only [lowOf, highOf, hc, Option.getD_some]
  have h1 := headD_mem hne
  have h2 := numbersOf_range (h.v.bolts b hbm) h1
  exact ⟨h2.1, (sorted_bounds hs h1).2⟩
theorem round_mono {d : Dome} (h : Good d) {a b : Int} (ha : 2 * d.loss ≤ a) (hab : a ≤ b) : (roundOf (tentOf d) a).low ≤ (roundOf (tentOf d) b).low ∧ (roundOf (tentOf d) a).high ≤ (roundOf (tentOf d) b).high := by
  refine ⟨sumBy_mono fun g hg => ?_, sumBy_mono fun g hg => ?_⟩
  · have := canTent_low h hg
    exact pull_mono (by simp only [tentOf]; omega) (by simp only [tentOf]; omega) (by omega)
  · have := canTent_low h hg
    exact pull_mono (by simp only [tentOf]; omega) (by simp only [tentOf]; omega) (by omega)
theorem fits_iff {t : Tent} {row w : Int} : fits t row w = true ↔ (wantAt t.dome row).low ≤ (roundOf t w).low ∧ (roundOf t w).high ≤ (wantAt t.dome row).high := by
  unfold fits
  simp
theorem tight_one {t : Tent} {row w : Int} : tightOf t row w = 1 ↔ fits t row w = true := by
  rw [fits_iff]
  unfold tightOf
  constructor
  · intro h
    by_cases hc : (wantAt t.dome row).low ≤ (roundOf t w).low ∧ (roundOf t w).high ≤ (wantAt t.dome row).high
    · exact hc
    · rw [if_neg hc] at h
      split at h <;> omega
  · intro h
    rw [if_pos h]
theorem goods_between {d : Dome} (h : Good d) {row w : Int} (hw : 2 * d.loss ≤ w ∧ w ≤ 2000) (hne : goods (tentOf d) row ≠ []) : fits (tentOf d) row w = true ↔ lowAt d row ≤ w ∧ w ≤ highAt d row := by
  constructor
  · intro hf
    exact sorted_bounds (goods_sorted _ _) (mem_goods.2 ⟨hw, hf⟩)
  · rintro ⟨h1, h2⟩
    have m1 := mem_goods.1 (headD_mem hne)
    have m2 := mem_goods.1 (getLastD_mem hne)
    have f1 := fits_iff.1 m1.2
    have f2 := fits_iff.1 m2.2
    have r1 := round_mono h m1.1.1 h1
    have r2 := round_mono h hw.1 h2
    rw [fits_iff]
    exact ⟨Int.le_trans f1.1 r1.1, Int.le_trans r2.2 f2.2⟩
/-- widths within their bounds change nothing in what is valid -/
theorem check_cut {d : Dome} (h : check d = 0) {row w : Int} (hw : 2 * d.loss ≤ w ∧ w ≤ 2000) : check (cutD d row w) = 0 := by
  obtain ⟨h1, h2⟩ := isDome_of h
  have h3 : isDome (cutD d row w) = true := by
    show isDome ⟨d.bolts, d.gores, d.loss, d.rounds, d.widths.set row.toNat w, d.slope⟩ = true
    simp only [isDome, headOk, within, Bool.and_eq_true, decide_eq_true_eq, List.all_eq_true, goreOk, roundOk, widthOk] at h1 ⊢
    rw [List.length_set]
    refine ⟨h1.1, fun x hx => ?_⟩
    rcases List.mem_or_eq_of_mem_set hx with hx | rfl
    · exact h1.2 x hx
    · exact hw
  have h4 : (cutD d row w).bolts.all isBolt = true := h2
  simp [check, h3, h4]
theorem pitch_cut {d : Dome} (h : check d = 0) {row w : Int} (hw : 2 * d.loss ≤ w ∧ w ≤ 2000) (is : Bool) : pitchE (cutD d row w) is = pitchE d is := by
  have : cansOf (cutD d row w) = cansOf d := rfl
  simp [pitchE, h, check_cut h hw, this]
theorem ready_of {d : Dome} {row : Int} (h : ready d row = true) : Valid d ∧ check d = 0 ∧ isRow d row = true ∧ 0 ≤ row ∧ row < d.rounds.length := by
  simp only [ready, Bool.and_eq_true, decide_eq_true_eq] at h
  obtain ⟨⟨⟨_, h2⟩, h3⟩, h4⟩ := h
  refine ⟨valid_of h2, h2, ?_, h3, h4⟩
  simp only [isRow, within, Bool.and_eq_true, decide_eq_true_eq]
  omega
theorem Valid.ok22 {d : Dome} (h : Valid d) : Ok22 d := by
  have := h.nb
  have := h.ng
  have := h.nr
  have := h.nw
  exact ⟨by omega, by omega, by omega, by omega, fun b hb => by have := (h.bolts b hb).n; omega⟩
theorem pitch_vals {d : Dome} (h : check d = 0) : pitchE d true = 0 ∨ pitchE d true = 3 := by
  unfold pitchE
  rw [if_neg (by simp [h])]
  by_cases hc : (cansOf d).any List.isEmpty = true <;> simp [hc]
set_option maxHeartbeats 2000000 in
theorem P3 (d : Dome) (row w : Int) (hw0 : inI w) : PureCall Try.prog 3 [.ag (eDome d), .i row, .i w] (.b true) := by
  refine pure_body okT hmix Try.func3 cb3 cc3 cs3 cn3 ?_
  by_cases hr : ready d row = true
  · obtain ⟨hv, hc, hir, r1, r2⟩ := ready_of hr
    have hloss := hv.loss
    have i1 : inI (2 * d.loss) := by unfold inI; omega
    by_cases hw : 2 * d.loss ≤ w ∧ w ≤ 2000
    · have hw1 : ¬ w < 2 * d.loss := by omega
      have hw2 : ¬ 2000 < w := by omega
      have hrw : row < d.widths.length := by have := hv.nw; omega
      have hnr : d.rounds.length < 1000 := by have := hv.nr; omega
      have h22 := hv.ok22
      have hp := pitch_cut hc hw (row := row) true
      have e1 : tightR (cutD d row w) row = if pitchE d true = 0 then (tightOf (tentOf d) row w, 0) else (0, pitchE d true) := by
        have e2 : isRow (cutD d row w) row = true := hir
        have e3 : widthAt (cutD d row w) row = w := by
          simp only [widthAt, cutD]
          rw [List.getElem?_set_self (by omega)]; rfl
        unfold tightR
        rw [e2, hp, e3]
        rfl
      have e4 : cutR d row = if pitchE d true = 0 then (if (goods (tentOf d) row).isEmpty then (⟨0, 0⟩, 3) else (cutSp (goods (tentOf d) row), 0)) else (⟨0, 0⟩, pitchE d true) := by
        unfold cutR; rw [hir]
      have hnr2 : (cutD d row w).rounds.length < 1000 := hnr
      rcases pitch_vals hc with hp0 | hp3
      · obtain ⟨hg, _⟩ := pitchE_zero hp0
        rw [if_pos hp0] at e1 e4
        by_cases hemp : (goods (tentOf d) row).isEmpty = true
        · rw [if_pos hemp] at e4
          have hn1 : tightOf (tentOf d) row w ≠ 1 := by
            intro h1
            have := mem_goods.2 ⟨hw, tight_one.1 h1⟩
            rw [List.isEmpty_iff.1 hemp] at this
            cases this
          simp only [rc3, rs3, gT15, gT18, gT17, gT19, gT20, gT16, hr, i1, hw1, hw2, h22, r1, hrw, hnr, hnr2, e1, e4, eNE, eSE, hn1, ru_skip, ru_reg, ru_seq, ru_cond, ru_ret, ru_keep, putB, thenQ, run_nil, run_cons, Fam.step, stepQ, stepW, needQ, needW, condB, ug, putB, nv, sv, evO, opv, qv, pickV, binV, ldV, curG, callV, putAt, V.cells, solid, cellOk, hasRef, hasRefL, flat, flatL, upd_some, upd_none, lkp_cons, lkp_nil, ↓reduceIte, Nat.reduceEqDiff, Nat.reduceAdd, Nat.reduceLT, Nat.reduceLeDiff, Int.reduceLE, Int.reduceEq, List.map_cons, List.map_nil, List.all_cons, List.all_nil, List.length_cons, List.length_nil, List.drop_succ_cons, List.drop_zero, List.drop_nil, List.take_succ_cons, List.take_zero, List.take_nil, List.headD_cons, List.nil_append, List.append_nil, List.getElem?_cons_zero, List.getElem?_cons_succ, Option.getD_some, List.set_cons_zero, endQ, rvs, rv1, resV, vw_i, vw_b, vw_sl, vw_ag, zipA, beq_self_eq_true, Nat.zero_add, Nat.add_zero, V.b.injEq, Bool.and_self, Bool.and_true, Bool.and_false, Bool.or_false, Bool.not_true, Bool.not_false, Bool.false_eq_true, Bool.true_eq_false, decide_true, decide_false, decide_eq_true_eq, decide_eq_false_iff_not, true_and, and_true, and_self, and_false, forall_const, false_implies, implies_true, reduceCtorEq, beq_true, ite_f, Bool.decide_eq_true, imp_self, domeE, eSpan, eDome]
        · rw [if_neg hemp] at e4
          have hne : goods (tentOf d) row ≠ [] := fun h => hemp (by rw [h]; rfl)
          have hb := goods_between hg hw hne
          simp only [rc3, rs3, gT15, gT18, gT17, gT19, gT20, gT16, hr, i1, hw1, hw2, h22, r1, hrw, hnr, hnr2, e1, e4, eNE, eSE, ru_skip, ru_reg, ru_seq, ru_cond, ru_ret, ru_keep, putB, thenQ, run_nil, run_cons, Fam.step, stepQ, stepW, needQ, needW, condB, ug, putB, nv, sv, evO, opv, qv, pickV, binV, ldV, curG, callV, putAt, V.cells, solid, cellOk, hasRef, hasRefL, flat, flatL, upd_some, upd_none, lkp_cons, lkp_nil, ↓reduceIte, Nat.reduceEqDiff, Nat.reduceAdd, Nat.reduceLT, Nat.reduceLeDiff, Int.reduceEq, List.map_cons, List.map_nil, List.all_cons, List.all_nil, List.length_cons, List.length_nil, List.drop_succ_cons, List.drop_zero, List.drop_nil, List.take_succ_cons, List.take_zero, List.take_nil, List.headD_cons, List.nil_append, List.append_nil, List.getElem?_cons_zero, List.getElem?_cons_succ, Option.getD_some, List.set_cons_zero, endQ, rvs, rv1, resV, vw_i, vw_b, vw_sl, vw_ag, zipA, beq_self_eq_true, Nat.zero_add, Nat.add_zero, V.b.injEq, Bool.and_self, Bool.and_true, Bool.and_false, Bool.or_false, Bool.not_true, Bool.false_eq_true, decide_true, decide_false, decide_eq_true_eq, decide_eq_false_iff_not, true_and, and_true, and_self, and_false, forall_const, implies_true, reduceCtorEq, beq_true, ite_f, Bool.decide_eq_true, imp_self, domeE, eSpan, eDome]
          have m1 := mem_goods.1 (headD_mem hne)
          have m2 := mem_goods.1 (getLastD_mem hne)
          have m3 := (sorted_bounds (goods_sorted (tentOf d) row) (headD_mem hne)).2
          have m4 : (tentOf d).dome.loss = d.loss := rfl
          rw [m4] at m1 m2
          have e5 : decide (tightOf (tentOf d) row w = 1) = within w (cutSp (goods (tentOf d) row)).low (cutSp (goods (tentOf d) row)).high := by
            rw [Bool.eq_iff_iff, decide_eq_true_eq, tight_one, hb]
            simp only [within, Bool.and_eq_true, decide_eq_true_eq]
            rfl
          rw [e5]
          simp only [Bool.and_eq_true, decide_eq_true_eq, beq_self_eq_true, Bool.false_xor, and_true]
          exact ⟨⟨m1.1.1, m3⟩, m2.1.2⟩
      · rw [if_neg (by rw [hp3]; decide)] at e1 e4
        simp only [rc3, rs3, gT15, gT18, gT17, gT19, gT20, gT16, hr, i1, hw1, hw2, h22, r1, hrw, hnr, hnr2, e1, e4, eNE, eSE, hp3, ru_skip, ru_reg, ru_seq, ru_cond, ru_ret, ru_keep, putB, thenQ, run_nil, run_cons, Fam.step, stepQ, stepW, needQ, needW, condB, ug, putB, nv, sv, evO, opv, qv, pickV, binV, ldV, curG, callV, putAt, V.cells, solid, cellOk, hasRef, hasRefL, flat, flatL, upd_some, upd_none, lkp_cons, lkp_nil, ↓reduceIte, Nat.reduceEqDiff, Nat.reduceAdd, Nat.reduceLT, Nat.reduceLeDiff, Int.reduceLE, Int.reduceEq, List.map_cons, List.map_nil, List.all_cons, List.all_nil, List.length_cons, List.length_nil, List.drop_succ_cons, List.drop_zero, List.drop_nil, List.take_succ_cons, List.take_zero, List.take_nil, List.headD_cons, List.nil_append, List.append_nil, List.getElem?_cons_zero, List.getElem?_cons_succ, Option.getD_some, List.set_cons_zero, endQ, rvs, rv1, resV, vw_i, vw_b, vw_sl, vw_ag, zipA, beq_self_eq_true, Nat.zero_add, Nat.add_zero, V.b.injEq, Bool.and_self, Bool.and_true, Bool.and_false, Bool.or_false, Bool.not_true, Bool.not_false, Bool.false_eq_true, Bool.true_eq_false, decide_true, decide_false, decide_eq_true_eq, decide_eq_false_iff_not, true_and, and_true, and_self, forall_const, false_implies, implies_true, reduceCtorEq, beq_true, ite_f, Bool.decide_eq_true, imp_self, domeE, eSpan, eDome]
    · by_cases hw1 : w < 2 * d.loss
      · simp only [rc3, rs3, gT15, gT16, hr, i1, hw1, ru_skip, ru_reg, ru_seq, ru_cond, ru_ret, ru_keep, putB, thenQ, run_nil, run_cons, Fam.step, stepQ, stepW, needQ, needW, condB, ug, putB, nv, sv, evO, opv, qv, pickV, binV, ldV, curG, callV, putAt, V.cells, solid, hasRef, hasRefL, flat, upd_some, upd_none, lkp_cons, lkp_nil, ↓reduceIte, Nat.reduceEqDiff, Nat.reduceAdd, Nat.reduceLT, Nat.reduceLeDiff, List.map_cons, List.map_nil, List.all_cons, List.all_nil, List.length_cons, List.length_nil, List.drop_succ_cons, List.drop_zero, List.take_succ_cons, List.take_zero, List.take_nil, List.headD_cons, List.nil_append, List.append_nil, List.getElem?_cons_zero, List.set_cons_zero, endQ, rvs, rv1, resV, vw_i, vw_b, vw_sl, vw_ag, zipA, beq_self_eq_true, Nat.zero_add, Nat.add_zero, Bool.and_self, Bool.and_true, Bool.or_false, Bool.not_true, Bool.false_eq_true, Bool.true_eq_false, decide_true, true_and, and_true, and_self, forall_const, false_implies, implies_true, reduceCtorEq, beq_true, beq_false, imp_self, domeE, eDome]
      · have hw2 : 2000 < w := by omega
        simp only [rc3, rs3, gT15, gT16, hr, i1, hw1, hw2, ru_skip, ru_reg, ru_seq, ru_cond, ru_ret, ru_keep, putB, thenQ, run_nil, run_cons, Fam.step, stepQ, stepW, needQ, needW, condB, ug, putB, nv, sv, evO, opv, qv, pickV, binV, ldV, curG, callV, putAt, V.cells, solid, hasRef, hasRefL, flat, upd_some, upd_none, lkp_cons, lkp_nil, ↓reduceIte, Nat.reduceEqDiff, Nat.reduceAdd, Nat.reduceLT, Nat.reduceLeDiff, List.map_cons, List.map_nil, List.all_cons, List.all_nil, List.length_cons, List.length_nil, List.drop_succ_cons, List.drop_zero, List.take_succ_cons, List.take_zero, List.take_nil, List.headD_cons, List.nil_append, List.append_nil, List.getElem?_cons_zero, List.set_cons_zero, endQ, rvs, rv1, resV, vw_i, vw_b, vw_sl, vw_ag, zipA, beq_self_eq_true, Nat.zero_add, Nat.add_zero, Bool.and_self, Bool.and_true, Bool.or_false, Bool.not_true, Bool.false_eq_true, Bool.true_eq_false, decide_true, decide_false, true_and, and_true, and_self, forall_const, false_implies, implies_true, reduceCtorEq, beq_true, domeE, eDome]
  · have hr' : ready d row = false := by simpa using hr
    simp only [rc3, rs3, gT15, gT16, hr', ru_skip, ru_reg, ru_seq, ru_cond, ru_ret, ru_keep, putB, thenQ, run_nil, run_cons, Fam.step, stepQ, stepW, needQ, needW, condB, ug, putB, nv, sv, evO, opv, qv, pickV, binV, ldV, curG, callV, putAt, V.cells, solid, hasRef, hasRefL, flat, upd_some, upd_none, lkp_cons, lkp_nil, ↓reduceIte, Nat.reduceEqDiff, Nat.reduceAdd, Nat.reduceLT, Nat.reduceLeDiff, List.map_cons, List.map_nil, List.all_cons, List.all_nil, List.length_cons, List.length_nil, List.drop_succ_cons, List.drop_zero, List.take_succ_cons, List.take_zero, List.take_nil, List.headD_cons, List.nil_append, List.append_nil, List.getElem?_cons_zero, List.set_cons_zero, endQ, rvs, rv1, resV, vw_i, vw_b, vw_sl, vw_ag, zipA, beq_self_eq_true, Nat.zero_add, Nat.add_zero, Bool.and_self, Bool.and_true, Bool.or_false, Bool.not_true, Bool.not_false, Bool.false_eq_true, Bool.true_eq_false, true_and, and_true, and_self, false_and, forall_const, false_implies, implies_true, reduceCtorEq, beq_true, beq_false, imp_self, domeE, eDome]
end Go.C02
