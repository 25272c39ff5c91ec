import Derived.Test.YtgcinomjcgebhaaC02K
set_option linter.all false
set_option linter.unusedSimpArgs false
set_option linter.unusedVariables false
namespace Go.C02
open Go.Fam Go.Proofs
def dTN : List V → Tent × Int | [.pa cs, .i n] => (dTent cs, n) | _ => (⟨D0, []⟩, 0)
def eTN (a : Tent × Int) : List V := [.pa (eTent a.1), .i a.2]
theorem dTN_e (a : Tent × Int) : dTN (eTN a) = a := by simp [dTN, eTN, dTent_e]
def eDB (a : Dome × Bool) : List V := [.ag (eDome a.1), .b a.2]
def dDB : List V → Dome × Bool | [.ag cs, .b n] => (dDome cs, n) | _ => (D0, false)
theorem dDB_e (a : Dome × Bool) : dDB (eDB a) = a := by simp [dDB, eDB, dDome_e]
def r50 : List V → Prop × V := fnG eTN dTN (fun a => ok50 a.1 a.2) (fun a => roundOf a.1 a.2) (fun s => .ag (eSpan s))
def r45 : List V → Prop × V := fnG eDB dDB (fun _ => True) (fun a => a) (fun a => pitchV a.1 a.2)
def r40 : List V → Prop × V := fnG eDN dDN (fun a => a.1.bolts.length < 1000000) (fun a => fewest a.1 a.2) eNE
def GL : Gam := ((GJ.ext 50 r50).ext 45 r45).ext 40 r40
theorem okL : GOk Try.prog GL := by
  have k1 := okJ.ext (f := 50) (r := r50) (fun a w => Try.call50 a w) (fnG_ok fun a h => P50 a.1 a.2 h)
  have k2 := k1.ext (f := 45) (r := r45) (fun a w => Try.call45 a w) (fnG_ok fun a _ => P45 a.1 a.2)
  exact k2.ext (f := 40) (r := r40) (fun a w => Try.call40 a w) (fnG_ok fun a h => P40 a.1 a.2 h)
theorem gL50 (b : List Bolt) (g : List Int) (l : Int) (r : List Span) (w : List Int) (s : Int) (c : List (List Int)) (n : Int) :
    GL 50 [.pa [.sl 4 (b.map eBolt), .sl 1 (g.map eI), .i l, .sl 2 (r.map eSpan), .sl 1 (w.map eI), .i s, .sl 1 (c.map eCan)], .i n] = (ok50 ⟨⟨b, g, l, r, w, s⟩, c⟩ n, .ag (eSpan (roundOf ⟨⟨b, g, l, r, w, s⟩, c⟩ n))) :=
  (show GL 50 _ = r50 (eTN (⟨⟨b, g, l, r, w, s⟩, c⟩, n)) from rfl).trans (fnG_at _ (dTN_e _))
theorem gL45 (b : List Bolt) (g : List Int) (l : Int) (r : List Span) (w : List Int) (s : Int) (x : Bool) :
    GL 45 [.ag [.sl 4 (b.map eBolt), .sl 1 (g.map eI), .i l, .sl 2 (r.map eSpan), .sl 1 (w.map eI), .i s], .b x] = (True, pitchV ⟨b, g, l, r, w, s⟩ x) :=
  (show GL 45 _ = r45 (eDB (⟨b, g, l, r, w, s⟩, x)) from rfl).trans (fnG_at _ (dDB_e _))
def isRow (d : Dome) (n : Int) : Bool := within n 0 (d.rounds.length - 1)
def isBoltOf (d : Dome) (n : Int) : Bool := within n 0 (d.bolts.length - 1)
theorem gL46 (b : List Bolt) (g : List Int) (l : Int) (r : List Span) (w : List Int) (s : Int) (n : Int) :
    GL 46 [.ag [.sl 4 (b.map eBolt), .sl 1 (g.map eI), .i l, .sl 2 (r.map eSpan), .sl 1 (w.map eI), .i s], .i n] = (r.length < 1000, .b (isRow ⟨b, g, l, r, w, s⟩ n)) := gJ46 ⟨b, g, l, r, w, s⟩ n
theorem gL56 (b : List Bolt) (g : List Int) (l : Int) (r : List Span) (w : List Int) (s : Int) (n : Int) :
    GL 56 [.ag [.sl 4 (b.map eBolt), .sl 1 (g.map eI), .i l, .sl 2 (r.map eSpan), .sl 1 (w.map eI), .i s], .i n] = (b.length < 1000, .b (isBoltOf ⟨b, g, l, r, w, s⟩ n)) := gJ56 ⟨b, g, l, r, w, s⟩ n
theorem gL67 (n lo hi : Int) : GL 67 [.i n, .i lo, .i hi] = (True, .b (within n lo hi)) := rfl

/-- a dome with a truth -/
structure Good (d : Dome) : Prop where
  v : Valid d
  c : check d = 0
  ne : ∀ b ∈ d.bolts, numbersOf b ≠ []
theorem pitchE_zero {d : Dome} {is : Bool} (h : pitchE d is = 0) : Good d ∧ is = true := by
  unfold pitchE at h
  by_cases h1 : check d = 0
  · rw [if_neg (by simp [h1])] at h
    cases is
    · simp at h
    · refine ⟨⟨valid_of h1, h1, fun b hb hn => ?_⟩, rfl⟩
      by_cases h2 : (cansOf d).any List.isEmpty = true
      · simp [h2] at h
      · apply h2
        rw [List.any_eq_true]
        exact ⟨numbersOf b, List.mem_map_of_mem hb, by simp [hn]⟩
  · rw [if_pos h1] at h
    exact absurd h h1
theorem Good.pitch {d : Dome} (h : Good d) (is : Bool) : pitchE d is = if is then 0 else 1 := by
  have : ¬ (cansOf d).any List.isEmpty = true := by
    rw [List.any_eq_true]
    rintro ⟨l, hl, he⟩
    obtain ⟨b, hb, rfl⟩ := List.mem_map.1 hl
    exact h.ne b hb (by simpa using he)
  simp [pitchE, h.c, this]
def tentOf (d : Dome) : Tent := ⟨d, cansOf d⟩
theorem mem_numbersOf {b : Bolt} {s : Int} : s ∈ numbersOf b ↔ can b s = true := by
  simp only [numbersOf, List.mem_filter, mem_ints]
  constructor
  · exact fun h => h.2
  · intro h
    refine ⟨?_, h⟩
    simp only [can, within, Bool.and_eq_true, decide_eq_true_eq] at h
    omega
theorem numbersOf_range {b : Bolt} (hv : ValidB b) {s : Int} (h : s ∈ numbersOf b) : 0 ≤ s ∧ s ≤ 60 := by
  have := mem_numbersOf.1 h
  simp only [can, within, Bool.and_eq_true, decide_eq_true_eq] at this
  have := hv.st
  omega
theorem numbersOf_len {b : Bolt} (hv : ValidB b) : (numbersOf b).length ≤ 61 := by
  have h1 : (numbersOf b).length ≤ (ints b.stretch.low b.stretch.high).length := List.length_filter_le _ _
  rw [ints_len] at h1
  have := hv.st
  omega
theorem Good.ok50 {d : Dome} (h : Good d) {w : Int} (hw : tame 100000 w) : ok50 (tentOf d) w := by
  have := h.v.loss
  have := h.v.ng
  refine ⟨hw, by unfold tame tentOf; dsimp only; omega, fun g hg => ?_, fun l hl => ?_, by unfold tentOf; dsimp only; omega⟩
  · have := h.v.gores g hg
    simp only [tentOf, cansOf, List.length_map]
    omega
  · obtain ⟨b, hb, rfl⟩ := List.mem_map.1 hl
    have hvb := h.v.bolts b hb
    refine ⟨h.ne b hb, by have := numbersOf_len hvb; omega, fun s hs => ?_⟩
    have := numbersOf_range hvb hs
    unfold tame; omega
def widthAt (d : Dome) (n : Int) : Int := d.widths[n.toNat]?.getD 0
def wantAt (d : Dome) (n : Int) : Span := d.rounds[n.toNat]?.getD ⟨0, 0⟩
def roundR (d : Dome) (row : Int) : Span × Int := if pitchE d (isRow d row) = 0 then (roundOf (tentOf d) (widthAt d row), 0) else (⟨0, 0⟩, pitchE d (isRow d row))
def eSE (a : Span × Int) : V := .tp [.ag (eSpan a.1), .i a.2]
theorem row_of {d : Dome} (hv : Valid d) {n : Int} (h : isRow d n = true) : 0 ≤ n ∧ n < d.rounds.length ∧ n < d.widths.length ∧ d.widths[n.toNat]? = some (widthAt d n) ∧ d.rounds[n.toNat]? = some (wantAt d n) ∧ 2 * d.loss ≤ widthAt d n ∧ widthAt d n ≤ 2000 := by
  obtain ⟨k1, k2⟩ := within_nat h
  have := hv.nw
  have e1 : d.widths[n.toNat]? = some (widthAt d n) := by rw [widthAt, List.getElem?_eq_getElem (by omega)]; rfl
  have e2 : d.rounds[n.toNat]? = some (wantAt d n) := by rw [wantAt, List.getElem?_eq_getElem (by omega)]; rfl
  have := hv.widths _ (List.mem_of_getElem? e1)
  exact ⟨k1, k2, by omega, e1, e2, this⟩
theorem P23 (d : Dome) (n : Int) (hb : d.rounds.length < 1000) : PureCall Try.prog 23 [.ag (eDome d), .i n] (eSE (roundR d n)) := by
  refine pure_body okL hmix Try.func23 cb23 cc23 cs23 cn23 ?_
  simp only [rc23, rs23, gL46, gL45, pitchV, eSE, roundR, ru_skip, ru_reg, ru_any, ru_seq, ru_cond, ru_ret, ru_keep, putB, thenQ, run_nil, run_cons, Fam.step, stepQ, stepW, needW, runX, eff, nextD, fpR, fpQ, fpV, disjB, hits, putB, nv, sv, evO, opv, qv, pickV, binV, ldV, iadV, callV, foldParts, putAt, partsOk, V.cells, solid, cellOk, hasRef, hasRefL, flat, flatL, upd_some, upd_none, lkp_cons, lkp_nil, ↓reduceIte, Nat.reduceEqDiff, Nat.reduceAdd, Nat.reduceLT, Nat.reduceLeDiff, List.map_cons, List.map_nil, List.all_cons, List.all_nil, List.length_cons, List.length_nil, List.drop_succ_cons, List.drop_zero, List.drop_nil, List.take_succ_cons, List.take_zero, List.take_nil, List.headD_cons, List.cons_append, List.nil_append, List.append_nil, List.getElem?_cons_zero, List.getElem?_cons_succ, List.getElem?_nil, Option.getD_some, Option.getD_none, List.set_cons_zero, List.replicate_zero, List.isEmpty_nil, endQ, rvs, rv1, resV, vw_i, vw_b, vw_sl, vw_ag, vw_tp, zipA, Nat.zero_add, Bool.and_self, Bool.and_true, Bool.false_and, Bool.or_false, Bool.not_true, Bool.not_false, Bool.false_eq_true, decide_eq_true_eq, decide_eq_false_iff_not, true_and, and_true, and_self, false_implies, implies_true, reduceCtorEq, List.any_nil, List.contains_nil, Bool.not_eq_false', Bool.not_eq_true', List.length_map, List.getD_eq_getElem?_getD, List.getElem?_map, domeE, eSpan, eDome, eTent]
  refine ⟨by omega, fun h => ?_, fun h => ?_⟩
  · simp [h]
  · obtain ⟨hg, hr⟩ := pitchE_zero h
    obtain ⟨k1, k2, k3, k4, k5, k6⟩ := row_of hg.v hr
    have hl := hg.v.loss
    have h3 := hg.ok50 (w := widthAt d n) (by unfold tame; omega)
    unfold tentOf at *
    simp only [h, k1, k3, k4, gL50, h3, cellOk, hasRef, flat, flatL, ↓reduceIte, Nat.reduceAdd, Nat.reduceLeDiff, List.map_cons, List.map_nil, List.all_cons, List.all_nil, List.length_cons, List.length_nil, List.drop_succ_cons, List.drop_nil, List.take_succ_cons, List.take_nil, List.headD_cons, List.append_nil, Option.getD_some, vw_i, vw_pa, Nat.zero_add, Bool.and_self, Bool.or_false, Bool.false_eq_true, and_self, implies_true, Option.map_some, domeE, eSpan, eI]
    all_goals skip

def fits (t : Tent) (row w : Int) : Bool := !(decide ((roundOf t w).low < (wantAt t.dome row).low) || decide ((wantAt t.dome row).high < (roundOf t w).high))
theorem headD_snoc {l : List Int} {x y : Int} : (l ++ [x]).headD y = if l.isEmpty then x else l.headD y := by cases l <;> simp
theorem getLastD_snoc {l : List Int} {x y : Int} : (l ++ [x]).getLastD y = x := by simp [List.getLastD_eq_getLast?]
theorem isEmpty_snoc {l : List Int} {x : Int} : (l ++ [x]).isEmpty = false := by cases l <;> rfl
def goods (t : Tent) (row : Int) : List Int := (ints (2 * t.dome.loss) 2000).filter (fits t row)
def goodsTo (t : Tent) (row : Int) (k : Nat) : List Int := ((ints (2 * t.dome.loss) 2000).take k).filter (fits t row)
def cutSp (l : List Int) : Span := ⟨l.headD 0, l.getLastD 0⟩
def cutOf (t : Tent) (row : Int) : Span × Bool := (cutSp (goods t row), !(goods t row).isEmpty)
def eSB (a : Span × Bool) : V := .tp [.ag (eSpan a.1), .b a.2]
def ok48 (t : Tent) (row : Int) : Prop := 0 ≤ t.dome.loss ∧ t.dome.loss ≤ 20 ∧ 0 ≤ row ∧ row < t.dome.rounds.length ∧ ∀ w, 0 ≤ w → w ≤ 2000 → ok50 t w
theorem P48 (t : Tent) (row : Int) (h : ok48 t row) : PureCall Try.prog 48 [.pa (eTent t), .i row] (eSB (cutOf t row)) := by
  refine pure_body okL hmix Try.func48 cb48 cc48 cs48 cn48 ?_
  obtain ⟨h1, h2, h3, h4, h5⟩ := h
  have e2 : t.dome.rounds[row.toNat]? = some (wantAt t.dome row) := by rw [wantAt, List.getElem?_eq_getElem (by omega)]; rfl
  have i1 : inI (2 * t.dome.loss) := by unfold inI; omega
  simp only [rc48, rs48, eTent, h3, h4, e2, i1, eSB, ru_reg, ru_seq, ru_block, ru_keep, putB, thenQ, run_nil, run_cons, Fam.step, stepQ, stepW, needW, putB, nv, sv, evO, opv, qv, pickV, binV, ldV, iadV, putAt, V.cells, solid, cellOk, upd_some, upd_none, lkp_cons, lkp_nil, ↓reduceIte, Nat.reduceEqDiff, Nat.reduceAdd, Nat.reduceLeDiff, List.map_cons, List.map_nil, List.all_cons, List.all_nil, List.length_cons, List.length_nil, List.drop_succ_cons, List.drop_zero, List.drop_nil, List.take_succ_cons, List.take_zero, List.take_nil, List.headD_cons, List.cons_append, List.nil_append, List.append_nil, List.getElem?_cons_zero, List.getElem?_cons_succ, Option.getD_some, List.set_cons_zero, List.set_cons_succ, zipA, Nat.zero_add, Bool.and_self, Bool.false_eq_true, true_and, and_self, reduceCtorEq, Option.map_some, List.length_map, List.getD_eq_getElem?_getD, List.getElem?_map, eSpan, eDome, eTent]
  refine ru_count (2001 - 2 * t.dome.loss).toNat (fun k => ⟨lkp [(0, .pa (eTent t)), (4, .ad 0 0 0), (5, .b (!(goodsTo t row k).isEmpty)), (6, .ad 1 0 0), (7, .i (2 * t.dome.loss + k))],
    [.cells 0 [.i ((goodsTo t row k).headD 0), .i ((goodsTo t row k).getLastD 0)], .cells 0 (eSpan (wantAt t.dome row))]⟩) ?_ ?_ ?_
  · simp only [Int.natCast_zero, Int.add_zero, goodsTo, List.filter_nil, List.isEmpty_nil, List.headD_nil, List.getLastD_nil, cutH, kp, cutV, cutL, cutB, lkp_cons, lkp_nil, ↓reduceIte, Nat.reduceEqDiff, Nat.reduceLT, List.map_cons, List.map_nil, List.take_succ_cons, List.take_zero, List.take_nil, List.headD_nil, List.cons_append, List.nil_append, List.isEmpty_nil, Bool.not_true, reduceCtorEq, eSpan, eDome, eTent]
  · intro k hk
    have hget : (ints (2 * t.dome.loss) 2000)[k]? = some (2 * t.dome.loss + k) := ints_get (by omega)
    have hs : goodsTo t row (k + 1) = goodsTo t row k ++ (if fits t row (2 * t.dome.loss + k) then [2 * t.dome.loss + k] else []) := filter_snoc _ hget
    have hlt : 2 * t.dome.loss + (k : Int) ≤ 2000 := by omega
    have i2 : inI (2 * t.dome.loss + (k : Int) + 1) := by unfold inI; omega
    have o3 := h5 (2 * t.dome.loss + k) (by omega) (by omega)
    simp only [hlt, eTent, gL50, o3, hs, Int.natCast_add, Int.natCast_one, Int.add_assoc, ru_skip, ru_reg, ru_seq, ru_cond, ru_block, ru_exit, ru_ret, ru_keep, ru_drp, ↓cut_lkp, cutH, putB, thenQ, blockQ, run_nil, run_cons, Fam.step, stepQ, stepW, needQ, needW, condB, ug, putB, nv, sv, evO, opv, qv, pickV, binV, ldV, curG, callV, putAt, V.cells, solid, cellOk, hasRef, hasRefL, flat, flatL, kp, cutV, cutL, cutB, upd_some, upd_none, lkp_cons, lkp_nil, ↓reduceIte, Nat.reduceEqDiff, Nat.reduceAdd, Nat.reduceLT, Nat.reduceLeDiff, List.map_cons, List.map_nil, List.all_cons, List.all_nil, List.length_cons, List.length_nil, List.drop_succ_cons, List.drop_zero, List.drop_nil, List.take_succ_cons, List.take_zero, List.take_nil, List.headD_cons, List.cons_append, List.nil_append, List.append_nil, List.getElem?_cons_zero, List.getElem?_cons_succ, List.set_cons_zero, List.set_cons_succ, endQ, rvs, rv1, resV, vw_i, vw_b, vw_pa, vw_ag, vw_tp, beq_self_eq_true, Nat.zero_add, Nat.add_zero, Bool.and_self, Bool.and_true, Bool.or_false, Bool.false_eq_true, Bool.true_eq_false, decide_true, decide_eq_true_eq, decide_eq_false_iff_not, true_and, and_true, and_self, forall_const, false_implies, implies_true, reduceCtorEq, beq_false, Bool.not_not, Bool.not_eq_true', ite_t, imp_self, domeE, tentE, eSpan, eDome, eTent]
    rw [Int.add_assoc] at i2
    refine ⟨fun h => ?_, fun h => ⟨fun he => ?_, fun he => ?_⟩⟩
    · have hf : fits t row (2 * t.dome.loss + k) = false := by unfold fits; rw [h]; rfl
      simp only [hf, i2, ↓reduceIte, List.append_nil, Bool.false_eq_true, and_self]
    · have hf : fits t row (2 * t.dome.loss + k) = true := by unfold fits; rw [h]; rfl
      simp only [hf, i2, he, headD_snoc, getLastD_snoc, isEmpty_snoc, ↓reduceIte, Bool.not_false, and_self]
    · have hf : fits t row (2 * t.dome.loss + k) = true := by unfold fits; rw [h]; rfl
      simp only [hf, i2, he, headD_snoc, getLastD_snoc, isEmpty_snoc, ↓reduceIte, Bool.not_false, Bool.false_eq_true, and_self]
  · have hgt : ¬ (2 * t.dome.loss + ((2001 - 2 * t.dome.loss).toNat : Int) ≤ 2000) := by omega
    simp only [hgt, ru_skip, ru_reg, ru_seq, ru_cond, ru_block, ru_exit, ru_ret, ru_keep, ru_drp, ↓cut_lkp, cutH, putB, thenQ, blockQ, run_nil, run_cons, Fam.step, stepQ, stepW, needQ, needW, condB, ug, putB, nv, sv, evO, opv, qv, pickV, binV, ldV, curG, callV, putAt, V.cells, solid, cellOk, hasRef, hasRefL, cutV, cutL, cutB, upd_some, upd_none, lkp_cons, lkp_nil, ↓reduceIte, Nat.reduceEqDiff, Nat.reduceAdd, Nat.reduceLT, Nat.reduceLeDiff, List.map_cons, List.map_nil, List.all_cons, List.all_nil, List.length_cons, List.length_nil, List.drop_succ_cons, List.drop_zero, List.drop_nil, List.take_succ_cons, List.take_zero, List.take_nil, List.headD_cons, List.cons_append, List.nil_append, List.append_nil, List.getElem?_cons_zero, List.getElem?_cons_succ, List.set_cons_zero, List.set_cons_succ, endQ, rvs, rv1, resV, vw_i, vw_b, vw_pa, vw_ag, vw_tp, beq_self_eq_true, Nat.zero_add, Nat.add_zero, Bool.and_self, Bool.and_true, Bool.or_false, Bool.false_eq_true, decide_false, true_and, and_true, and_self, and_false, forall_const, false_implies, implies_true, reduceCtorEq, beq_false, Bool.not_not, eSpan, eDome, eTent]
    have e : goodsTo t row (2001 - 2 * t.dome.loss).toNat = goods t row := by
      unfold goodsTo goods
      rw [show (2001 - 2 * t.dome.loss).toNat = (ints (2 * t.dome.loss) 2000).length from by rw [ints_len]; rfl, List.take_length]
    rw [e]; rfl

theorem Good.ok48 {d : Dome} (h : Good d) {row : Int} (hr : isRow d row = true) : ok48 (tentOf d) row := by
  obtain ⟨k1, k2, k3, k4, k5, k6⟩ := row_of h.v hr
  have hl := h.v.loss
  exact ⟨hl.1, hl.2, k1, k2, fun w h1 h2 => h.ok50 (by unfold tame; omega)⟩
def r48 : List V → Prop × V := fnG eTN dTN (fun a => ok48 a.1 a.2) (fun a => cutOf a.1 a.2) eSB
def GM : Gam := GL.ext 48 r48
theorem okM : GOk Try.prog GM := okL.ext (f := 48) (r := r48) (fun a w => Try.call48 a w) (fnG_ok fun a h => P48 a.1 a.2 h)
theorem gM48 (b : List Bolt) (g : List Int) (l : Int) (r : List Span) (w : List Int) (s : Int) (c : List (List Int)) (n : Int) :
    GM 48 [.pa [.sl 4 (b.map eBolt), .sl 1 (g.map eI), .i l, .sl 2 (r.map eSpan), .sl 1 (w.map eI), .i s, .sl 1 (c.map eCan)], .i n] = (ok48 ⟨⟨b, g, l, r, w, s⟩, c⟩ n, eSB (cutOf ⟨⟨b, g, l, r, w, s⟩, c⟩ n)) :=
  (show GM 48 _ = r48 (eTN (⟨⟨b, g, l, r, w, s⟩, c⟩, n)) from rfl).trans (fnG_at _ (dTN_e _))
theorem gM45 (b : List Bolt) (g : List Int) (l : Int) (r : List Span) (w : List Int) (s : Int) (x : Bool) :
    GM 45 [.ag [.sl 4 (b.map eBolt), .sl 1 (g.map eI), .i l, .sl 2 (r.map eSpan), .sl 1 (w.map eI), .i s], .b x] = (True, pitchV ⟨b, g, l, r, w, s⟩ x) := gL45 b g l r w s x
theorem gM46 (b : List Bolt) (g : List Int) (l : Int) (r : List Span) (w : List Int) (s : Int) (n : Int) :
    GM 46 [.ag [.sl 4 (b.map eBolt), .sl 1 (g.map eI), .i l, .sl 2 (r.map eSpan), .sl 1 (w.map eI), .i s], .i n] = (r.length < 1000, .b (isRow ⟨b, g, l, r, w, s⟩ n)) := gL46 b g l r w s n
theorem gM56 (b : List Bolt) (g : List Int) (l : Int) (r : List Span) (w : List Int) (s : Int) (n : Int) :
    GM 56 [.ag [.sl 4 (b.map eBolt), .sl 1 (g.map eI), .i l, .sl 2 (r.map eSpan), .sl 1 (w.map eI), .i s], .i n] = (b.length < 1000, .b (isBoltOf ⟨b, g, l, r, w, s⟩ n)) := gL56 b g l r w s n
def cutR (d : Dome) (row : Int) : Span × Int :=
  if pitchE d (isRow d row) = 0 then (if (goods (tentOf d) row).isEmpty then (⟨0, 0⟩, 3) else (cutSp (goods (tentOf d) row), 0)) else (⟨0, 0⟩, pitchE d (isRow d row))
theorem P19 (d : Dome) (n : Int) (hb : d.rounds.length < 1000) : PureCall Try.prog 19 [.ag (eDome d), .i n] (eSE (cutR d n)) := by
  refine pure_body okM hmix Try.func19 cb19 cc19 cs19 cn19 ?_
  simp only [rc19, rs19, gM46, gM45, pitchV, eSE, cutR, ru_skip, ru_reg, ru_any, ru_seq, ru_cond, ru_ret, ru_keep, putB, thenQ, run_nil, run_cons, Fam.step, stepQ, stepW, needW, runX, eff, nextD, fpR, fpQ, fpV, disjB, hits, putB, nv, sv, evO, opv, qv, pickV, binV, ldV, callV, foldParts, putAt, partsOk, V.cells, solid, cellOk, hasRef, hasRefL, flat, flatL, upd_some, upd_none, lkp_cons, lkp_nil, ↓reduceIte, Nat.reduceEqDiff, Nat.reduceAdd, Nat.reduceLT, Nat.reduceLeDiff, List.map_cons, List.map_nil, List.all_cons, List.all_nil, List.length_cons, List.length_nil, List.drop_succ_cons, List.drop_zero, List.drop_nil, List.take_succ_cons, List.take_zero, List.take_nil, List.cons_append, List.nil_append, List.append_nil, List.getElem?_cons_zero, List.getElem?_cons_succ, List.getElem?_nil, Option.getD_some, Option.getD_none, List.set_cons_zero, List.set_cons_succ, List.replicate_zero, List.isEmpty_nil, endQ, rvs, rv1, resV, vw_i, vw_b, vw_sl, vw_ag, vw_tp, zipA, Nat.zero_add, Bool.and_self, Bool.and_true, Bool.false_and, Bool.or_false, Bool.not_true, Bool.not_false, Bool.false_eq_true, decide_eq_true_eq, decide_eq_false_iff_not, true_and, and_true, and_self, false_implies, implies_true, reduceCtorEq, List.any_nil, List.contains_nil, Bool.not_eq_false', Bool.not_eq_true', List.getD_eq_getElem?_getD, domeE, eSpan, eDome, eTent]
  refine ⟨by omega, fun h => ?_, fun h => ?_⟩
  · simp [h]
  · obtain ⟨hg, hr⟩ := pitchE_zero h
    have h3 := hg.ok48 hr
    unfold tentOf at *
    simp only [h, gM48, h3, eSB, cutOf, cellOk, hasRef, flat, flatL, ↓reduceIte, Nat.reduceAdd, Nat.reduceLT, Nat.reduceLeDiff, List.map_cons, List.map_nil, List.all_cons, List.all_nil, List.length_cons, List.length_nil, List.drop_succ_cons, List.drop_nil, List.take_succ_cons, List.take_nil, List.append_nil, List.getElem?_cons_zero, List.getElem?_cons_succ, Option.getD_some, vw_i, vw_pa, Nat.zero_add, Bool.and_self, Bool.false_eq_true, true_and, and_self, implies_true, Bool.not_not, domeE, eSpan]
    refine ⟨fun he => ?_, fun he => ?_⟩
    · simp only [he, ↓reduceIte]
    · simp only [he, ↓reduceIte, Bool.false_eq_true]
def stretchesR (d : Dome) (n : Int) : List Int × Int := if pitchE d (isBoltOf d n) = 0 then (numbersOf (boltAt d n), 0) else ([], pitchE d (isBoltOf d n))
def eLE (a : List Int × Int) : V := .tp [.sl 1 (a.1.map eI), .i a.2]
theorem P36 (d : Dome) (n : Int) (hb : d.bolts.length < 1000) : PureCall Try.prog 36 [.ag (eDome d), .i n] (eLE (stretchesR d n)) := by
  refine pure_body okM hmix Try.func36 cb36 cc36 cs36 cn36 ?_
  simp only [rc36, rs36, gM56, gM45, pitchV, eLE, stretchesR, ru_skip, ru_reg, ru_any, ru_seq, ru_cond, ru_ret, ru_keep, putB, thenQ, run_nil, run_cons, Fam.step, stepQ, runX, eff, nextD, fpR, fpQ, fpV, disjB, hits, putB, evO, opv, qv, pickV, binV, ldV, iadV, curG, callV, V.cells, solid, hasRef, hasRefL, flat, flatL, upd_some, lkp_cons, lkp_nil, ↓reduceIte, Nat.reduceEqDiff, Nat.reduceAdd, Nat.reduceLT, Nat.reduceLeDiff, List.map_cons, List.map_nil, List.all_nil, List.length_cons, List.length_nil, List.take_succ_cons, List.take_nil, List.cons_append, List.nil_append, List.append_nil, List.getElem?_cons_zero, List.getElem?_cons_succ, List.getElem?_nil, Option.getD_some, Option.getD_none, List.replicate_zero, List.isEmpty_nil, endQ, rvs, rv1, resV, vw_i, vw_b, vw_z, vw_sl, vw_ag, vw_tp, zipA, Nat.zero_add, Bool.and_self, Bool.and_true, Bool.false_and, Bool.or_false, Bool.not_true, Bool.not_false, Bool.false_eq_true, decide_eq_true_eq, decide_eq_false_iff_not, true_and, and_true, and_self, false_implies, implies_true, reduceCtorEq, List.any_nil, List.contains_nil, Bool.not_eq_false', Bool.not_eq_true', List.getD_eq_getElem?_getD, domeE, eDome, eTent]
  refine ⟨by omega, fun h => ?_, fun h => ?_⟩
  · simp [h]
  · obtain ⟨hg, hr⟩ := pitchE_zero h
    obtain ⟨k1, k2⟩ := within_nat hr
    obtain ⟨b, hbo⟩ : ∃ b, d.bolts[n.toNat]? = some b := ⟨_, List.getElem?_eq_getElem (by omega)⟩
    have e1 : (cansOf d)[n.toNat]? = some (numbersOf b) := by simp [cansOf, hbo]
    have e2 : (cansOf d).length = d.bolts.length := by simp [cansOf]
    have e3 : boltAt d n = b := by simp [boltAt, hbo]
    simp only [h, e1, e2, e3, k1, k2, ↓reduceIte, Nat.reduceLeDiff, List.length_cons, List.length_nil, List.drop_succ_cons, List.drop_zero, List.headD_cons, Option.getD_some, vw_sl, Nat.zero_add, and_self, Option.map_some, List.length_map, List.getElem?_map, eCan]
end Go.C02
