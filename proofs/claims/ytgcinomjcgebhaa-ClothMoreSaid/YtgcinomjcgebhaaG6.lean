import Derived.Test.YtgcinomjcgebhaaG5
import Derived.Test.YtgcinomjcgebhaaG2
import Derived.Test.YtgcinomjcgebhaaG3
set_option linter.all false
set_option linter.unusedSimpArgs false
set_option linter.unusedVariables false
namespace Go.C02
open Go.Fam Go.Proofs
def dTN : List V → Tent × Int | [.pa cs, .i n] => (dTent cs, n) | _ => (⟨D0, []⟩, 0)
def eTN (a : Tent × Int) : List V := [.pa (eTent a.1), .i a.2]
theorem dTN_e (a : Tent × Int) : dTN (eTN a) = a := by simp [dTN, eTN, dTent_e]
def eDB (a : Dome × Bool) : List V := [.ag (eDome a.1), .b a.2]
def dDB : List V → Dome × Bool | [.ag cs, .b n] => (dDome cs, n) | _ => (D0, false)
theorem dDB_e (a : Dome × Bool) : dDB (eDB a) = a := by simp [dDB, eDB, dDome_e]
def r50 : List V → Prop × V := fnG eTN dTN (fun a => ok50 a.1 a.2) (fun a => roundOf a.1 a.2) (fun s => .ag (eSpan s))
def r45 : List V → Prop × V := fnG eDB dDB (fun _ => True) (fun a => a) (fun a => pitchV a.1 a.2)
def r40 : List V → Prop × V := fnG eDN dDN (fun a => a.1.bolts.length < 1000000) (fun a => fewest a.1 a.2) eNE
def GL : Gam := ((GJ.ext 50 r50).ext 45 r45).ext 40 r40
theorem okL : GOk Try.prog GL := by
  have k1 := okJ.ext (f := 50) (r := r50) (fun a w => Try.call50 a w) (fnG_ok fun a h => P50 a.1 a.2 h)
  have k2 := k1.ext (f := 45) (r := r45) (fun a w => Try.call45 a w) (fnG_ok fun a _ => P45 a.1 a.2)
  exact k2.ext (f := 40) (r := r40) (fun a w => Try.call40 a w) (fnG_ok fun a h => P40 a.1 a.2 h)
theorem gL50 (b : List Bolt) (g : List Int) (l : Int) (r : List Span) (w : List Int) (s : Int) (c : List (List Int)) (n : Int) :
    GL 50 [.pa [.sl 4 (b.map eBolt), .sl 1 (g.map eI), .i l, .sl 2 (r.map eSpan), .sl 1 (w.map eI), .i s, .sl 1 (c.map eCan)], .i n] = (ok50 ⟨⟨b, g, l, r, w, s⟩, c⟩ n, .ag (eSpan (roundOf ⟨⟨b, g, l, r, w, s⟩, c⟩ n))) :=
  (show GL 50 _ = r50 (eTN (⟨⟨b, g, l, r, w, s⟩, c⟩, n)) from rfl).trans (fnG_at _ (dTN_e _))
theorem gL45 (b : List Bolt) (g : List Int) (l : Int) (r : List Span) (w : List Int) (s : Int) (x : Bool) :
    GL 45 [.ag [.sl 4 (b.map eBolt), .sl 1 (g.map eI), .i l, .sl 2 (r.map eSpan), .sl 1 (w.map eI), .i s], .b x] = (True, pitchV ⟨b, g, l, r, w, s⟩ x) :=
  (show GL 45 _ = r45 (eDB (⟨b, g, l, r, w, s⟩, x)) from rfl).trans (fnG_at _ (dDB_e _))
def isRow (d : Dome) (n : Int) : Bool := within n 0 (d.rounds.length - 1)
def isBoltOf (d : Dome) (n : Int) : Bool := within n 0 (d.bolts.length - 1)
theorem gL46 (b : List Bolt) (g : List Int) (l : Int) (r : List Span) (w : List Int) (s : Int) (n : Int) :
    GL 46 [.ag [.sl 4 (b.map eBolt), .sl 1 (g.map eI), .i l, .sl 2 (r.map eSpan), .sl 1 (w.map eI), .i s], .i n] = (r.length < 1000, .b (isRow ⟨b, g, l, r, w, s⟩ n)) := gJ46 ⟨b, g, l, r, w, s⟩ n
theorem gL56 (b : List Bolt) (g : List Int) (l : Int) (r : List Span) (w : List Int) (s : Int) (n : Int) :
    GL 56 [.ag [.sl 4 (b.map eBolt), .sl 1 (g.map eI), .i l, .sl 2 (r.map eSpan), .sl 1 (w.map eI), .i s], .i n] = (b.length < 1000, .b (isBoltOf ⟨b, g, l, r, w, s⟩ n)) := gJ56 ⟨b, g, l, r, w, s⟩ n
/-- a dome with a truth -/
structure Good (d : Dome) : Prop where
  v : Valid d
  c : check d = 0
  ne : ∀ b ∈ d.bolts, numbersOf b ≠ []
theorem pitchE_zero {d : Dome} {is : Bool} (h : pitchE d is = 0) : Good d ∧ is = true := by
  unfold pitchE at h
  by_cases h1 : check d = 0
  · rw [if_neg (by simp [h1])] at h
    cases is
    · simp at h
    · refine ⟨⟨valid_of h1, h1, fun b hb hn => ?_⟩, rfl⟩
      by_cases h2 : (cansOf d).any List.isEmpty = true
      · simp [h2] at h
      · apply h2
        rw [List.any_eq_true]
        exact ⟨numbersOf b, List.mem_map_of_mem hb, by simp [hn]⟩
  · rw [if_pos h1] at h
    exact absurd h h1
theorem Good.pitch {d : Dome} (h : Good d) (is : Bool) : pitchE d is = if is then 0 else 1 := by
  have : ¬ (cansOf d).any List.isEmpty = true := by
    rw [List.any_eq_true]
    rintro ⟨l, hl, he⟩
    obtain ⟨b, hb, rfl⟩ := List.mem_map.1 hl
    exact h.ne b hb (by simpa using he)
  simp [pitchE, h.c, this]
def tentOf (d : Dome) : Tent := ⟨d, cansOf d⟩
theorem mem_numbersOf {b : Bolt} {s : Int} : s ∈ numbersOf b ↔ can b s = true := by
  simp only [numbersOf, List.mem_filter, mem_ints]
  constructor
  · exact fun h => h.2
  · intro h
    refine ⟨?_, h⟩
    simp only [can, within, Bool.and_eq_true, decide_eq_true_eq] at h
    omega
theorem numbersOf_range {b : Bolt} (hv : ValidB b) {s : Int} (h : s ∈ numbersOf b) : 0 ≤ s ∧ s ≤ 60 := by
  have := mem_numbersOf.1 h
  simp only [can, within, Bool.and_eq_true, decide_eq_true_eq] at this
  have := hv.st
  omega
theorem numbersOf_len {b : Bolt} (hv : ValidB b) : (numbersOf b).length ≤ 61 := by
  have h1 : (numbersOf b).length ≤ (ints b.stretch.low b.stretch.high).length := List.length_filter_le _ _
  rw [ints_len] at h1
  have := hv.st
  omega
theorem Good.ok50 {d : Dome} (h : Good d) {w : Int} (hw : tame 100000 w) : ok50 (tentOf d) w := by
  have := h.v.loss
  have := h.v.ng
  refine ⟨hw, by unfold tame tentOf; dsimp only; omega, fun g hg => ?_, fun l hl => ?_, by unfold tentOf; dsimp only; omega⟩
  · have := h.v.gores g hg
    simp only [tentOf, cansOf, List.length_map]
    omega
  · obtain ⟨b, hb, rfl⟩ := List.mem_map.1 hl
    have hvb := h.v.bolts b hb
    refine ⟨h.ne b hb, by have := numbersOf_len hvb; omega, fun s hs => ?_⟩
    have := numbersOf_range hvb hs
    unfold tame; omega
def widthAt (d : Dome) (n : Int) : Int := d.widths[n.toNat]?.getD 0
def wantAt (d : Dome) (n : Int) : Span := d.rounds[n.toNat]?.getD ⟨0, 0⟩
def roundR (d : Dome) (row : Int) : Span × Int := if pitchE d (isRow d row) = 0 then (roundOf (tentOf d) (widthAt d row), 0) else (⟨0, 0⟩, pitchE d (isRow d row))
def eSE (a : Span × Int) : V := .tp [.ag (eSpan a.1), .i a.2]
theorem row_of {d : Dome} (hv : Valid d) {n : Int} (h : isRow d n = true) : 0 ≤ n ∧ n < d.rounds.length ∧ n < d.widths.length ∧ d.widths[n.toNat]? = some (widthAt d n) ∧ d.rounds[n.toNat]? = some (wantAt d n) ∧ 2 * d.loss ≤ widthAt d n ∧ widthAt d n ≤ 2000 := by
  obtain ⟨k1, k2⟩ := within_nat h
  have := hv.nw
  have e1 : d.widths[n.toNat]? = some (widthAt d n) := by rw [widthAt, List.getElem?_eq_getElem (by omega)]; rfl
  have e2 : d.rounds[n.toNat]? = some (wantAt d n) := by rw [wantAt, List.getElem?_eq_getElem (by omega)]; rfl
  have := hv.widths _ (List.mem_of_getElem? e1)
  exact ⟨k1, k2, by omega, e1, e2, this⟩
theorem P23 (d : Dome) (n : Int) (hb : d.rounds.length < 1000) : PureCall Try.prog 23 [.ag (eDome d), .i n] (eSE (roundR d n)) := by
  refine pure_body okL hmix Try.func23 cb23 cc23 cs23 cn23 ?_
  simp only [rc23, rs23, gL46, gL45, pitchV, eSE, roundR, ru_skip, ru_reg, ru_any, ru_seq, ru_cnd, ite_P, ru_ret, ru_keep, putBs, putB, thenQ, run_nil, run_cons, Fam.step, stepQ, stepW, needW, runX, eff, nextD, fpR, fpQ, fpV, disjB, hits, putB, nv, sv, evO, opv, qv, binV, ldV, iadV, callV, foldParts, putAt, partsOk, V.cells, solid, cellOk, hasRef, hasRefL, flat, flatL, upd_some, upd_none, lkp_cons, lkp_nil, ↓reduceIte, Nat.reduceEqDiff, Nat.reduceAdd, Nat.reduceLT, Nat.reduceLeDiff, List.map_cons, List.map_nil, List.all_cons, List.all_nil, List.length_cons, List.length_nil, List.drop_succ_cons, List.drop_zero, List.drop_nil, List.take_succ_cons, List.take_zero, List.take_nil, List.headD_cons, List.cons_append, List.nil_append, List.append_nil, List.getElem?_cons_zero, List.getElem?_cons_succ, List.getElem?_nil, Option.getD_some, Option.getD_none, List.set_cons_zero, List.replicate_zero, List.isEmpty_nil, endQ, rvs, rv1, resV, vw_i, vw_b, vw_sl, vw_ag, vw_tp, zipA, Nat.zero_add, Bool.and_self, Bool.and_true, Bool.false_and, Bool.or_false, Bool.not_true, Bool.not_false, Bool.false_eq_true, decide_eq_false_iff_not, true_and, and_true, and_self, false_implies, implies_true, reduceCtorEq, List.any_nil, List.contains_nil, Bool.not_eq_true', List.length_map, List.getD_eq_getElem?_getD, List.getElem?_map, Classical.not_not, domeE, eSpan, eDome, eTent]
  refine ⟨by omega, fun h => ?_, fun h => ?_⟩
  · simp [h]
  · obtain ⟨hg, hr⟩ := pitchE_zero h
    obtain ⟨k1, k2, k3, k4, k5, k6⟩ := row_of hg.v hr
    have hl := hg.v.loss
    have h3 := hg.ok50 (w := widthAt d n) (by unfold tame; omega)
    unfold tentOf at *
    simp only [h, k1, k3, k4, gL50, h3, cellOk, hasRef, flat, flatL, ↓reduceIte, Nat.reduceAdd, Nat.reduceLeDiff, List.map_cons, List.map_nil, List.all_cons, List.all_nil, List.length_cons, List.length_nil, List.drop_succ_cons, List.drop_nil, List.take_succ_cons, List.take_nil, List.headD_cons, List.append_nil, Option.getD_some, vw_i, vw_pa, Nat.zero_add, Bool.and_self, Bool.or_false, Bool.false_eq_true, and_self, implies_true, Option.map_some, domeE, eSpan, eI]
    all_goals skip

def fits (t : Tent) (row w : Int) : Bool := !(decide ((roundOf t w).low < (wantAt t.dome row).low) || decide ((wantAt t.dome row).high < (roundOf t w).high))
theorem headD_snoc {l : List Int} {x y : Int} : (l ++ [x]).headD y = if l.isEmpty then x else l.headD y := by cases l <;> simp
theorem getLastD_snoc {l : List Int} {x y : Int} : (l ++ [x]).getLastD y = x := by simp [List.getLastD_eq_getLast?]
theorem isEmpty_snoc {l : List Int} {x : Int} : (l ++ [x]).isEmpty = false := by cases l <;> rfl
def goods (t : Tent) (row : Int) : List Int := (ints (2 * t.dome.loss) 2000).filter (fits t row)
def goodsTo (t : Tent) (row : Int) (k : Nat) : List Int := ((ints (2 * t.dome.loss) 2000).take k).filter (fits t row)
def cutSp (l : List Int) : Span := ⟨l.headD 0, l.getLastD 0⟩
def cutOf (t : Tent) (row : Int) : Span × Bool := (cutSp (goods t row), !(goods t row).isEmpty)
def eSB (a : Span × Bool) : V := .tp [.ag (eSpan a.1), .b a.2]
def ok48 (t : Tent) (row : Int) : Prop := 0 ≤ t.dome.loss ∧ t.dome.loss ≤ 20 ∧ 0 ≤ row ∧ row < t.dome.rounds.length ∧ ∀ w, 0 ≤ w → w ≤ 2000 → ok50 t w
theorem P48 (t : Tent) (row : Int) (h : ok48 t row) : PureCall Try.prog 48 [.pa (eTent t), .i row] (eSB (cutOf t row)) := by
  refine pure_body okL hmix Try.func48 cb48 cc48 cs48 cn48 ?_
  obtain ⟨h1, h2, h3, h4, h5⟩ := h
  have e2 : t.dome.rounds[row.toNat]? = some (wantAt t.dome row) := by rw [wantAt, List.getElem?_eq_getElem (by omega)]; rfl
  have i1 : inI (2 * t.dome.loss) := by unfold inI; omega
  simp only [rc48, rs48, eTent, h3, h4, e2, i1, eSB, ru_reg, ru_seq, ru_block, ru_keep, putB, thenQ, run_nil, run_cons, Fam.step, stepQ, stepW, needW, putB, nv, sv, evO, opv, qv, binV, ldV, iadV, putAt, V.cells, solid, cellOk, upd_some, upd_none, lkp_cons, lkp_nil, ↓reduceIte, Nat.reduceEqDiff, Nat.reduceAdd, Nat.reduceLeDiff, List.map_cons, List.map_nil, List.all_cons, List.all_nil, List.length_cons, List.length_nil, List.drop_succ_cons, List.drop_zero, List.drop_nil, List.take_succ_cons, List.take_zero, List.take_nil, List.headD_cons, List.cons_append, List.nil_append, List.append_nil, List.getElem?_cons_zero, List.getElem?_cons_succ, Option.getD_some, List.set_cons_zero, List.set_cons_succ, zipA, Nat.zero_add, Bool.and_self, Bool.false_eq_true, true_and, and_self, reduceCtorEq, Option.map_some, List.length_map, List.getD_eq_getElem?_getD, List.getElem?_map, eSpan, eDome, eTent]
  refine ru_count (2001 - 2 * t.dome.loss).toNat (fun k => ⟨lkp [(0, .pa (eTent t)), (4, .ad 0 0 0), (5, .b (!(goodsTo t row k).isEmpty)), (6, .ad 1 0 0), (7, .i (2 * t.dome.loss + k))],
    [.cells 0 [.i ((goodsTo t row k).headD 0), .i ((goodsTo t row k).getLastD 0)], .cells 0 (eSpan (wantAt t.dome row))]⟩) ?_ ?_ ?_
  · simp only [Int.natCast_zero, Int.add_zero, goodsTo, List.filter_nil, List.isEmpty_nil, List.headD_nil, List.getLastD_nil, cutH, kp, cutV, cutL, cutB, lkp_cons, lkp_nil, ↓reduceIte, Nat.reduceEqDiff, Nat.reduceLT, List.map_cons, List.map_nil, List.take_succ_cons, List.take_zero, List.take_nil, List.headD_nil, List.cons_append, List.nil_append, List.isEmpty_nil, Bool.not_true, reduceCtorEq, eSpan, eDome, eTent]
  · intro k hk
    have hget : (ints (2 * t.dome.loss) 2000)[k]? = some (2 * t.dome.loss + k) := ints_get (by omega)
    have hs : goodsTo t row (k + 1) = goodsTo t row k ++ (if fits t row (2 * t.dome.loss + k) then [2 * t.dome.loss + k] else []) := filter_snoc _ hget
    have hlt : 2 * t.dome.loss + (k : Int) ≤ 2000 := by omega
    have i2 : inI (2 * t.dome.loss + (k : Int) + 1) := by unfold inI; omega
    have o3 := h5 (2 * t.dome.loss + k) (by omega) (by omega)
    simp only [hlt, eTent, gL50, o3, hs, Int.natCast_add, Int.natCast_one, Int.add_assoc, ru_skip, ru_reg, ru_seq, ru_cnd, ite_P, ru_block, ru_exit, ru_keep, ru_drp, ↓cut_lkp, cutH, putB, thenQ, blockQ, run_nil, run_cons, Fam.step, stepQ, stepW, needQ, needW, condB, ug, putB, nv, sv, evO, opv, qv, pickV_bb, binV, ldV, curG, callV, putAt, V.cells, solid, cellOk, hasRef, hasRefL, flat, flatL, kp, cutV, cutL, cutB, upd_some, upd_none, lkp_cons, lkp_nil, ↓reduceIte, Nat.reduceEqDiff, Nat.reduceAdd, Nat.reduceLT, Nat.reduceLeDiff, List.map_cons, List.map_nil, List.all_cons, List.all_nil, List.length_cons, List.length_nil, List.drop_succ_cons, List.drop_zero, List.drop_nil, List.take_succ_cons, List.take_zero, List.take_nil, List.headD_cons, List.cons_append, List.nil_append, List.append_nil, List.getElem?_cons_zero, List.getElem?_cons_succ, List.set_cons_zero, List.set_cons_succ, vw_i, vw_pa, beq_self_eq_true, Nat.zero_add, Nat.add_zero, Bool.and_self, Bool.and_true, Bool.or_false, Bool.false_eq_true, decide_true, decide_eq_true_eq, decide_eq_false_iff_not, true_and, and_true, and_self, implies_true, reduceCtorEq, beq_false, Bool.not_not, Bool.not_eq_true', ite_t, imp_self, Bool.not_eq_true, domeE, tentE, eSpan, eDome, eTent]
    rw [Int.add_assoc] at i2
    refine ⟨fun h => ?_, fun h => ⟨fun he => ?_, fun he => ?_⟩⟩
    · have hf : fits t row (2 * t.dome.loss + k) = false := by unfold fits; rw [h]; rfl
      simp only [hf, i2, ↓reduceIte, List.append_nil, Bool.false_eq_true, and_self]
    · have hf : fits t row (2 * t.dome.loss + k) = true := by unfold fits; rw [h]; rfl
      simp only [hf, i2, he, headD_snoc, getLastD_snoc, isEmpty_snoc, ↓reduceIte, Bool.not_false, and_self]
    · have hf : fits t row (2 * t.dome.loss + k) = true := by unfold fits; rw [h]; rfl
      simp only [hf, i2, he, headD_snoc, getLastD_snoc, isEmpty_snoc, ↓reduceIte, Bool.not_false, Bool.false_eq_true, and_self]
  · have hgt : ¬ (2 * t.dome.loss + ((2001 - 2 * t.dome.loss).toNat : Int) ≤ 2000) := by omega
    simp only [hgt, ru_reg, ru_seq, ru_cnd, ru_exit, ru_ret, ru_keep, putB, thenQ, blockQ, run_nil, run_cons, Fam.step, stepQ, stepW, needW, putB, nv, sv, evO, opv, qv, binV, ldV, putAt, V.cells, solid, cellOk, upd_some, upd_none, lkp_cons, lkp_nil, ↓reduceIte, Nat.reduceEqDiff, Nat.reduceAdd, Nat.reduceLeDiff, List.map_cons, List.map_nil, List.all_cons, List.all_nil, List.length_cons, List.length_nil, List.drop_succ_cons, List.drop_zero, List.drop_nil, List.take_succ_cons, List.take_zero, List.take_nil, List.cons_append, List.nil_append, List.append_nil, List.getElem?_cons_zero, List.set_cons_zero, endQ, rvs, rv1, resV, vw_i, vw_b, vw_ag, vw_tp, Nat.zero_add, Bool.and_self, Bool.false_eq_true, decide_false, true_and, and_self, reduceCtorEq, eSpan, eDome, eTent]
    have e : goodsTo t row (2001 - 2 * t.dome.loss).toNat = goods t row := by
      unfold goodsTo goods
      rw [show (2001 - 2 * t.dome.loss).toNat = (ints (2 * t.dome.loss) 2000).length from by rw [ints_len]; rfl, List.take_length]
    rw [e]; rfl

theorem Good.ok48 {d : Dome} (h : Good d) {row : Int} (hr : isRow d row = true) : ok48 (tentOf d) row := by
  obtain ⟨k1, k2, k3, k4, k5, k6⟩ := row_of h.v hr
  have hl := h.v.loss
  exact ⟨hl.1, hl.2, k1, k2, fun w h1 h2 => h.ok50 (by unfold tame; omega)⟩
def r48 : List V → Prop × V := fnG eTN dTN (fun a => ok48 a.1 a.2) (fun a => cutOf a.1 a.2) eSB
def GM : Gam := GL.ext 48 r48
theorem okM : GOk Try.prog GM := okL.ext (f := 48) (r := r48) (fun a w => Try.call48 a w) (fnG_ok fun a h => P48 a.1 a.2 h)
theorem gM48 (b : List Bolt) (g : List Int) (l : Int) (r : List Span) (w : List Int) (s : Int) (c : List (List Int)) (n : Int) :
    GM 48 [.pa [.sl 4 (b.map eBolt), .sl 1 (g.map eI), .i l, .sl 2 (r.map eSpan), .sl 1 (w.map eI), .i s, .sl 1 (c.map eCan)], .i n] = (ok48 ⟨⟨b, g, l, r, w, s⟩, c⟩ n, eSB (cutOf ⟨⟨b, g, l, r, w, s⟩, c⟩ n)) :=
  (show GM 48 _ = r48 (eTN (⟨⟨b, g, l, r, w, s⟩, c⟩, n)) from rfl).trans (fnG_at _ (dTN_e _))
theorem gM45 (b : List Bolt) (g : List Int) (l : Int) (r : List Span) (w : List Int) (s : Int) (x : Bool) :
    GM 45 [.ag [.sl 4 (b.map eBolt), .sl 1 (g.map eI), .i l, .sl 2 (r.map eSpan), .sl 1 (w.map eI), .i s], .b x] = (True, pitchV ⟨b, g, l, r, w, s⟩ x) := gL45 b g l r w s x
theorem gM46 (b : List Bolt) (g : List Int) (l : Int) (r : List Span) (w : List Int) (s : Int) (n : Int) :
    GM 46 [.ag [.sl 4 (b.map eBolt), .sl 1 (g.map eI), .i l, .sl 2 (r.map eSpan), .sl 1 (w.map eI), .i s], .i n] = (r.length < 1000, .b (isRow ⟨b, g, l, r, w, s⟩ n)) := gL46 b g l r w s n
theorem gM56 (b : List Bolt) (g : List Int) (l : Int) (r : List Span) (w : List Int) (s : Int) (n : Int) :
    GM 56 [.ag [.sl 4 (b.map eBolt), .sl 1 (g.map eI), .i l, .sl 2 (r.map eSpan), .sl 1 (w.map eI), .i s], .i n] = (b.length < 1000, .b (isBoltOf ⟨b, g, l, r, w, s⟩ n)) := gL56 b g l r w s n
def cutR (d : Dome) (row : Int) : Span × Int :=
  if pitchE d (isRow d row) = 0 then (if (goods (tentOf d) row).isEmpty then (⟨0, 0⟩, 3) else (cutSp (goods (tentOf d) row), 0)) else (⟨0, 0⟩, pitchE d (isRow d row))
theorem P19 (d : Dome) (n : Int) (hb : d.rounds.length < 1000) : PureCall Try.prog 19 [.ag (eDome d), .i n] (eSE (cutR d n)) := by
  refine pure_body okM hmix Try.func19 cb19 cc19 cs19 cn19 ?_
  simp only [rc19, rs19, gM46, gM45, pitchV, eSE, cutR, ru_skip, ru_reg, ru_any, ru_seq, ru_cnd, ite_P, ru_ret, ru_keep, putBs, putB, thenQ, run_nil, run_cons, Fam.step, stepQ, stepW, needW, runX, eff, nextD, fpR, fpQ, fpV, disjB, hits, putB, nv, sv, evO, opv, qv, binV, ldV, callV, foldParts, putAt, partsOk, V.cells, solid, cellOk, hasRef, hasRefL, flat, flatL, upd_some, upd_none, lkp_cons, lkp_nil, ↓reduceIte, Nat.reduceEqDiff, Nat.reduceAdd, Nat.reduceLT, Nat.reduceLeDiff, List.map_cons, List.map_nil, List.all_cons, List.all_nil, List.length_cons, List.length_nil, List.drop_succ_cons, List.drop_zero, List.drop_nil, List.take_succ_cons, List.take_zero, List.take_nil, List.cons_append, List.nil_append, List.append_nil, List.getElem?_cons_zero, List.getElem?_cons_succ, List.getElem?_nil, Option.getD_some, Option.getD_none, List.set_cons_zero, List.set_cons_succ, List.replicate_zero, List.isEmpty_nil, endQ, rvs, rv1, resV, vw_i, vw_b, vw_sl, vw_ag, vw_tp, zipA, Nat.zero_add, Bool.and_self, Bool.and_true, Bool.false_and, Bool.or_false, Bool.not_true, Bool.not_false, Bool.false_eq_true, decide_eq_false_iff_not, true_and, and_true, and_self, false_implies, implies_true, reduceCtorEq, List.any_nil, List.contains_nil, Bool.not_eq_true', List.getD_eq_getElem?_getD, Bool.not_eq_true, Classical.not_not, domeE, eSpan, eDome, eTent]
  refine ⟨by omega, fun h => ?_, fun h => ?_⟩
  · simp [h]
  · obtain ⟨hg, hr⟩ := pitchE_zero h
    have h3 := hg.ok48 hr
    unfold tentOf at *
    simp only [h, gM48, h3, eSB, cutOf, cellOk, hasRef, flat, flatL, ↓reduceIte, Nat.reduceAdd, Nat.reduceLT, Nat.reduceLeDiff, List.map_cons, List.map_nil, List.all_cons, List.all_nil, List.length_cons, List.length_nil, List.drop_succ_cons, List.drop_nil, List.take_succ_cons, List.take_nil, List.append_nil, List.getElem?_cons_zero, List.getElem?_cons_succ, Option.getD_some, vw_i, vw_pa, Nat.zero_add, Bool.and_self, Bool.false_eq_true, true_and, and_self, implies_true, Bool.not_not, domeE, eSpan]
    refine ⟨fun he => ?_, fun he => ?_⟩
    · simp only [he, ↓reduceIte]
    · simp only [he, ↓reduceIte, Bool.false_eq_true]
def stretchesR (d : Dome) (n : Int) : List Int × Int := if pitchE d (isBoltOf d n) = 0 then (numbersOf (boltAt d n), 0) else ([], pitchE d (isBoltOf d n))
def eLE (a : List Int × Int) : V := .tp [.sl 1 (a.1.map eI), .i a.2]
theorem P36 (d : Dome) (n : Int) (hb : d.bolts.length < 1000) : PureCall Try.prog 36 [.ag (eDome d), .i n] (eLE (stretchesR d n)) := by
  refine pure_body okM hmix Try.func36 cb36 cc36 cs36 cn36 ?_
  simp only [rc36, rs36, gM56, gM45, pitchV, eLE, stretchesR, ru_skip, ru_reg, ru_any, ru_seq, ru_cnd, ite_P, ru_ret, ru_keep, putBs, thenQ, run_nil, run_cons, Fam.step, stepQ, runX, eff, nextD, fpR, fpQ, fpV, disjB, hits, evO, opv, qv, binV, ldV, iadV, curG, callV, V.cells, solid, hasRef, hasRefL, flat, flatL, upd_some, lkp_cons, lkp_nil, ↓reduceIte, Nat.reduceEqDiff, Nat.reduceAdd, Nat.reduceLT, Nat.reduceLeDiff, List.map_cons, List.map_nil, List.all_nil, List.length_cons, List.length_nil, List.take_succ_cons, List.take_nil, List.cons_append, List.nil_append, List.append_nil, List.getElem?_cons_zero, List.getElem?_cons_succ, List.getElem?_nil, Option.getD_some, Option.getD_none, List.replicate_zero, List.isEmpty_nil, endQ, rvs, rv1, resV, vw_i, vw_b, vw_z, vw_sl, vw_ag, vw_tp, zipA, Nat.zero_add, Bool.and_self, Bool.and_true, Bool.false_and, Bool.or_false, Bool.not_true, Bool.not_false, Bool.false_eq_true, decide_eq_false_iff_not, true_and, and_true, and_self, false_implies, implies_true, reduceCtorEq, List.any_nil, List.contains_nil, Bool.not_eq_true', List.getD_eq_getElem?_getD, Classical.not_not, domeE, eDome, eTent]
  refine ⟨by omega, fun h => ?_, fun h => ?_⟩
  · simp [h]
  · obtain ⟨hg, hr⟩ := pitchE_zero h
    obtain ⟨k1, k2⟩ := within_nat hr
    obtain ⟨b, hbo⟩ : ∃ b, d.bolts[n.toNat]? = some b := ⟨_, List.getElem?_eq_getElem (by omega)⟩
    have e1 : (cansOf d)[n.toNat]? = some (numbersOf b) := by simp [cansOf, hbo]
    have e2 : (cansOf d).length = d.bolts.length := by simp [cansOf]
    have e3 : boltAt d n = b := by simp [boltAt, hbo]
    simp only [h, e1, e2, e3, k1, k2, ↓reduceIte, Nat.reduceLeDiff, List.length_cons, List.length_nil, List.drop_succ_cons, List.drop_zero, List.headD_cons, Option.getD_some, vw_sl, Nat.zero_add, and_self, Option.map_some, List.length_map, List.getElem?_map, eCan]
end Go.C02
set_option linter.unusedSimpArgs false
set_option linter.unusedVariables false
namespace Go.C02
open Go.Fam Go.Proofs
theorem flat_at {α : Type} {e : α → List V} {k : Nat} (h : ∀ x, (e x).length = k) : ∀ {l : List α} {i : Nat} {x : α}, l[i]? = some x → (((l.map e).flatten).drop (i * k)).take k = e x
  | [], i, x, hx => by simp at hx
  | y :: l, 0, x, hx => by
    simp at hx; subst hx
    rw [List.map_cons, List.flatten_cons, Nat.zero_mul, List.drop_zero, List.take_append_of_le_length (by rw [h]; exact Nat.le_refl _), List.take_of_length_le (by rw [h]; exact Nat.le_refl _)]
  | y :: l, i + 1, x, hx => by
    simp at hx
    have e1 : (e y).drop ((i + 1) * k) = [] := by rw [List.drop_eq_nil_iff, h, Nat.succ_mul]; omega
    rw [List.map_cons, List.flatten_cons, List.drop_append, e1, List.nil_append, h, show (i + 1) * k - k = i * k from by rw [Nat.succ_mul]; omega]
    exact flat_at h hx
theorem noref_S (l : List Span) : hasRefL ((l.map eSpan).flatten) = false := hasRefL_flat (e := eSpan) (fun _ => rfl) l
theorem len_S (l : List Span) : ((l.map eSpan).flatten).length = l.length * 2 := flat_len (e := eSpan) (k := 2) (fun _ => rfl) l
theorem mem_goods {t : Tent} {r w : Int} : w ∈ goods t r ↔ (2 * t.dome.loss ≤ w ∧ w ≤ 2000) ∧ fits t r w = true := by
  simp only [goods, List.mem_filter, mem_ints]
def lowAt (d : Dome) (r : Int) : Int := (goods (tentOf d) r).headD 0
def highAt (d : Dome) (r : Int) : Int := (goods (tentOf d) r).getLastD 0
theorem headD_mem {l : List Int} (h : l ≠ []) : l.headD 0 ∈ l := by cases l <;> simp at *
theorem getLastD_mem {l : List Int} (h : l ≠ []) : l.getLastD 0 ∈ l := by
  rw [List.getLastD_eq_getLast?, List.getLast?_eq_some_getLast h]
  exact List.getLast_mem h
theorem lowAt_range (d : Dome) (r : Int) (h : 0 ≤ d.loss) : 0 ≤ lowAt d r ∧ lowAt d r ≤ 2000 := by
  unfold lowAt
  by_cases he : goods (tentOf d) r = []
  · rw [he]; simp
  · have := (mem_goods.1 (headD_mem he)).1
    have e : (tentOf d).dome.loss = d.loss := rfl
    rw [e] at this
    omega
theorem highAt_range (d : Dome) (r : Int) (h : 0 ≤ d.loss) : 0 ≤ highAt d r ∧ highAt d r ≤ 2000 := by
  unfold highAt
  by_cases he : goods (tentOf d) r = []
  · rw [he]; simp
  · have := (mem_goods.1 (getLastD_mem he)).1
    have e : (tentOf d).dome.loss = d.loss := rfl
    rw [e] at this
    omega
def spanAt (d : Dome) (r : Nat) : Span := ⟨lowAt d r, highAt d r⟩
def cutsTo (d : Dome) (k : Nat) : List Span := (List.range k).map (spanAt d)
theorem cutsTo_get {d : Dome} {n k : Nat} (h : k < n) : (cutsTo d n)[k]? = some (spanAt d k) := by simp [cutsTo, h]
theorem cutsTo_succ (d : Dome) (k : Nat) : cutsTo d (k + 1) = cutsTo d k ++ [spanAt d k] := by simp [cutsTo, List.range_succ]
theorem cutsTo_len (d : Dome) (k : Nat) : (cutsTo d k).length = k := by simp [cutsTo]
def needTo (d : Dome) (row : Nat) (k : Nat) : Int := (List.range k).foldl (fun (m : Int) (j : Nat) => max m (lowAt d j - d.slope * max ((row : Int) - j) ((j : Int) - row))) (lowAt d row)
theorem needTo_succ (d : Dome) (row k : Nat) : needTo d row (k + 1) = max (needTo d row k) (lowAt d k - d.slope * max ((row : Int) - k) ((k : Int) - row)) := by
  simp [needTo, List.range_succ]
theorem slope_mul {s a : Int} (h : 0 ≤ s ∧ s ≤ 500) (ha : 0 ≤ a ∧ a ≤ 1000) : 0 ≤ s * a ∧ s * a ≤ 500000 := by
  refine ⟨Int.mul_nonneg h.1 ha.1, ?_⟩
  have := Int.mul_le_mul h.2 ha.2 ha.1 (by decide)
  omega
theorem needTo_range {d : Dome} (hv : Valid d) {row : Nat} (hr : row ≤ 12) : ∀ k : Nat, k ≤ 12 → 0 ≤ needTo d row k ∧ needTo d row k ≤ 2000
  | 0, _ => by simpa [needTo] using lowAt_range d row hv.loss.1
  | k + 1, hk => by
    have h1 := needTo_range hv hr k (by omega)
    have h2 := lowAt_range d k hv.loss.1
    have h3 := slope_mul (a := max ((row : Int) - k) ((k : Int) - row)) hv.slope (by omega)
    rw [needTo_succ]
    omega
def outsTo (d : Dome) (n k : Nat) : List Int := (List.range k).map fun r => needTo d r n
theorem outsTo_succ (d : Dome) (n k : Nat) : outsTo d n (k + 1) = outsTo d n k ++ [needTo d k n] := by simp [outsTo, List.range_succ]
theorem outsTo_len (d : Dome) (n k : Nat) : (outsTo d n k).length = k := by simp [outsTo]
def hasCuts (d : Dome) (k : Nat) : Bool := (List.range k).all fun r => !(goods (tentOf d) r).isEmpty
def fitsAll (d : Dome) (n k : Nat) : Bool := (List.range k).all fun r => decide (needTo d r n ≤ highAt d r)
def curveR (d : Dome) : List Int × Int :=
  if pitchE d true = 0 then
    (if hasCuts d d.rounds.length && fitsAll d d.rounds.length d.rounds.length then (outsTo d d.rounds.length d.rounds.length, 0) else ([], 3))
  else ([], pitchE d true)
theorem all_range_false {p : Nat → Bool} {n i : Nat} (hi : i < n) (h : p i = false) : (List.range n).all p = false := by
  rw [List.all_eq_false]
  exact ⟨i, List.mem_range.2 hi, by simp [h]⟩
theorem all_range_succ {p : Nat → Bool} {n : Nat} (h : (List.range n).all p = true) (h2 : p n = true) : (List.range (n + 1)).all p = true := by
  rw [List.range_succ, List.all_append, h]; simp [h2]
theorem P33 (d : Dome) : PureCall Try.prog 33 [.ag (eDome d)] (eLE (curveR d)) := by
  refine pure_body okM hmix Try.func33 cb33 cc33 cs33 cn33 ?_
  simp only [rc33, rs33, gM45, pitchV, eLE, curveR, ru_skip, ru_reg, ru_seq, ru_cnd, ite_P, ru_block, ru_ret, ru_keep, ru_own, thenQ, run_nil, run_cons, Fam.step, stepQ, evO, opv, qv, binV, ldV, lenV, callV, V.cells, solid, hasRef, hasRefL, flat, flatL, upd_some, lkp_cons, lkp_nil, ↓reduceIte, Nat.reduceEqDiff, Nat.reduceAdd, Nat.reduceLT, Nat.reduceLeDiff, List.map_cons, List.map_nil, List.length_cons, List.length_nil, List.drop_succ_cons, List.drop_zero, List.take_succ_cons, List.take_nil, List.headD_cons, List.cons_append, List.nil_append, List.append_nil, List.getElem?_cons_zero, List.getElem?_cons_succ, List.getElem?_nil, Option.getD_some, endQ, rvs, rv1, resV, vw_i, vw_b, vw_z, vw_sl, vw_ag, vw_tp, zipA, Nat.zero_add, Bool.and_self, Bool.and_true, Bool.or_false, Bool.false_eq_true, decide_eq_false_iff_not, true_and, and_self, false_implies, Bool.not_eq_true', List.length_map, Classical.not_not, domeE, eDome, eTent]
  refine ⟨fun h => by simp [h], fun h => ?_⟩
  obtain ⟨hg, _⟩ := pitchE_zero h
  have hnr := hg.v.nr
  simp only [h, ↓reduceIte]
  refine ru_countC d.rounds.length (fun i => ⟨lkp [(1, .pa (eDome d)), (4, .pa (eTent (tentOf d))), (6, .rf 0 i 0 i 2), (26, .i d.rounds.length), (27, .i i)], [.cells i ((cutsTo d i).map eSpan).flatten]⟩) (fun i => hasCuts d i = true) ?_ ?_ ?_ ?_
  · simp only [Int.natCast_zero, tentOf, eTent, cutsTo, List.range_zero, List.flatten_nil, cutH, kp, cutV, cutL, cutB, lkp_cons, lkp_nil, ↓reduceIte, Nat.reduceEqDiff, Nat.reduceLT, List.map_cons, List.map_nil, List.take_succ_cons, List.take_nil, List.cons_append, List.nil_append, eDome, eTent]
  · rfl
  · intro i hi hC
    have hrow : isRow d i = true := by simp only [isRow, within, Bool.and_eq_true, decide_eq_true_eq]; omega
    have h48 := hg.ok48 hrow
    have hlt : (i : Int) < d.rounds.length := by omega
    have h3 : inI ((i : Int) + 1) := by unfold inI; omega
    unfold tentOf at h48
    simp only [hlt, h3, eTent, tentOf, gM48, h48, eSB, cutOf, Int.natCast_add, Int.natCast_one, cutsTo_succ, ru_skip, ru_reg, ru_seq, ru_cnd, ite_P, ru_block, ru_ret, ru_keep, ru_drp, chunk1, ↓cut_lkp, cutH, putB, thenQ, blockQ, run_nil, run_cons, Fam.step, stepQ, stepW, needW, putB, nv, sv, newsV, evO, opv, qv, binV, ldV, callV, foldParts, putAt, partsOk, partsOne, V.cells, solid, cellOk, hasRef, hasRefL, flat, flatL, kp, cutV, cutL, cutB, upd_some, upd_none, lkp_cons, lkp_nil, ↓reduceIte, Nat.reduceEqDiff, Nat.reduceAdd, Nat.reduceMul, Nat.reduceLT, Nat.reduceLeDiff, List.map_cons, List.map_nil, List.all_cons, List.all_nil, List.length_cons, List.length_nil, List.drop_succ_cons, List.drop_zero, List.drop_nil, List.take_succ_cons, List.take_zero, List.take_nil, List.cons_append, List.nil_append, List.append_nil, List.getElem?_cons_zero, List.getElem?_cons_succ, Option.getD_some, List.set_cons_zero, List.set_cons_succ, List.replicate_zero, List.replicate_succ, endQ, rvs, rv1, resV, vw_i, vw_z, vw_pa, vw_ag, vw_tp, vw_ad, Nat.zero_add, Bool.and_self, Bool.or_false, Bool.false_eq_true, decide_true, true_and, and_self, implies_true, reduceCtorEq, not_false_eq_true, ne_eq, Bool.not_not, Bool.not_eq_true, domeE, eSpan, eDome, eTent]
    refine ⟨fun he => ?_, fun he => ?_⟩
    · have e : hasCuts d d.rounds.length = false := all_range_false hi (by simp only [tentOf, he]; rfl)
      simp only [e, ↓reduceIte, List.map_nil, Bool.false_and, Bool.false_eq_true]
    · have hsp : cutSp (goods ⟨d, cansOf d⟩ i) = spanAt d i := rfl
      refine ⟨⟨by rw [len_S, cutsTo_len], by unfold fitsLen; omega⟩, all_range_succ hC (by simp only [tentOf, he]; rfl), ?_⟩
      simp only [hsp, cutL_append, cutL_noref _ _ _ (noref_S (cutsTo d i)), List.flatten_cons, List.flatten_nil, flat_snoc, cutV, cutL, List.append_nil, eSpan]
  · intro hC
    simp only [ru_reg, ru_seq, ru_cnd, ru_block, ru_exit, ru_keep, ru_own, thenQ, blockQ, run_nil, run_cons, Fam.step, stepQ, evO, opv, qv, binV, lenV, upd_some, lkp_cons, lkp_nil, ↓reduceIte, Nat.reduceEqDiff, List.map_cons, List.map_nil, List.length_cons, List.length_nil, List.cons_append, List.nil_append, List.getElem?_cons_zero, Int.lt_irrefl, Nat.zero_add, Bool.false_eq_true, decide_false, true_and, eDome, eTent]
    refine ru_countC d.rounds.length (fun i => ⟨lkp [(1, .pa (eDome d)), (6, .rf 0 d.rounds.length 0 d.rounds.length 2), (10, .rf 1 i 0 i 1), (43, .rf 0 d.rounds.length 0 d.rounds.length 2), (44, .i d.rounds.length), (45, .i i)],
      [.cells d.rounds.length ((cutsTo d d.rounds.length).map eSpan).flatten, .cells i ((outsTo d d.rounds.length i).map eI).flatten]⟩) (fun i => fitsAll d d.rounds.length i = true) ?_ ?_ ?_ ?_
    · simp only [Int.natCast_zero, outsTo, List.range_zero, List.flatten_nil, cutL_noref _ _ _ (noref_S _), cutH, kp, cutV, cutL, cutB, lkp_cons, lkp_nil, ↓reduceIte, Nat.reduceEqDiff, Nat.reduceLT, List.map_cons, List.map_nil, List.take_succ_cons, List.take_nil, eDome]
    · rfl
    · intro i hi hC2
      have hlt : (i : Int) < d.rounds.length := by omega
      have h3 : inI ((i : Int) + 1) := by unfold inI; omega
      have hat := flat_at (e := eSpan) (k := 2) (fun _ => rfl) (cutsTo_get (d := d) hi)
      have hli := len_S (cutsTo d d.rounds.length)
      rw [cutsTo_len] at hli
      have h5 : i * 2 + 2 ≤ d.rounds.length * 2 := by omega
      simp only [hlt, hat, hli, h5, ru_skip, ru_reg, ru_seq, ru_cnd, ru_block, ru_keep, cutH, putB, thenQ, run_nil, run_cons, Fam.step, stepQ, stepW, needW, putB, nv, sv, evO, opv, qv, binV, ldV, iadV, lenV, curG, putAt, V.cells, solid, cellOk, kp, upd_some, upd_none, lkp_cons, lkp_nil, ↓reduceIte, Nat.reduceEqDiff, Nat.reduceAdd, Nat.reduceLeDiff, List.map_cons, List.map_nil, List.all_cons, List.all_nil, List.length_cons, List.length_nil, List.drop_succ_cons, List.drop_zero, List.drop_nil, List.take_zero, List.headD_cons, List.cons_append, List.nil_append, List.append_nil, List.getElem?_cons_zero, List.getElem?_cons_succ, List.set_cons_zero, List.set_cons_succ, Int.natCast_nonneg, beq_self_eq_true, Nat.zero_add, Nat.add_zero, Bool.and_self, Bool.false_eq_true, decide_true, true_and, and_self, Int.toNat_natCast, eSpan, eDome]
      refine ru_count d.rounds.length (fun k => ⟨lkp [(1, .pa (eDome d)), (6, .rf 0 d.rounds.length 0 d.rounds.length 2), (10, .rf 1 i 0 i 1), (11, .i i), (12, .ad 2 0 0), (13, .i (needTo d i k)), (43, .rf 0 d.rounds.length 0 d.rounds.length 2), (44, .i d.rounds.length), (45, .i i), (52, .rf 0 d.rounds.length 0 d.rounds.length 2), (53, .i d.rounds.length), (54, .i k)],
        [.cells d.rounds.length ((cutsTo d d.rounds.length).map eSpan).flatten, .cells i ((outsTo d d.rounds.length i).map eI).flatten, .cells 0 (eSpan (spanAt d i))]⟩) ?_ ?_ ?_
      · simp only [Int.natCast_zero, cutL_noref _ _ _ (noref_S _), cutL_noref _ _ _ (noref_I _), cutH, kp, cutV, cutL, cutB, lkp_cons, lkp_nil, ↓reduceIte, Nat.reduceEqDiff, Nat.reduceLT, List.map_cons, List.map_nil, List.take_succ_cons, List.take_nil, eSpan, eDome]
        rfl
      · intro k hk
        have hat2 := flat_at (e := eSpan) (k := 2) (fun _ => rfl) (cutsTo_get (d := d) hk)
        have hlt2 : (k : Int) < d.rounds.length := by omega
        have h4 : inI ((k : Int) + 1) := by unfold inI; omega
        have l1 := lowAt_range d k hg.v.loss.1
        have l2 := needTo_range hg.v (row := i) (by omega) k (by omega)
        have l3 := slope_mul (a := max ((i : Int) - k) ((k : Int) - i)) hg.v.slope (by omega)
        have i5 : inI ((i : Int) - k) := by unfold inI; omega
        have i6 : inI ((k : Int) - i) := by unfold inI; omega
        have i7 : inI (d.slope * max ((i : Int) - k) ((k : Int) - i)) := by unfold inI; omega
        have i8 : inI (lowAt d k - d.slope * max ((i : Int) - k) ((k : Int) - i)) := by unfold inI; omega
        have h6 : k * 2 + 2 ≤ d.rounds.length * 2 := by omega
        simp only [hlt2, h4, h6, hat2, hli, Int.natCast_add, Int.natCast_one, needTo_succ, spanAt, i5, i6, i7, i8, cutL_noref _ _ _ (noref_S _), cutL_noref _ _ _ (noref_I _), ru_skip, ru_reg, ru_seq, ru_cnd, ru_block, ru_keep, ru_drp, ↓cut_lkp, cutH, putB, thenQ, blockQ, run_nil, run_cons, Fam.step, stepQ, stepW, needW, putB, nv, sv, evO, opv, qv, binV, ldV, iadV, curG, putAt, V.cells, solid, cellOk, kp, cutV, cutL, cutB, upd_some, upd_none, lkp_cons, lkp_nil, ↓reduceIte, Nat.reduceEqDiff, Nat.reduceAdd, Nat.reduceLT, Nat.reduceLeDiff, List.map_cons, List.map_nil, List.all_cons, List.all_nil, List.length_cons, List.length_nil, List.drop_succ_cons, List.drop_zero, List.drop_nil, List.take_succ_cons, List.take_zero, List.take_nil, List.headD_cons, List.cons_append, List.nil_append, List.append_nil, List.getElem?_cons_zero, List.getElem?_cons_succ, List.set_cons_zero, List.set_cons_succ, vw_ad, Int.natCast_nonneg, beq_self_eq_true, Nat.zero_add, Nat.add_zero, Bool.and_self, Bool.false_eq_true, decide_true, and_self, Int.toNat_natCast, eSpan, eDome]
      · have hsp : spanAt d i = ⟨lowAt d i, highAt d i⟩ := rfl
        have hn := needTo_range hg.v (row := i) (by omega) d.rounds.length (by omega)
        simp only [hsp, cutL_noref _ _ _ (noref_S _), ru_skip, ru_reg, ru_seq, ru_cnd, ite_P, ru_exit, ru_ret, ru_keep, ru_drp, chunk1, ↓cut_lkp, cutH, putB, thenQ, blockQ, run_nil, run_cons, Fam.step, stepQ, stepW, needW, putB, nv, sv, newsV, evO, opv, qv, binV, ldV, curG, foldParts, putAt, partsOk, partsOne, V.cells, solid, cellOk, hasRef, hasRefL, cutV, cutB, upd_some, lkp_cons, lkp_nil, ↓reduceIte, Nat.reduceEqDiff, Nat.reduceAdd, Nat.reduceMul, Nat.reduceLT, Nat.reduceLeDiff, List.map_cons, List.map_nil, List.all_cons, List.all_nil, List.length_cons, List.length_nil, List.drop_succ_cons, List.drop_zero, List.take_succ_cons, List.take_zero, List.take_nil, List.headD_cons, List.cons_append, List.nil_append, List.getElem?_cons_zero, List.getElem?_cons_succ, List.set_cons_zero, List.set_cons_succ, List.replicate_zero, List.replicate_succ, endQ, rvs, rv1, resV, vw_i, vw_z, vw_tp, Int.lt_irrefl, beq_self_eq_true, Nat.zero_add, Bool.and_self, Bool.or_false, Bool.false_eq_true, decide_false, decide_eq_true_eq, true_and, and_self, reduceCtorEq, not_false_eq_true, ne_eq, eSpan, eDome]
        refine ⟨fun hgt => ?_, fun hle => ?_⟩
        · have e : fitsAll d d.rounds.length d.rounds.length = false := all_range_false hi (by simp; omega)
          simp only [e, ↓reduceIte, List.map_nil, Bool.and_false, Bool.false_eq_true]
        · have e : decide (needTo d i d.rounds.length ≤ highAt d i) = true := by simp; omega
          refine ⟨⟨by rw [len_I, outsTo_len], by unfold fitsLen; omega⟩, h3, all_range_succ hC2 e, ?_⟩
          simp only [outsTo_succ, cutL_append, cutL_noref _ _ _ (noref_I _), List.flatten_cons, List.flatten_nil, flat_snoc, Int.natCast_add, Int.natCast_one, cutV, cutL, List.append_nil, eI]
    · intro hC2
      have hch := chunk_I (outsTo d d.rounds.length d.rounds.length)
      rw [outsTo_len] at hch
      simp only [hC, hC2, hch, outsTo_len, len_I, vw_I, Nat.mul_one, Nat.le_refl, ru_reg, ru_seq, ru_cnd, ru_exit, ru_ret, ru_keep, thenQ, blockQ, run_nil, run_cons, Fam.step, stepQ, evO, opv, qv, binV, ldV, upd_some, lkp_cons, lkp_nil, ↓reduceIte, Nat.reduceEqDiff, List.map_cons, List.map_nil, List.getElem?_cons_zero, List.getElem?_cons_succ, endQ, rvs, rv1, resV, vw_i, vw_tp, vw_rf, Int.lt_irrefl, Nat.zero_add, Bool.and_self, Bool.false_eq_true, decide_false, and_self, eDome]

theorem curveR_range (d : Dome) : (curveR d).1.length ≤ 12 ∧ ∀ x ∈ (curveR d).1, 0 ≤ x ∧ x ≤ 2000 := by
  unfold curveR
  by_cases h : pitchE d true = 0
  · rw [if_pos h]
    obtain ⟨hg, _⟩ := pitchE_zero h
    have hnr := hg.v.nr
    split
    · refine ⟨by rw [outsTo_len]; omega, fun x hx => ?_⟩
      obtain ⟨r, hr, rfl⟩ := List.mem_map.1 hx
      have := List.mem_range.1 hr
      exact needTo_range hg.v (by omega) _ (by omega)
    · simp
  · rw [if_neg h]; simp
def leastR (d : Dome) : Int × Int := ((curveR d).1.sum, (curveR d).2)
def r33 : List V → Prop × V := fnG (fun d => [.ag (eDome d)]) dD (fun _ => True) curveR eLE
def GN : Gam := GM.ext 33 r33
theorem okN : GOk Try.prog GN := okM.ext (f := 33) (r := r33) (fun a w => Try.call33 a w) (fnG_ok fun a _ => P33 a)
theorem gN33 (b : List Bolt) (g : List Int) (l : Int) (r : List Span) (w : List Int) (s : Int) :
    GN 33 [.ag [.sl 4 (b.map eBolt), .sl 1 (g.map eI), .i l, .sl 2 (r.map eSpan), .sl 1 (w.map eI), .i s]] = (True, eLE (curveR ⟨b, g, l, r, w, s⟩)) :=
  (show GN 33 _ = r33 [.ag (eDome ⟨b, g, l, r, w, s⟩)] from rfl).trans (fnG_at (e := fun d => [.ag (eDome d)]) _ (dDome_e _))
theorem P31 (d : Dome) : PureCall Try.prog 31 [.ag (eDome d)] (eNE (leastR d)) := by
  refine pure_body okN hmix Try.func31 cb31 cc31 cs31 cn31 ?_
  have hr := curveR_range d
  unfold leastR
  generalize hc : curveR d = c at *
  obtain ⟨l, e⟩ := c
  simp only [rc31, rs31, gN33, hc, eLE, eNE, ru_reg, ru_seq, ru_block, ru_keep, thenQ, run_nil, run_cons, Fam.step, stepQ, evO, opv, qv, ldV, lenV, callV, V.cells, solid, hasRef, hasRefL, flat, flatL, upd_some, lkp_cons, lkp_nil, ↓reduceIte, Nat.reduceEqDiff, Nat.reduceAdd, Nat.reduceLT, Nat.reduceLeDiff, List.map_cons, List.map_nil, List.length_cons, List.length_nil, List.take_succ_cons, List.take_nil, List.append_nil, List.getElem?_cons_zero, List.getElem?_cons_succ, Option.getD_some, vw_i, vw_sl, vw_ag, zipA, Nat.zero_add, Bool.and_self, Bool.and_true, Bool.or_false, Bool.false_eq_true, true_and, and_self, imp_self, List.length_map, domeE, eDome]
  dsimp only at hr
  refine ru_count l.length (fun i => ⟨lkp [(2, .i (l.take i).sum), (3, .i e), (12, .sl 1 (l.map eI)), (13, .i l.length), (14, .i i)], []⟩) ?_ ?_ ?_
  · simp only [Int.natCast_zero, List.sum_nil, kp, lkp_cons, lkp_nil, ↓reduceIte, Nat.reduceEqDiff, List.map_cons, List.map_nil, List.take_zero]
  · intro i hi
    obtain ⟨x, hx⟩ : ∃ x, l[i]? = some x := ⟨_, List.getElem?_eq_getElem hi⟩
    have hlt : (i : Int) < l.length := by omega
    have h3 : inI ((i : Int) + 1) := by unfold inI; omega
    have h4 := sum_tame (M := 2000) (by decide) (l.take (i + 1)) (fun y hy => by have := hr.2 y (List.mem_of_mem_take hy); unfold tame; omega)
    have h5 : (l.take (i + 1)).sum = (l.take i).sum + x := by rw [take_succ_of hx, List.sum_append]; simp
    have h6 : ((l.take (i + 1)).length : Int) ≤ 12 := by have := List.length_take_le (i + 1) l; omega
    have h7 : inI ((l.take i).sum + x) := by rw [← h5]; unfold inI tame at *; omega
    simp only [hx, hlt, h3, h5, h7, Int.natCast_add, Int.natCast_one, ru_skip, ru_reg, ru_seq, ru_cnd, ru_block, ru_keep, thenQ, blockQ, run_nil, run_cons, Fam.step, stepQ, evO, opv, qv, binV, ldV, iadV, kp, upd_some, lkp_cons, lkp_nil, ↓reduceIte, Nat.reduceEqDiff, Nat.reduceLeDiff, List.map_cons, List.map_nil, List.length_cons, List.length_nil, List.headD_cons, Option.getD_some, Int.natCast_nonneg, Nat.zero_add, Bool.false_eq_true, decide_true, and_self, Option.map_some, List.length_map, Int.toNat_natCast, List.getD_eq_getElem?_getD, List.getElem?_map, eI]
  · simp only [List.take_length, ru_reg, ru_seq, ru_cnd, ru_exit, ru_ret, ru_keep, thenQ, blockQ, run_nil, run_cons, Fam.step, stepQ, evO, opv, qv, binV, ldV, upd_some, lkp_cons, lkp_nil, ↓reduceIte, Nat.reduceEqDiff, List.map_cons, List.map_nil, List.getElem?_nil, endQ, rvs, rv1, resV, vw_i, vw_tp, Int.lt_irrefl, Bool.false_eq_true, decide_false, and_self]
end Go.C02
/- Maps from a number to a count: what lies in them when some numbers have been counted. -/
namespace Go.Fam
variable {Γ : Gam} {E : TypeId → Nat → Prop} {Q : Exit → St → Prop} {σ : St}

theorem RelCall.mono {P : Program} {f : FuncId} {args : List V} {R R' : V → List Blk → Prop} (h : RelCall P f args R) (hr : ∀ r hp, R r hp → R' r hp) : RelCall P f args R' := fun S w cargs h1 h2 h3 =>
  Calls.mono (h S w cargs h1 h2 h3) fun e w' ⟨c, S', O', r, hp, he, hR, hx⟩ => ⟨c, S', O', r, hp, he, hr _ _ hR, hx⟩

/-- a range over a map, where the state has something that is not determined -/
theorem ru_rangeE {α : Type} {l : List Nat} {d : Option Nat} {a : RC} (n : Nat) (S : List Nat → α → St) (C : List Nat → α → Prop) (x0 : α) (h0 : kp l d σ = S [] x0) (c0 : C [] x0)
    (hs : ∀ pre x, pre.Nodup → (∀ j ∈ pre, j < n) → C pre x → wpR Γ E a (thenQ (fun σ'' => ∃ j y, j ∈ leftN n pre ∧ C (pre ++ [j]) y ∧ kp l d σ'' = S (pre ++ [j]) y) Q) (S pre x)) : wpR Γ E (.loop l d a) Q σ := by
  refine ru_loop (fun k σ => ∃ (pre : List Nat) (x : α), pre.Nodup ∧ (∀ j ∈ pre, j < n) ∧ k = n - pre.length ∧ C pre x ∧ σ = S pre x) ⟨n, [], x0, List.nodup_nil, (by simp), by simp, c0, h0⟩ ?_
  rintro k _ ⟨pre, x, hnd, hlt, rfl, hc, rfl⟩
  refine wpR_mono _ _ _ _ (fun e σ he => ?_) (hs pre x hnd hlt hc)
  cases e <;> first | exact he | skip
  obtain ⟨j, y, hj, hc', hk⟩ := he
  obtain ⟨hjn, hjp⟩ := mem_leftN.1 hj
  have hnd' : (pre ++ [j]).Nodup := by
    rw [List.nodup_append]
    exact ⟨hnd, by simp, fun a ha b hb => by simp at hb; subst hb; rintro rfl; exact hjp ha⟩
  have hlt' : ∀ i ∈ pre ++ [j], i < n := by
    intro i hi
    rcases List.mem_append.1 hi with hi | hi
    · exact hlt i hi
    · simp at hi; omega
  have := nodup_len hnd' hlt'
  rw [List.length_append, List.length_singleton] at this
  exact ⟨n - (pre ++ [j]).length, by simp; omega, pre ++ [j], y, hnd', hlt', rfl, hc', hk⟩

/-- the keys of a map that has counted some numbers, in the order in which they came -/
def cmKs (xs : List Int) : List (List Int) := xs.foldl (fun ks x => putK ks [x]) []
def cmVs (xs : List Int) : List V := (cmKs xs).map fun k => .i (xs.count (k.headD 0))
def cm (xs : List Int) : Blk := .map false (cmKs xs) (cmVs xs)
theorem cmKs_snoc (xs : List Int) (x : Int) : cmKs (xs ++ [x]) = putK (cmKs xs) [x] := by simp [cmKs]
theorem list_snoc_ind {α : Type} {p : List α → Prop} (h0 : p []) (hs : ∀ l x, p l → p (l ++ [x])) (l : List α) : p l := by
  have : ∀ r : List α, p r.reverse := by
    intro r
    induction r with
    | nil => exact h0
    | cons x r ih => rw [List.reverse_cons]; exact hs _ _ ih
  simpa using this l.reverse
theorem mem_putK {ks : List (List Int)} {l k : List Int} : k ∈ putK ks l ↔ k ∈ ks ∨ k = l := by
  unfold putK
  split
  · rename_i h
    constructor
    · exact .inl
    · rintro (h' | rfl) <;> assumption
  · simp
theorem putK_len {ks : List (List Int)} {l : List Int} : (putK ks l).length ≤ ks.length + 1 := by
  unfold putK
  split <;> simp
theorem mem_cmKs (xs : List Int) : ∀ k, k ∈ cmKs xs ↔ ∃ x, x ∈ xs ∧ k = [x] := by
  refine list_snoc_ind (p := fun xs => ∀ k, k ∈ cmKs xs ↔ ∃ x, x ∈ xs ∧ k = [x]) (by simp [cmKs]) (fun l x ih k => ?_) xs
  rw [cmKs_snoc, mem_putK, ih]
  simp only [List.mem_append, List.mem_singleton]
  constructor
  · rintro (⟨y, hy, rfl⟩ | rfl)
    · exact ⟨y, .inl hy, rfl⟩
    · exact ⟨x, .inr rfl, rfl⟩
  · rintro ⟨y, hy | rfl, rfl⟩
    · exact .inl ⟨y, hy, rfl⟩
    · exact .inr rfl
theorem cmKs_nodup (xs : List Int) : (cmKs xs).Nodup :=
  list_snoc_ind (p := fun xs => (cmKs xs).Nodup) (by simp [cmKs]) (fun l x ih => by rw [cmKs_snoc]; exact putK_nodup ih) xs
theorem cmKs_len (xs : List Int) : (cmKs xs).length ≤ xs.length :=
  list_snoc_ind (p := fun xs => (cmKs xs).length ≤ xs.length) (by simp [cmKs]) (fun l x ih => by rw [cmKs_snoc]; have := putK_len (ks := cmKs l) (l := [x]); simp; omega) xs
theorem idxOf_get {ks : List (List Int)} {l : List Int} (h : l ∈ ks) : ks[ks.idxOf l]? = some l := by
  have hl := List.idxOf_lt_length_iff.2 h
  rw [List.getElem?_eq_getElem hl, List.getElem_idxOf hl]
theorem cm_get (xs : List Int) (x : Int) : ((cmVs xs)[(cmKs xs).idxOf [x]]?).getD (.i 0) = .i (xs.count x) := by
  unfold cmVs
  by_cases h : [x] ∈ cmKs xs
  · rw [List.getElem?_map, idxOf_get h]; rfl
  · have hx : x ∉ xs := fun hx => h ((mem_cmKs xs _).2 ⟨x, hx, rfl⟩)
    have : (cmKs xs).idxOf [x] = (cmKs xs).length := List.idxOf_eq_length h
    rw [this, List.getElem?_eq_none (by simp), List.count_eq_zero.2 hx]; rfl
theorem cm_put (xs : List Int) (x : Int) : putVs (cmKs xs) (cmVs xs) [x] (.i ((xs.count x : Int) + 1)) = cmVs (xs ++ [x]) := by
  have hone : ∀ k ∈ cmKs xs, k = [k.headD 0] := by
    intro k hk
    obtain ⟨y, _, rfl⟩ := (mem_cmKs xs k).1 hk
    rfl
  have hne : ∀ k ∈ cmKs xs, k ≠ [x] → (xs ++ [x]).count (k.headD 0) = xs.count (k.headD 0) := by
    intro k hk hkx
    have : k.headD 0 ≠ x := fun e => hkx (by rw [hone k hk, e])
    have hc : [x].count (k.headD 0) = 0 := List.count_eq_zero.2 (by simpa using this)
    rw [List.count_append, hc, Nat.add_zero]
  have hx : (xs ++ [x]).count x = xs.count x + 1 := by simp
  unfold putVs cmVs
  rw [cmKs_snoc]
  unfold putK
  split
  · rename_i h
    apply List.ext_getElem?
    intro i
    rw [List.getElem?_set]
    by_cases hi : (cmKs xs).idxOf [x] = i
    · subst hi
      rw [if_pos rfl, if_pos (by rw [List.length_map]; exact List.idxOf_lt_length_iff.2 h), List.getElem?_map, idxOf_get h]
      simp
    · rw [if_neg hi, List.getElem?_map, List.getElem?_map]
      cases hk : (cmKs xs)[i]? with
      | none => rfl
      | some k =>
        have hne' : k ≠ [x] := by
          rintro rfl
          have hil := getElemLt hk
          exact hi (by
            have := (cmKs_nodup xs).idxOf_getElem i hil
            rw [List.getElem?_eq_getElem hil] at hk
            rw [← this, Option.some.inj hk])
        simp only [Option.map_some]
        rw [hne k (List.mem_of_getElem? hk) hne']
  · rename_i h
    rw [List.map_append]
    congr 1
    · apply List.map_congr_left
      intro k hk
      rw [hne k hk (fun e => h (e ▸ hk))]
    · simp
theorem cm_nil : cm [] = .map false [] [] := rfl
mutual
theorem renV_noref (f : Nat → Nat) : ∀ v : V, hasRef v = false → renV f v = v
  | .u, _ | .b _, _ | .i _, _ | .z _, _ | .sl _ _, _ | .pa _, _ | .pn, _ | .yl _, _ => by simp [renV]
  | .ag cs, h | .tp cs, h => by simp only [hasRef] at h; simp only [renV, renL_noref f cs h]
  | .fn g cs, h => by simp only [hasRef] at h; simp only [renV, renL_noref f cs h]
  | .gv q v, h => by simp only [hasRef] at h; simp only [renV, renV_noref f v h]
  | .ad _ _ _, h | .rf _ _ _ _ _, h | .mp _ _, h | .it _ _, h => by simp [hasRef] at h
theorem renL_noref (f : Nat → Nat) : ∀ vs : List V, hasRefL vs = false → renL f vs = vs
  | [], _ => rfl
  | v :: vs, h => by
    simp only [hasRefL, Bool.or_eq_false_iff] at h
    simp only [renL, renV_noref f v h.1, renL_noref f vs h.2]
end
theorem noref_cm (xs : List Int) : hasRefL (cmVs xs) = false := by
  unfold cmVs
  generalize cmKs xs = ks
  induction ks with
  | nil => rfl
  | cons k ks ih => rw [List.map_cons]; simp only [hasRefL, hasRef, ih]; rfl
theorem cmKs_get {xs : List Int} {j : Nat} (h : j < (cmKs xs).length) : ∃ x, x ∈ xs ∧ (cmKs xs)[j]? = some [x] ∧ (cmVs xs)[j]? = some (.i (xs.count x)) := by
  have hj : (cmKs xs)[j]? = some ((cmKs xs)[j]) := List.getElem?_eq_getElem h
  obtain ⟨x, hx, e⟩ := (mem_cmKs xs _).1 (List.getElem_mem h)
  rw [e] at hj
  exact ⟨x, hx, hj, by unfold cmVs; rw [List.getElem?_map, hj]; rfl⟩
theorem sum_add (f g : List Int → Int) : ∀ ks : List (List Int), (ks.map fun k => f k + g k).sum = (ks.map f).sum + (ks.map g).sum
  | [] => rfl
  | k :: ks => by simp only [List.map_cons, List.sum_cons, sum_add f g ks]; omega
theorem sum_one (x F : Int) : ∀ ks : List (List Int), ks.Nodup → (∀ k ∈ ks, k = [k.headD 0]) → (ks.map fun k => if k.headD 0 = x then F else 0).sum = if [x] ∈ ks then F else 0
  | [], _, _ => by simp
  | k :: ks, hn, h1 => by
    rw [List.nodup_cons] at hn
    have ih := sum_one x F ks hn.2 fun k' hk' => h1 k' (by simp [hk'])
    have hk := h1 k (by simp)
    rw [List.map_cons, List.sum_cons, ih]
    by_cases e : k.headD 0 = x
    · have e' : k = [x] := by rw [hk, e]
      have : [x] ∉ ks := e' ▸ hn.1
      simp [e', this]
    · have : k ≠ [x] := fun e' => e (by rw [e']; rfl)
      have h2 : ([x] ∈ k :: ks) ↔ [x] ∈ ks := by simp [this.symm]
      simp only [if_neg e, h2, Int.zero_add]
theorem cm_sum (F : Int → Int) (xs : List Int) : ((cmKs xs).map fun k => (xs.count (k.headD 0) : Int) * F (k.headD 0)).sum = (xs.map F).sum := by
  refine list_snoc_ind (p := fun xs => ((cmKs xs).map fun k => (xs.count (k.headD 0) : Int) * F (k.headD 0)).sum = (xs.map F).sum) rfl (fun l x ih => ?_) xs
  have hone : ∀ k ∈ cmKs (l ++ [x]), k = [k.headD 0] := by
    intro k hk
    obtain ⟨y, _, rfl⟩ := (mem_cmKs _ k).1 hk
    rfl
  have hterm : ∀ k : List Int, (((l ++ [x]).count (k.headD 0) : Nat) : Int) * F (k.headD 0) = (l.count (k.headD 0) : Int) * F (k.headD 0) + if k.headD 0 = x then F x else 0 := by
    intro k
    by_cases e : k.headD 0 = x
    · rw [e, List.count_append, if_pos rfl, List.count_singleton_self, Int.natCast_add, Int.add_mul]; simp
    · have hc : [x].count (k.headD 0) = 0 := List.count_eq_zero.2 (by simpa using e)
      rw [List.count_append, hc, if_neg e]; simp
  simp only [hterm]
  rw [sum_add, sum_one x (F x) _ (cmKs_nodup _) hone, if_pos ((mem_cmKs _ _).2 ⟨x, by simp, rfl⟩), List.map_append, List.sum_append]
  have e2 : ((cmKs (l ++ [x])).map fun k => (l.count (k.headD 0) : Int) * F (k.headD 0)).sum = ((cmKs l).map fun k => (l.count (k.headD 0) : Int) * F (k.headD 0)).sum := by
    rw [cmKs_snoc]
    unfold putK
    split
    · rfl
    · rename_i hn
      have : l.count x = 0 := List.count_eq_zero.2 fun hx => hn ((mem_cmKs _ _).2 ⟨x, hx, rfl⟩)
      simp [this]
  rw [e2, ih]
  simp
end Go.Fam
set_option linter.unusedSimpArgs false
set_option linter.unusedVariables false
namespace Go.C02
open Go.Fam Go.Proofs
theorem gN69 (l s : Int) : GN 69 [.i l, .i s] = (tame 1000000 l ∧ tame 1000000 s, .i (pull l s)) := rfl
def canAt (t : Tent) (b : Int) : List Int := (t.can[b.toNat]?).getD []
structure Ok68 (t : Tent) (w : Int) : Prop where
  w : 0 ≤ w - 2 * t.dome.loss ∧ w - 2 * t.dome.loss ≤ 2000
  loss : 0 ≤ t.dome.loss ∧ t.dome.loss ≤ 20
  ng : t.dome.gores.length ≤ 16
  gores : ∀ g ∈ t.dome.gores, 0 ≤ g ∧ g < t.can.length
  nc : t.can.length ≤ 4
  can : ∀ l ∈ t.can, l.length ≤ 61 ∧ ∀ s ∈ l, 0 ≤ s ∧ s ≤ 60
theorem pull_range {l s : Int} (hl : 0 ≤ l ∧ l ≤ 2000) (hs : 0 ≤ s ∧ s ≤ 60) : 0 ≤ pull l s ∧ pull l s ≤ 2120 := by
  have h1 : 0 ≤ l * (1000 + s) := Int.mul_nonneg hl.1 (by omega)
  have h2 : l * (1000 + s) ≤ 2000 * 1060 := Int.mul_le_mul hl.2 (by omega) (by omega) (by decide)
  unfold pull
  rw [Int.tdiv_eq_ediv_of_nonneg h1]
  omega
/-- what one bolt's gores add -/
def part (t : Tent) (w b s : Int) : Int := (t.dome.gores.count b : Int) * pull (w - 2 * t.dome.loss) s
/-- the bolt of an entry -/
def gk (t : Tent) (j : Nat) : Int := ((cmKs t.dome.gores)[j]?.getD []).headD 0
def psum (t : Tent) (w : Int) (c : Int → Int) (pre : List Nat) : Int := (pre.map fun j => part t w (gk t j) (c (gk t j))).sum
structure Inv68 (t : Tent) (w : Int) (pre : List Nat) (xs : List Int) : Prop where
  len : xs.length ≤ 61 ^ pre.length
  rng : ∀ x ∈ xs, 0 ≤ x ∧ x ≤ 33920 * (pre.length : Int)
  mem : ∀ x, x ∈ xs ↔ ∃ c : Int → Int, (∀ j ∈ pre, c (gk t j) ∈ canAt t (gk t j)) ∧ x = psum t w c pre
def ys68 (t : Tent) (w b : Int) (xs : List Int) (pre2 : List Nat) : List Int :=
  pre2.flatMap fun j => (canAt t b).map fun s => ((cmKs xs)[j]?.getD []).headD 0 + part t w b s
def R68 (t : Tent) (w : Int) (r : V) (hp : List Blk) : Prop := ∃ xs : List Int, r = .mp 0 0 ∧ hp = [cm xs] ∧ Inv68 t w (List.range (cmKs t.dome.gores).length) xs
theorem inv68_nil (t : Tent) (w : Int) : Inv68 t w [] [0] :=
  ⟨by simp, by simp, fun x => by simp [psum]⟩
theorem psum_congr {t : Tent} {w : Int} {c c' : Int → Int} : ∀ {pre : List Nat}, (∀ j ∈ pre, c (gk t j) = c' (gk t j)) → psum t w c pre = psum t w c' pre
  | [], _ => rfl
  | j :: pre, h => by
    have h1 := psum_congr (t := t) (w := w) (pre := pre) fun i hi => h i (by simp [hi])
    have h2 := h j (by simp)
    simp only [psum, List.map_cons, List.sum_cons] at h1 ⊢
    rw [h1, h2]
theorem psum_snoc (t : Tent) (w : Int) (c : Int → Int) (pre : List Nat) (j : Nat) : psum t w c (pre ++ [j]) = psum t w c pre + part t w (gk t j) (c (gk t j)) := by simp [psum]
theorem gk_inj {t : Tent} {i j : Nat} (hi : i < (cmKs t.dome.gores).length) (hj : j < (cmKs t.dome.gores).length) (h : gk t i = gk t j) : i = j := by
  obtain ⟨x, _, hx, _⟩ := cmKs_get hi
  obtain ⟨y, _, hy, _⟩ := cmKs_get hj
  simp only [gk, hx, hy, Option.getD_some, List.headD_cons] at h
  subst h
  have h1 := (cmKs_nodup t.dome.gores).idxOf_getElem i hi
  have h2 := (cmKs_nodup t.dome.gores).idxOf_getElem j hj
  rw [List.getElem?_eq_getElem hi] at hx
  rw [List.getElem?_eq_getElem hj] at hy
  rw [Option.some.inj hx] at h1
  rw [Option.some.inj hy] at h2
  rw [← h1, h2]
theorem perm_sum {l l' : List Int} (h : l.Perm l') : l.sum = l'.sum := by
  induction h with
  | nil => rfl
  | cons x _ ih => rw [List.sum_cons, List.sum_cons, ih]
  | swap x y l => simp only [List.sum_cons]; omega
  | trans _ _ h1 h2 => rw [h1, h2]
theorem nodup_map_on {α β : Type} {f : α → β} {l : List α} (h : ∀ a ∈ l, ∀ b ∈ l, f a = f b → a = b) (hn : l.Nodup) : (l.map f).Nodup := by
  unfold List.Nodup at *
  rw [List.pairwise_map]
  exact hn.imp_of_mem fun ha hb hab e => hab (h _ ha _ hb e)
theorem part_range {t : Tent} {w : Int} (h : Ok68 t w) {b s : Int} (hs : 0 ≤ s ∧ s ≤ 60) : 0 ≤ part t w b s ∧ part t w b s ≤ 33920 := by
  have h1 := pull_range h.w hs
  have h2 : t.dome.gores.count b ≤ 16 := Nat.le_trans List.count_le_length h.ng
  unfold part
  refine ⟨Int.mul_nonneg (by omega) h1.1, ?_⟩
  have := Int.mul_le_mul (show (t.dome.gores.count b : Int) ≤ 16 by omega) h1.2 h1.1 (by decide)
  omega
theorem canAt_range {t : Tent} {w : Int} (h : Ok68 t w) {b s : Int} (hs : s ∈ canAt t b) : 0 ≤ s ∧ s ≤ 60 := by
  unfold canAt at hs
  cases hc : t.can[b.toNat]? with
  | none => rw [hc] at hs; simp at hs
  | some l => rw [hc] at hs; exact (h.can l (List.mem_of_getElem? hc)).2 s hs
theorem canAt_len {t : Tent} {w : Int} (h : Ok68 t w) (b : Int) : (canAt t b).length ≤ 61 := by
  unfold canAt
  cases hc : t.can[b.toNat]? with
  | none => simp
  | some l => exact (h.can l (List.mem_of_getElem? hc)).1
theorem ys68_len {t : Tent} {w : Int} (h : Ok68 t w) (b : Int) (xs : List Int) : ∀ pre2 : List Nat, (ys68 t w b xs pre2).length ≤ pre2.length * 61
  | [] => by simp [ys68]
  | j :: l => by
    have h1 := ys68_len h b xs l
    have h2 := canAt_len h b
    simp only [ys68, List.flatMap_cons, List.length_append, List.length_map, List.length_cons] at *
    omega
theorem ys68_snoc (t : Tent) (w b : Int) (xs : List Int) (pre2 : List Nat) (j : Nat) : ys68 t w b xs (pre2 ++ [j]) = ys68 t w b xs pre2 ++ (canAt t b).map fun s => ((cmKs xs)[j]?.getD []).headD 0 + part t w b s := by simp [ys68]
theorem mem_ys68 {t : Tent} {w b : Int} {xs : List Int} {pre2 : List Nat} (hp : pre2.Perm (List.range (cmKs xs).length)) (y : Int) : y ∈ ys68 t w b xs pre2 ↔ ∃ x ∈ xs, ∃ s ∈ canAt t b, y = x + part t w b s := by
  simp only [ys68, List.mem_flatMap, List.mem_map]
  constructor
  · rintro ⟨j, hj, s, hs, rfl⟩
    have hj := List.mem_range.1 (hp.mem_iff.1 hj)
    obtain ⟨x, hx, e, _⟩ := cmKs_get hj
    exact ⟨x, hx, s, hs, by simp [e]⟩
  · rintro ⟨x, hx, s, hs, rfl⟩
    have hm := (mem_cmKs xs [x]).2 ⟨x, hx, rfl⟩
    refine ⟨(cmKs xs).idxOf [x], hp.mem_iff.2 (List.mem_range.2 (List.idxOf_lt_length_iff.2 hm)), s, hs, ?_⟩
    rw [idxOf_get hm]; rfl
theorem inv68_snoc {t : Tent} {w : Int} (h : Ok68 t w) {pre : List Nat} {xs : List Int} {j : Nat} (hC : Inv68 t w pre xs) (hlt : ∀ i ∈ pre, i < (cmKs t.dome.gores).length) (hj : j < (cmKs t.dome.gores).length) (hjp : j ∉ pre)
    {pre2 : List Nat} (hp : pre2.Perm (List.range (cmKs xs).length)) : Inv68 t w (pre ++ [j]) (ys68 t w (gk t j) xs pre2) := by
  refine ⟨?_, fun y hy => ?_, fun y => ?_⟩
  · have h1 := ys68_len h (gk t j) xs pre2
    have h2 : pre2.length ≤ xs.length := by rw [hp.length_eq, List.length_range]; exact cmKs_len xs
    have h3 := hC.len
    rw [List.length_append, List.length_singleton, Nat.pow_succ]
    calc _ ≤ pre2.length * 61 := h1
      _ ≤ 61 ^ pre.length * 61 := Nat.mul_le_mul (Nat.le_trans h2 h3) (Nat.le_refl _)
  · obtain ⟨x, hx, s, hs, rfl⟩ := (mem_ys68 hp y).1 hy
    have h1 := hC.rng x hx
    have h2 := part_range h (b := gk t j) (canAt_range h hs)
    simp only [List.length_append, List.length_singleton]
    omega
  · rw [mem_ys68 hp]
    have hne : ∀ i ∈ pre, gk t i ≠ gk t j := fun i hi e => hjp (gk_inj (hlt i hi) hj e ▸ hi)
    constructor
    · rintro ⟨x, hx, s, hs, rfl⟩
      obtain ⟨c, hc, rfl⟩ := (hC.mem x).1 hx
      refine ⟨fun b => if b = gk t j then s else c b, fun i hi => ?_, ?_⟩
      · rcases List.mem_append.1 hi with hi | hi
        · simp only [if_neg (hne i hi)]; exact hc i hi
        · simp at hi; subst hi; simpa using hs
      · rw [psum_snoc, if_pos rfl]
        congr 1
        exact psum_congr fun i hi => by simp only [if_neg (hne i hi)]
    · rintro ⟨c, hc, rfl⟩
      exact ⟨psum t w c pre, (hC.mem _).2 ⟨c, fun i hi => hc i (by simp [hi]), rfl⟩, c (gk t j), hc j (by simp), psum_snoc t w c pre j⟩
theorem inv68_perm {t : Tent} {w : Int} {pre pre' : List Nat} {xs : List Int} (hC : Inv68 t w pre xs) (hp : pre.Perm pre') : Inv68 t w pre' xs := by
  refine ⟨hp.length_eq ▸ hC.len, hp.length_eq ▸ hC.rng, fun x => (hC.mem x).trans ?_⟩
  have e : ∀ c, psum t w c pre = psum t w c pre' := fun c => perm_sum (hp.map _)
  simp only [e, hp.mem_iff]
theorem few_bolts {t : Tent} {w : Int} (h : Ok68 t w) : (cmKs t.dome.gores).length ≤ 4 := by
  have := nodup_len (n := 4) (pre := (cmKs t.dome.gores).map fun k => (k.headD 0).toNat) ?_ ?_
  · simpa using this
  · apply nodup_map_on ?_ (cmKs_nodup _)
    intro a ha b hb e
    obtain ⟨x, hx, rfl⟩ := (mem_cmKs _ _).1 ha
    obtain ⟨y, hy, rfl⟩ := (mem_cmKs _ _).1 hb
    have := h.gores x hx
    have := h.gores y hy
    simp at e
    rw [show x = y by omega]
  · intro i hi
    obtain ⟨k, hk, rfl⟩ := List.mem_map.1 hi
    obtain ⟨x, hx, rfl⟩ := (mem_cmKs _ _).1 hk
    have := h.gores x hx
    have := h.nc
    simp; omega
theorem P68 (t : Tent) (w : Int) (h : Ok68 t w) : RelCall Try.prog 68 [.pa (eTent t), .i w] (R68 t w) := by
  refine relo_body okN hmix Try.func68 cb68 cc68 cs68 cn68 ?_
  simp only [rc68, rs68, ru_reg, ru_seq, ru_block, ru_keep, thenQ, run_nil, run_cons, Fam.step, stepQ, stepW, needW, nv, evO, opv, qv, ldV, lenV, upd_some, lkp_cons, lkp_nil, ↓reduceIte, Nat.reduceEqDiff, Nat.reduceAdd, Nat.reduceLeDiff, List.map_cons, List.map_nil, List.length_cons, List.length_nil, List.drop_succ_cons, List.drop_zero, List.headD_cons, List.cons_append, List.nil_append, rv1, resV, zipA, Nat.zero_add, Bool.false_eq_true, true_and, and_self, reduceCtorEq, List.length_map, eDome, eTent]
  refine ru_count t.dome.gores.length (fun i => ⟨lkp [(0, .pa (eTent t)), (1, .i w), (5, .mp 0 0), (20, .sl 1 (t.dome.gores.map eI)), (21, .i t.dome.gores.length), (22, .i i)], [cm (t.dome.gores.take i)]⟩) ?_ ?_ ?_
  · simp only [Int.natCast_zero, eTent, cm_nil, kp, lkp_cons, lkp_nil, ↓reduceIte, Nat.reduceEqDiff, List.map_cons, List.map_nil, List.take_zero, List.cons_append, List.nil_append, reduceCtorEq, eDome, eTent]
  · intro i hi
    obtain ⟨g, hg⟩ : ∃ g, t.dome.gores[i]? = some g := ⟨_, List.getElem?_eq_getElem hi⟩
    have hng := h.ng
    have hlt : (i : Int) < t.dome.gores.length := by omega
    have h3 : inI ((i : Int) + 1) := by unfold inI; omega
    have hc : (t.dome.gores.take i).count g ≤ i := Nat.le_trans List.count_le_length (List.length_take_le _ _)
    have h4 : inI (((t.dome.gores.take i).count g : Int) + 1) := by unfold inI; omega
    simp only [hlt, hg, h3, cm, cm_get, h4, cm_put, ← cmKs_snoc, Int.natCast_add, Int.natCast_one, take_succ_of hg, ru_skip, ru_reg, ru_seq, ru_cnd, ru_block, ru_keep, putB, lkpV, keyL, keyFits, thenQ, blockQ, run_nil, run_cons, Fam.step, stepQ, stepW, needW, putB, nv, sv, evO, opv, qv, binV, ldV, iadV, kp, upd_some, upd_none, lkp_cons, lkp_nil, ↓reduceIte, Nat.reduceEqDiff, Nat.reduceLeDiff, List.map_cons, List.map_nil, List.length_cons, List.length_nil, List.headD_cons, List.cons_append, List.nil_append, List.getElem?_cons_zero, Option.getD_some, List.set_cons_zero, Int.natCast_nonneg, Nat.zero_add, Bool.false_eq_true, decide_true, and_self, false_implies, reduceCtorEq, Option.map_some, List.length_map, Int.toNat_natCast, List.getD_eq_getElem?_getD, List.getElem?_map, eDome, eI, eTent]
  · simp only [List.take_length, cm, ru_reg, ru_seq, ru_cnd, ru_block, ru_exit, ru_keep, putB, keyL, keyFits, thenQ, blockQ, run_nil, run_cons, Fam.step, stepQ, stepW, needW, putB, nv, sv, evO, opv, qv, binV, upd_some, upd_none, lkp_cons, lkp_nil, ↓reduceIte, Nat.reduceEqDiff, Nat.reduceAdd, List.map_cons, List.map_nil, List.length_cons, List.length_nil, List.cons_append, List.nil_append, List.getElem?_cons_zero, List.getElem?_cons_succ, List.set_cons_zero, List.set_cons_succ, Int.lt_irrefl, Nat.zero_add, Bool.false_eq_true, decide_false, true_and, and_self, false_implies, reduceCtorEq, eDome, eTent]
    refine ru_rangeE (cmKs t.dome.gores).length (fun pre xs => ⟨lkp [(0, .pa (eTent t)), (1, .i w), (8, .mp 1 0), (34, .it 2 0)], [cm t.dome.gores, cm xs, .iter 0 (cmKs t.dome.gores).length (leftN (cmKs t.dome.gores).length pre) pre.getLast?]⟩) (Inv68 t w) [0] ?_ ?_ ?_
    · simp only [eTent, cm, leftN_nil, List.getLast?_nil, cutL_noref _ _ _ (noref_cm _), cutH, kp, cutV, cutB, lkp_cons, lkp_nil, ↓reduceIte, Nat.reduceEqDiff, Nat.reduceLT, List.map_cons, List.map_nil, List.take_succ_cons, List.take_nil, List.cons_append, List.nil_append, reduceCtorEq, eDome, eTent]
      rfl
    · exact inv68_nil t w
    · intro pre xs hnd hlt hC
      simp only [eTent, cm, ru_skip, ru_reg, ru_seq, ru_cnd, ru_block, ru_exit, ru_ret, ru_keep, ru_drp, ru_swp, ru_nxt, ↓cut_lkp, ↓ren_lkp, swH, sw, renV, renB, cutH, entV, keyV, endK, thenQ, blockQ, run_nil, run_cons, Fam.step, stepQ, stepW, needW, nv, evO, opv, qv, kp, cutV, cutB, upd_some, lkp_cons, lkp_nil, ↓reduceIte, Nat.reduceEqDiff, Nat.reduceAdd, Nat.reduceLT, List.map_cons, List.map_nil, List.length_cons, List.length_nil, List.take_succ_cons, List.take_zero, List.cons_append, List.nil_append, List.getElem?_cons_zero, List.getElem?_cons_succ, Option.getD_some, List.set_cons_zero, List.set_cons_succ, rvs, rv1, Nat.zero_add, Bool.false_eq_true, true_and, and_self, reduceCtorEq, List.getD_eq_getElem?_getD, eDome, eTent]
      refine ⟨fun hnil => ?_, fun j hj => ?_⟩
      · refine ⟨xs, rfl, ?_, inv68_perm hC (perm_leftN hnd hlt hnil)⟩
        simp only [renL_noref _ _ (noref_cm _), cutL_noref _ _ _ (noref_cm _), cm]
      obtain ⟨hjn, hjp⟩ := mem_leftN.1 hj
      obtain ⟨b, hb, hk1, hk2⟩ := cmKs_get hjn
      obtain ⟨hb0, hbl⟩ := h.gores b hb
      have hgk : gk t j = b := by simp [gk, hk1]
      simp only [hk1, hk2, leftN_erase hj, List.headD_cons, Option.getD_some]
      refine ru_range (cmKs xs).length (fun pre2 => ⟨lkp [(0, .pa (eTent t)), (1, .i w), (9, .i b), (10, .i (t.dome.gores.count b)), (11, .mp 3 0), (34, .it 2 0), (42, .it 4 0)],
        [cm t.dome.gores, cm xs, .iter 0 (cmKs t.dome.gores).length (leftN (cmKs t.dome.gores).length (pre ++ [j])) (some j), cm (ys68 t w b xs pre2), .iter 1 (cmKs xs).length (leftN (cmKs xs).length pre2) pre2.getLast?]⟩) (fun _ => True) ?_ trivial ?_
      · simp only [eTent, cm, leftN_nil, List.getLast?_nil, kp, lkp_cons, lkp_nil, ↓reduceIte, Nat.reduceEqDiff, List.map_cons, List.map_nil, List.cons_append, List.nil_append, reduceCtorEq, eDome, eTent]
        rfl
      · intro pre2 hnd2 hlt2 _
        simp only [eTent, cm, ru_skip, ru_reg, ru_seq, ru_cnd, ru_block, ru_exit, ru_keep, ru_swp, ru_nxt, ↓ren_lkp, swH, sw, renV, renB, entV, keyV, thenQ, blockQ, run_nil, run_cons, Fam.step, stepQ, evO, opv, qv, ldV, iadV, lenV, kp, cutV, cutB, upd_some, lkp_cons, lkp_nil, ↓reduceIte, Nat.reduceEqDiff, Nat.reduceAdd, Nat.reduceLT, Nat.reduceLeDiff, List.map_cons, List.map_nil, List.length_cons, List.length_nil, List.drop_succ_cons, List.drop_zero, List.take_succ_cons, List.take_zero, List.headD_cons, List.cons_append, List.nil_append, List.getElem?_cons_zero, List.getElem?_cons_succ, Option.getD_some, List.set_cons_zero, List.set_cons_succ, Nat.zero_add, Bool.false_eq_true, true_and, and_self, reduceCtorEq, List.length_map, List.getD_eq_getElem?_getD, List.getElem?_map, eDome, eTent]
        refine ⟨fun hnil2 => ?_, fun j2 hj2 => ?_⟩
        · refine ⟨j, ys68 t w b xs pre2, hj, hgk ▸ inv68_snoc h hC hlt hjn hjp (perm_leftN hnd2 hlt2 hnil2), ?_⟩
          simp only [renL_noref _ _ (noref_cm _), cutL_noref _ _ _ (noref_cm _), List.getLast?_concat]
        · obtain ⟨hjn2, hjp2⟩ := mem_leftN.1 hj2
          obtain ⟨x, hx, hk3, hk4⟩ := cmKs_get hjn2
          have hcan : t.can[b.toNat]? = some (canAt t b) := by rw [canAt, List.getElem?_eq_getElem (by omega)]; rfl
          have hx2 := hC.rng x hx
          have hpl : pre.length < 4 := by
            have := few_bolts h
            have := nodup_len (pre := pre ++ [j]) (n := (cmKs t.dome.gores).length) (by
              rw [List.nodup_append]
              exact ⟨hnd, by simp, fun a ha b hb => by simp at hb; subst hb; rintro rfl; exact hjp ha⟩) (by
              intro i hi
              rcases List.mem_append.1 hi with hi | hi
              · exact hlt i hi
              · simp at hi; omega)
            simp at this; omega
          have hys := ys68_len h b xs pre2
          have hp2 : pre2.length ≤ 226981 := by
            have := nodup_len hnd2 hlt2
            have := cmKs_len xs
            have := hC.len
            have : 61 ^ pre.length ≤ 61 ^ 3 := Nat.pow_le_pow_right (by decide) (by omega)
            omega
          have hcl := canAt_len h b
          simp only [hk3, leftN_erase hj2, hb0, hbl, hcan, Nat.reduceLeDiff, List.length_cons, List.length_nil, List.headD_cons, Option.getD_some, Nat.zero_add, true_and, and_self, Option.map_some, List.length_map, eCan]
          refine ru_count (canAt t b).length (fun k => ⟨lkp [(0, .pa (eTent t)), (1, .i w), (9, .i b), (10, .i (t.dome.gores.count b)), (11, .mp 3 0), (12, .i x), (34, .it 2 0), (42, .it 4 0), (53, .sl 1 ((canAt t b).map eI)), (54, .i (canAt t b).length), (55, .i k)],
            [cm t.dome.gores, cm xs, .iter 0 (cmKs t.dome.gores).length (leftN (cmKs t.dome.gores).length (pre ++ [j])) (some j), cm (ys68 t w b xs pre2 ++ ((canAt t b).take k).map fun s => x + part t w b s), .iter 1 (cmKs xs).length (leftN (cmKs xs).length (pre2 ++ [j2])) (some j2)]⟩) ?_ ?_ ?_
          · simp only [Int.natCast_zero, eTent, cm, kp, lkp_cons, lkp_nil, ↓reduceIte, Nat.reduceEqDiff, List.map_cons, List.map_nil, List.take_zero, List.cons_append, List.nil_append, List.append_nil, reduceCtorEq, eDome, eTent]
          · intro k hk
            obtain ⟨s, hs⟩ : ∃ s, (canAt t b)[k]? = some s := ⟨_, List.getElem?_eq_getElem hk⟩
            have hsm := List.mem_of_getElem? hs
            have hsr := canAt_range h hsm
            have hlt3 : (k : Int) < (canAt t b).length := by omega
            have i1 : inI ((k : Int) + 1) := by unfold inI; omega
            have hl := h.loss
            have i2 : inI (2 * t.dome.loss) := by unfold inI; omega
            have i3 : inI (w - 2 * t.dome.loss) := by have := h.w; unfold inI; omega
            have i4 : tame 1000000 (w - 2 * t.dome.loss) ∧ tame 1000000 s := by have := h.w; unfold tame; omega
            have i5 : inI ((t.dome.gores.count b : Int) * pull (w - 2 * t.dome.loss) s) := by have := part_range h (b := b) hsr; unfold part at this; unfold inI; omega
            have i6 : inI (x + (t.dome.gores.count b : Int) * pull (w - 2 * t.dome.loss) s) := by have := part_range h (b := b) hsr; unfold part at this; unfold inI; omega
            have i7 : ∀ y, inI (((ys68 t w b xs pre2 ++ ((canAt t b).take k).map fun s => x + part t w b s).count y : Int) + 1) := by
              intro y
              have h1 := List.count_le_length (a := y) (l := ys68 t w b xs pre2 ++ ((canAt t b).take k).map fun s => x + part t w b s)
              have h2 := List.length_take_le k (canAt t b)
              rw [List.length_append, List.length_map] at h1
              unfold inI; omega
            simp only [hlt3, hs, i1, i2, i3, i4, i5, i6, i7, eTent, cm, gN69, cm_get, cm_put, ← cmKs_snoc, take_succ_of hs, Int.natCast_add, Int.natCast_one, ru_skip, ru_reg, ru_seq, ru_cnd, ru_block, ru_keep, putB, lkpV, keyL, keyFits, thenQ, blockQ, run_nil, run_cons, Fam.step, stepQ, stepW, needW, putB, nv, sv, evO, opv, qv, binV, ldV, iadV, callV, hasRef, hasRefL, flat, kp, upd_some, upd_none, lkp_cons, lkp_nil, ↓reduceIte, Nat.reduceEqDiff, Nat.reduceAdd, Nat.reduceLT, Nat.reduceLeDiff, List.map_cons, List.map_nil, List.length_cons, List.length_nil, List.drop_succ_cons, List.drop_zero, List.headD_cons, List.cons_append, List.nil_append, List.append_nil, List.getElem?_cons_zero, List.getElem?_cons_succ, Option.getD_some, List.set_cons_zero, List.set_cons_succ, vw_i, Int.natCast_nonneg, Nat.zero_add, Bool.or_false, Bool.false_eq_true, decide_true, true_and, and_self, false_implies, implies_true, reduceCtorEq, Option.map_some, List.length_map, Int.toNat_natCast, List.getD_eq_getElem?_getD, List.getElem?_map, eDome, eI, eTent]
            simp only [List.map_append, part, List.append_assoc, List.map_cons, List.map_nil]
          · simp only [eTent, cm, List.take_length, ru_reg, ru_seq, ru_cnd, ru_exit, ru_keep, thenQ, blockQ, run_nil, run_cons, Fam.step, stepQ, evO, opv, qv, binV, upd_some, lkp_cons, lkp_nil, ↓reduceIte, Nat.reduceEqDiff, List.map_cons, List.map_nil, List.cons_append, List.nil_append, Int.lt_irrefl, Bool.false_eq_true, decide_false, true_and, reduceCtorEq, eDome, eTent]
            refine ⟨j2, hj2, ?_⟩
            simp only [ys68_snoc, hk3, List.getLast?_concat, List.headD_cons, Option.getD_some]
end Go.C02
set_option linter.unusedSimpArgs false
set_option linter.unusedVariables false
namespace Go.C02
open Go.Fam Go.Proofs
theorem range_map_get (ks : List (List Int)) (f : List Int → Int) : ((List.range ks.length).map fun j => f (ks[j]?.getD [])).sum = (ks.map f).sum := by
  congr 1
  apply List.ext_getElem?
  intro i
  rw [List.getElem?_map, List.getElem?_map]
  by_cases h : i < ks.length
  · rw [List.getElem?_range h, List.getElem?_eq_getElem h]; simp [h]
  · rw [List.getElem?_eq_none (by simp; omega), List.getElem?_eq_none (by omega)]; rfl
theorem psum_all (t : Tent) (w : Int) (c : Int → Int) : psum t w c (List.range (cmKs t.dome.gores).length) = sumBy t.dome.gores fun g => pull (w - 2 * t.dome.loss) (c g) := by
  unfold psum sumBy
  rw [← cm_sum (fun g => pull (w - 2 * t.dome.loss) (c g)) t.dome.gores]
  exact range_map_get (cmKs t.dome.gores) fun k => part t w (k.headD 0) (c (k.headD 0))
def inSums (t : Tent) (w x : Int) : Prop := ∃ c : Int → Int, (∀ g ∈ t.dome.gores, c g ∈ canAt t g) ∧ x = sumBy t.dome.gores fun g => pull (w - 2 * t.dome.loss) (c g)
theorem inv68_mem {t : Tent} {w : Int} {xs : List Int} (h : Inv68 t w (List.range (cmKs t.dome.gores).length) xs) (x : Int) : x ∈ xs ↔ inSums t w x := by
  rw [h.mem]
  have : ∀ c : Int → Int, (∀ j ∈ List.range (cmKs t.dome.gores).length, c (gk t j) ∈ canAt t (gk t j)) ↔ ∀ g ∈ t.dome.gores, c g ∈ canAt t g := by
    intro c
    constructor
    · intro hj g hg
      have hm := (mem_cmKs t.dome.gores [g]).2 ⟨g, hg, rfl⟩
      have := hj ((cmKs t.dome.gores).idxOf [g]) (List.mem_range.2 (List.idxOf_lt_length_iff.2 hm))
      have e : gk t ((cmKs t.dome.gores).idxOf [g]) = g := by unfold gk; rw [idxOf_get hm]; rfl
      rwa [e] at this
    · intro hg j hj
      obtain ⟨x, hx, e, _⟩ := cmKs_get (List.mem_range.1 hj)
      have e : gk t j = x := by unfold gk; rw [e]; rfl
      rw [e]; exact hg x hx
  simp only [this, psum_all]; rfl
def p68 (vs : List V) : Prop := eTN (dTN vs) = vs ∧ Ok68 (dTN vs).1 (dTN vs).2
def q68 : List V → Prop
  | .tp (r :: bs) :: vs => ∃ xs : List Int, r = .mp 0 0 ∧ bs = [bV (cm xs)] ∧ ∀ x, x ∈ xs ↔ inSums (dTN vs).1 (dTN vs).2 x
  | _ => False
def GO : Gam := (GN.ext 3000068 fun vs => (p68 vs, .u)).ext 4000068 fun vs => (q68 vs, .u)
theorem okO : GOk Try.prog GO := by
  refine okN.extR (f := 68) (p := p68) (q := q68) (fun a w => Try.call68 a w) fun vs h => ?_
  have := P68 _ _ h.2
  have e : eTN (dTN vs) = vs := h.1
  unfold eTN at e
  rw [e] at this
  refine this.mono fun r hp hr => ?_
  obtain ⟨xs, rfl, rfl, hi⟩ := hr
  exact ⟨[bV (cm xs)], by simp [cm, vB_map], xs, rfl, rfl, inv68_mem hi⟩
theorem gO68 (b : List Bolt) (g : List Int) (l : Int) (r : List Span) (w : List Int) (s : Int) (c : List (List Int)) (n : Int) :
    GO 3000068 [.pa [.sl 4 (b.map eBolt), .sl 1 (g.map eI), .i l, .sl 2 (r.map eSpan), .sl 1 (w.map eI), .i s, .sl 1 (c.map eCan)], .i n] = (Ok68 ⟨⟨b, g, l, r, w, s⟩, c⟩ n, .u) := by
  have e := dTN_e (⟨⟨b, g, l, r, w, s⟩, c⟩, n)
  refine (show GO 3000068 _ = (p68 (eTN (⟨⟨b, g, l, r, w, s⟩, c⟩, n)), V.u) from rfl).trans ?_
  unfold p68
  rw [e]; simp
theorem gO68' (b : List Bolt) (g : List Int) (l : Int) (r : List Span) (w : List Int) (s : Int) (c : List (List Int)) (n : Int) (x : V) (bs : List V) :
    GO 4000068 [.tp (x :: bs), .pa [.sl 4 (b.map eBolt), .sl 1 (g.map eI), .i l, .sl 2 (r.map eSpan), .sl 1 (w.map eI), .i s, .sl 1 (c.map eCan)], .i n] = (∃ xs : List Int, x = .mp 0 0 ∧ bs = [bV (cm xs)] ∧ ∀ y, y ∈ xs ↔ inSums ⟨⟨b, g, l, r, w, s⟩, c⟩ n y, .u) := by
  have e := dTN_e (⟨⟨b, g, l, r, w, s⟩, c⟩, n)
  refine (show GO 4000068 _ = (∃ xs : List Int, x = .mp 0 0 ∧ bs = [bV (cm xs)] ∧ ∀ y, y ∈ xs ↔ inSums (dTN (eTN (⟨⟨b, g, l, r, w, s⟩, c⟩, n))).1 (dTN (eTN (⟨⟨b, g, l, r, w, s⟩, c⟩, n))).2 y, V.u) from rfl).trans ?_
  rw [e]
theorem gO67 (n lo hi : Int) : GO 67 [.i n, .i lo, .i hi] = (True, .b (within n lo hi)) := rfl
theorem gO50 (b : List Bolt) (g : List Int) (l : Int) (r : List Span) (w : List Int) (s : Int) (c : List (List Int)) (n : Int) :
    GO 50 [.pa [.sl 4 (b.map eBolt), .sl 1 (g.map eI), .i l, .sl 2 (r.map eSpan), .sl 1 (w.map eI), .i s, .sl 1 (c.map eCan)], .i n] = (ok50 ⟨⟨b, g, l, r, w, s⟩, c⟩ n, .ag (eSpan (roundOf ⟨⟨b, g, l, r, w, s⟩, c⟩ n))) := gL50 b g l r w s c n
open Classical in
noncomputable def tightOf (t : Tent) (row w : Int) : Int :=
  if (wantAt t.dome row).low ≤ (roundOf t w).low ∧ (roundOf t w).high ≤ (wantAt t.dome row).high then 1
  else if ∃ x, inSums t w x ∧ within x (wantAt t.dome row).low (wantAt t.dome row).high = true then 3 else 2
structure Ok47 (t : Tent) (row w : Int) : Prop where
  row : 0 ≤ row ∧ row < t.dome.rounds.length
  k50 : ok50 t w
  k68 : Ok68 t w
theorem P47 (t : Tent) (row w : Int) (h : Ok47 t row w) : PureCall Try.prog 47 [.pa (eTent t), .i row, .i w] (.i (tightOf t row w)) := by
  refine pure_body okO hmix Try.func47 cb47 cc47 cs47 cn47 ?_
  obtain ⟨⟨h3, h4⟩, h5, h6⟩ := h
  have e2 : t.dome.rounds[row.toNat]? = some (wantAt t.dome row) := by rw [wantAt, List.getElem?_eq_getElem (by omega)]; rfl
  simp only [rc47, rs47, eTent, h3, h4, e2, gO50, h5, gO68, h6, gO68', ru_skip, ru_reg, ru_seq, ru_cnd, ite_P, ru_block, ru_ret, ru_keep, ru_crl, putB, thenQ, run_nil, run_cons, Fam.step, stepQ, stepW, needQ, needW, condB, ug, putB, nv, sv, evO, opv, qv, pickV_bb, binV, ldV, iadV, curG, callV, putAt, V.cells, solid, cellOk, hasRef, hasRefL, flat, flatL, upd_some, upd_none, lkp_cons, lkp_nil, ↓reduceIte, Nat.reduceEqDiff, Nat.reduceAdd, Nat.reduceLT, Nat.reduceLeDiff, List.map_cons, List.map_nil, List.all_cons, List.all_nil, List.length_cons, List.length_nil, List.drop_succ_cons, List.drop_zero, List.drop_nil, List.take_succ_cons, List.take_zero, List.take_nil, List.headD_cons, List.cons_append, List.nil_append, List.append_nil, List.getElem?_cons_zero, List.getElem?_cons_succ, Option.getD_some, List.set_cons_zero, List.set_cons_succ, endQ, rvs, rv1, resV, vw_i, vw_pa, zipA, beq_self_eq_true, Nat.zero_add, Nat.add_zero, V.i.injEq, Bool.and_self, Bool.and_true, Bool.or_false, Bool.false_eq_true, decide_eq_true_eq, decide_eq_false_iff_not, true_and, and_true, and_self, and_false, implies_true, reduceCtorEq, Option.map_some, beq_true, ite_f, imp_self, List.length_map, List.getD_eq_getElem?_getD, List.getElem?_map, Bool.not_eq_true, domeE, tentE, eSpan, eDome, eTent]
  refine ⟨fun hs => ?_, fun hs r bs hr => ?_⟩
  · rw [Bool.and_eq_true, decide_eq_true_eq, decide_eq_true_eq] at hs
    simp [tightOf, hs]
  · have hs' : ¬ ((wantAt t.dome row).low ≤ (roundOf t w).low ∧ (roundOf t w).high ≤ (wantAt t.dome row).high) := by
      rw [Bool.and_eq_false_iff, decide_eq_false_iff_not, decide_eq_false_iff_not] at hs
      omega
    obtain ⟨xs, rfl, rfl, hm⟩ := hr
    simp only [vB_map, cm, shL_noref _ _ (noref_cm _), shV, shB, vB_map, Nat.reduceAdd, List.map_cons, List.map_nil, List.length_cons, List.length_nil, List.cons_append, List.nil_append, List.getElem?_cons_zero, List.getElem?_cons_succ, Nat.zero_add, Nat.add_zero, true_and]
    refine ru_range (cmKs xs).length (fun pre => ⟨lkp [(7, .ad 0 0 0), (36, .it 3 0)], [.cells 0 (eSpan (wantAt t.dome row)), .cells 0 (eSpan (roundOf t w)), cm xs, .iter 2 (cmKs xs).length (leftN (cmKs xs).length pre) pre.getLast?]⟩)
      (fun pre => ∀ j ∈ pre, within (((cmKs xs)[j]?.getD []).headD 0) (wantAt t.dome row).low (wantAt t.dome row).high = false) ?_ (by simp) ?_
    · simp only [cm, leftN_nil, List.getLast?_nil, kp, lkp_cons, lkp_nil, ↓reduceIte, Nat.reduceEqDiff, List.map_cons, List.map_nil, eSpan]
    · intro pre hnd hlt hC
      simp only [cm, ru_skip, ru_reg, ru_seq, ru_cnd, ite_P, ru_block, ru_exit, ru_ret, ru_keep, ru_nxt, entV, keyV, thenQ, blockQ, run_nil, run_cons, Fam.step, stepQ, evO, opv, qv, ldV, curG, callV, hasRef, hasRefL, kp, upd_some, lkp_cons, lkp_nil, ↓reduceIte, Nat.reduceEqDiff, Nat.reduceAdd, Nat.reduceLT, Nat.reduceLeDiff, List.map_cons, List.map_nil, List.length_cons, List.length_nil, List.drop_succ_cons, List.drop_zero, List.headD_cons, List.append_nil, List.getElem?_cons_zero, List.getElem?_cons_succ, Option.getD_some, List.set_cons_zero, List.set_cons_succ, endQ, rvs, rv1, resV, vw_i, beq_self_eq_true, Nat.zero_add, Nat.add_zero, V.i.injEq, Bool.or_false, Bool.false_eq_true, true_and, and_true, and_self, false_implies, List.getD_eq_getElem?_getD, Bool.not_eq_true, eSpan]
      refine ⟨fun hnil => ?_, fun j hj => ?_⟩
      · have hp := perm_leftN hnd hlt hnil
        have : ¬ ∃ x, inSums t w x ∧ within x (wantAt t.dome row).low (wantAt t.dome row).high = true := by
          rintro ⟨x, hx, hw⟩
          have hk := (mem_cmKs xs [x]).2 ⟨x, (hm x).2 hx, rfl⟩
          have := hC ((cmKs xs).idxOf [x]) (hp.mem_iff.2 (List.mem_range.2 (List.idxOf_lt_length_iff.2 hk)))
          rw [idxOf_get hk] at this
          simp [hw] at this
        simp [tightOf, hs', this]
      · obtain ⟨hjn, hjp⟩ := mem_leftN.1 hj
        obtain ⟨x, hx, hk1, hk2⟩ := cmKs_get hjn
        simp only [hk1, leftN_erase hj, gO67, List.headD_cons, Option.getD_some, true_and]
        refine ⟨fun hw => ?_, fun hw => ⟨j, hj, ?_, ?_⟩⟩
        · have : ∃ x, inSums t w x ∧ within x (wantAt t.dome row).low (wantAt t.dome row).high = true := ⟨x, (hm x).1 hx, hw⟩
          simp [tightOf, hs', this]
        · intro i hi
          rcases List.mem_append.1 hi with hi | hi
          · exact hC i hi
          · simp at hi; subst hi; rw [hk1]; exact hw
        · simp only [List.getLast?_concat]
theorem Good.ok68 {d : Dome} (h : Good d) {w : Int} (hw : 2 * d.loss ≤ w ∧ w ≤ 2000) : Ok68 (tentOf d) w := by
  have hl := h.v.loss
  refine ⟨⟨?_, ?_⟩, h.v.loss, h.v.ng.2, ?_, ?_, ?_⟩
  · show 0 ≤ w - 2 * d.loss; omega
  · show w - 2 * d.loss ≤ 2000; omega
  · intro g hg
    have := h.v.gores g hg
    simp only [tentOf, cansOf, List.length_map]
    omega
  · have := h.v.nb
    simp only [tentOf, cansOf, List.length_map]
    omega
  · intro l hl
    obtain ⟨b, hb, rfl⟩ := List.mem_map.1 hl
    have hvb := h.v.bolts b hb
    exact ⟨numbersOf_len hvb, fun s hs => numbersOf_range hvb hs⟩
theorem Good.ok47 {d : Dome} (h : Good d) {row w : Int} (hr : isRow d row = true) (hw : 2 * d.loss ≤ w ∧ w ≤ 2000) : Ok47 (tentOf d) row w := by
  obtain ⟨k1, k2, _⟩ := row_of h.v hr
  have := h.v.loss
  exact ⟨⟨k1, k2⟩, h.ok50 (by unfold tame; omega), h.ok68 hw⟩
def eTNN (a : Tent × Int × Int) : List V := [.pa (eTent a.1), .i a.2.1, .i a.2.2]
def dTNN : List V → Tent × Int × Int | [.pa cs, .i n, .i m] => (dTent cs, n, m) | _ => (⟨D0, []⟩, 0, 0)
theorem dTNN_e (a : Tent × Int × Int) : dTNN (eTNN a) = a := by simp [dTNN, eTNN, dTent_e]
noncomputable def r47 : List V → Prop × V := fnG eTNN dTNN (fun a => Ok47 a.1 a.2.1 a.2.2) (fun a => tightOf a.1 a.2.1 a.2.2) .i
noncomputable def GP : Gam := GO.ext 47 r47
theorem okP : GOk Try.prog GP := okO.ext (f := 47) (r := r47) (fun a w => Try.call47 a w) (fnG_ok fun a h => P47 a.1 a.2.1 a.2.2 h)
theorem gP47 (b : List Bolt) (g : List Int) (l : Int) (r : List Span) (w : List Int) (s : Int) (c : List (List Int)) (n m : Int) :
    GP 47 [.pa [.sl 4 (b.map eBolt), .sl 1 (g.map eI), .i l, .sl 2 (r.map eSpan), .sl 1 (w.map eI), .i s, .sl 1 (c.map eCan)], .i n, .i m] = (Ok47 ⟨⟨b, g, l, r, w, s⟩, c⟩ n m, .i (tightOf ⟨⟨b, g, l, r, w, s⟩, c⟩ n m)) :=
  (show GP 47 _ = r47 (eTNN (⟨⟨b, g, l, r, w, s⟩, c⟩, n, m)) from rfl).trans (fnG_at _ (dTNN_e _))
theorem gP45 (b : List Bolt) (g : List Int) (l : Int) (r : List Span) (w : List Int) (s : Int) (x : Bool) :
    GP 45 [.ag [.sl 4 (b.map eBolt), .sl 1 (g.map eI), .i l, .sl 2 (r.map eSpan), .sl 1 (w.map eI), .i s], .b x] = (True, pitchV ⟨b, g, l, r, w, s⟩ x) := gL45 b g l r w s x
theorem gP46 (b : List Bolt) (g : List Int) (l : Int) (r : List Span) (w : List Int) (s : Int) (n : Int) :
    GP 46 [.ag [.sl 4 (b.map eBolt), .sl 1 (g.map eI), .i l, .sl 2 (r.map eSpan), .sl 1 (w.map eI), .i s], .i n] = (r.length < 1000, .b (isRow ⟨b, g, l, r, w, s⟩ n)) := gL46 b g l r w s n
noncomputable def tightR (d : Dome) (row : Int) : Int × Int := if pitchE d (isRow d row) = 0 then (tightOf (tentOf d) row (widthAt d row), 0) else (0, pitchE d (isRow d row))
theorem P17 (d : Dome) (n : Int) (hb : d.rounds.length < 1000) : PureCall Try.prog 17 [.ag (eDome d), .i n] (eNE (tightR d n)) := by
  refine pure_body okP hmix Try.func17 cb17 cc17 cs17 cn17 ?_
  simp only [rc17, rs17, gP46, gP45, pitchV, eNE, tightR, ru_skip, ru_reg, ru_any, ru_seq, ru_cnd, ite_P, ru_ret, ru_keep, putBs, thenQ, run_nil, run_cons, Fam.step, stepQ, runX, eff, nextD, fpR, fpQ, fpV, disjB, hits, evO, opv, qv, binV, ldV, iadV, callV, V.cells, solid, hasRef, hasRefL, flat, flatL, upd_some, lkp_cons, lkp_nil, ↓reduceIte, Nat.reduceEqDiff, Nat.reduceAdd, Nat.reduceLT, Nat.reduceLeDiff, List.map_cons, List.map_nil, List.all_nil, List.length_cons, List.length_nil, List.drop_succ_cons, List.drop_zero, List.take_succ_cons, List.take_nil, List.headD_cons, List.cons_append, List.nil_append, List.append_nil, List.getElem?_cons_zero, List.getElem?_cons_succ, List.getElem?_nil, Option.getD_some, Option.getD_none, List.replicate_zero, List.isEmpty_nil, endQ, rvs, rv1, resV, vw_i, vw_b, vw_sl, vw_ag, vw_tp, zipA, Nat.zero_add, Bool.and_self, Bool.and_true, Bool.false_and, Bool.or_false, Bool.false_or, Bool.not_true, Bool.not_false, Bool.false_eq_true, decide_eq_false_iff_not, true_and, and_true, and_self, false_implies, implies_true, reduceCtorEq, List.any_nil, List.contains_nil, Bool.not_eq_true', List.length_map, List.getD_eq_getElem?_getD, List.getElem?_map, Classical.not_not, domeE, eDome, eTent]
  refine ⟨by omega, fun h => ?_, fun h => ?_⟩
  · simp [h]
  · obtain ⟨hg, hr⟩ := pitchE_zero h
    obtain ⟨k1, k2, k3, k4, k5, k6⟩ := row_of hg.v hr
    have h3 := hg.ok47 hr k6
    unfold tentOf at *
    simp only [h, k1, k3, k4, gP47, h3, hasRef, flat, ↓reduceIte, Nat.reduceLeDiff, List.length_cons, List.length_nil, List.headD_cons, Option.getD_some, vw_i, vw_pa, Nat.zero_add, Bool.or_false, Bool.false_eq_true, and_self, implies_true, Option.map_some, domeE, eI]
noncomputable def looseTo (d : Dome) (k : Nat) : List Int := ((ints 0 (d.widths.length - 1)).take k).filter fun r => decide (tightOf (tentOf d) r (widthAt d r) ≠ 1)
noncomputable def looseR (d : Dome) : List Int × Int := if pitchE d true = 0 then (looseTo d d.widths.length, 0) else ([], pitchE d true)
theorem P26 (d : Dome) : PureCall Try.prog 26 [.ag (eDome d)] (eLE (looseR d)) := by
  refine pure_body okP hmix Try.func26 cb26 cc26 cs26 cn26 ?_
  simp only [rc26, rs26, gP45, pitchV, eLE, looseR, ru_skip, ru_reg, ru_seq, ru_cnd, ite_P, ru_block, ru_ret, ru_keep, ru_own, thenQ, run_nil, run_cons, Fam.step, stepQ, evO, opv, qv, binV, ldV, lenV, callV, V.cells, solid, hasRef, hasRefL, flat, flatL, upd_some, lkp_cons, lkp_nil, ↓reduceIte, Nat.reduceEqDiff, Nat.reduceAdd, Nat.reduceLT, Nat.reduceLeDiff, List.map_cons, List.map_nil, List.length_cons, List.length_nil, List.drop_succ_cons, List.drop_zero, List.take_succ_cons, List.take_nil, List.headD_cons, List.cons_append, List.nil_append, List.append_nil, List.getElem?_cons_zero, List.getElem?_cons_succ, List.getElem?_nil, Option.getD_some, endQ, rvs, rv1, resV, vw_i, vw_b, vw_z, vw_sl, vw_ag, vw_tp, zipA, Nat.zero_add, Bool.and_self, Bool.and_true, Bool.or_false, Bool.false_eq_true, decide_eq_false_iff_not, true_and, and_self, false_implies, Bool.not_eq_true', List.length_map, Classical.not_not, domeE, eDome, eTent]
  refine ⟨fun h => by simp [h], fun h => ?_⟩
  obtain ⟨hg, _⟩ := pitchE_zero h
  have hnr := hg.v.nr
  have hnw := hg.v.nw
  simp only [h, ↓reduceIte]
  refine ru_count d.widths.length (fun i => ⟨lkp [(4, .pa (eTent (tentOf d))), (6, .rf 0 (looseTo d i).length 0 (looseTo d i).length 1), (18, .sl 1 (d.widths.map eI)), (19, .i d.widths.length), (20, .i i)], [.cells (looseTo d i).length ((looseTo d i).map eI).flatten]⟩) ?_ ?_ ?_
  · simp only [Int.natCast_zero, tentOf, eTent, looseTo, List.filter_nil, List.flatten_nil, kp, lkp_cons, lkp_nil, ↓reduceIte, Nat.reduceEqDiff, List.map_cons, List.map_nil, List.length_nil, List.take_zero, List.cons_append, List.nil_append, ne_eq, eDome, eTent]
  · intro i hi
    obtain ⟨x, hx⟩ : ∃ x, d.widths[i]? = some x := ⟨_, List.getElem?_eq_getElem hi⟩
    have hxw : widthAt d i = x := by simp [widthAt, hx]
    have hrow : isRow d i = true := by simp only [isRow, within, Bool.and_eq_true, decide_eq_true_eq]; omega
    have h47 := hg.ok47 hrow (w := x) (hg.v.widths x (List.mem_of_getElem? hx))
    have hlt : (i : Int) < d.widths.length := by omega
    have h3 : inI ((i : Int) + 1) := by unfold inI; omega
    have hget : (ints 0 ((d.widths.length : Int) - 1))[i]? = some (i : Int) := by rw [ints_get (by omega)]; simp
    have hs : looseTo d (i + 1) = looseTo d i ++ (if decide (tightOf (tentOf d) i (widthAt d i) ≠ 1) then [(i : Int)] else []) := filter_snoc _ hget
    have hll : (looseTo d i).length ≤ i := Nat.le_trans (List.length_filter_le _ _) (List.length_take_le _ _)
    rw [hxw] at hs
    unfold tentOf at hs h47
    simp only [hlt, h3, hx, eTent, tentOf, gP47, h47, hs, Int.natCast_add, Int.natCast_one, ru_skip, ru_reg, ru_seq, ru_cnd, ite_P, ru_block, ru_keep, chunk1, putB, thenQ, blockQ, run_nil, run_cons, Fam.step, stepQ, stepW, needW, putB, nv, sv, newsV, evO, opv, qv, binV, ldV, iadV, callV, foldParts, putAt, partsOk, partsOne, V.cells, solid, cellOk, hasRef, hasRefL, flat, kp, upd_some, lkp_cons, lkp_nil, ↓reduceIte, Nat.reduceEqDiff, Nat.reduceMul, Nat.reduceLT, Nat.reduceLeDiff, List.map_cons, List.map_nil, List.all_cons, List.all_nil, List.length_cons, List.length_nil, List.take_succ_cons, List.take_zero, List.headD_cons, List.cons_append, List.nil_append, List.append_nil, List.getElem?_cons_zero, Option.getD_some, List.set_cons_zero, List.replicate_zero, List.replicate_succ, vw_i, vw_pa, Int.natCast_nonneg, Nat.zero_add, Bool.and_self, Bool.or_false, Bool.false_eq_true, decide_true, decide_eq_true_eq, decide_eq_false_iff_not, true_and, and_self, implies_true, reduceCtorEq, not_false_eq_true, ne_eq, Option.map_some, Bool.not_eq_true', List.length_map, Int.toNat_natCast, List.getD_eq_getElem?_getD, List.getElem?_map, Classical.not_not, domeE, eDome, eI, eTent]
    refine ⟨fun he => ?_, fun he => ?_⟩
    · simp only [he, len_I, List.length_append, List.map_append, List.flatten_append, List.flatten_cons, List.flatten_nil, Nat.mul_one, ↓reduceIte, List.map_cons, List.map_nil, List.length_cons, List.length_nil, List.append_nil, Nat.zero_add, true_and, and_true, not_false_eq_true, eI]
      unfold fitsLen; omega
    · simp only [he, ↓reduceIte, List.append_nil, not_true_eq_false]
  · simp only [looseTo, len_I, Nat.mul_one, Nat.le_refl, chunk_I, vw_I, ru_reg, ru_seq, ru_cnd, ru_exit, ru_ret, ru_keep, thenQ, blockQ, run_nil, run_cons, Fam.step, stepQ, evO, opv, qv, binV, ldV, upd_some, lkp_cons, lkp_nil, ↓reduceIte, Nat.reduceEqDiff, List.map_cons, List.map_nil, List.cons_append, List.nil_append, List.getElem?_cons_zero, endQ, rvs, rv1, resV, vw_i, vw_tp, vw_rf, Int.lt_irrefl, Nat.zero_add, Bool.false_eq_true, decide_false, and_self, ne_eq, eDome, eTent]
end Go.C02
set_option linter.unusedSimpArgs false
set_option linter.unusedVariables false
namespace Go.C02
open Go.Fam Go.Proofs
theorem eqSpan : EqFlat Try.prog 34 2 := EqFlat.of (fs := _) (show Try.prog.underlying 34 = some (.struct (Try.prog.fieldsOf 34)) by kernel_rfl) (by kernel_rfl) (by kernel_rfl)
theorem eqStripT : EqFlat Try.prog 52 3 := EqFlat.of (fs := _) (show Try.prog.underlying 52 = some (.struct (Try.prog.fieldsOf 52)) by kernel_rfl) (by kernel_rfl) (by kernel_rfl)
/-- what Copy gives, as memory of its own -/
def copyCs (d : Dome) : List V := [.rf 2 1 0 d.bolts.length 4, .rf 3 1 0 d.gores.length 1, .i d.loss, .rf 5 1 0 d.rounds.length 2, .rf 7 1 0 d.widths.length 1, .i d.slope]
def copyHp (d : Dome) : List Blk :=
  [.cells 0 (copyCs d), .cells 0 (copyCs d), .cells 1 (d.bolts.map eBolt).flatten, .cells 1 (d.gores.map eI).flatten, .hole, .cells 1 (d.rounds.map eSpan).flatten, .hole, .cells 1 (d.widths.map eI).flatten, .hole]
def copyV (d : Dome) : V := .ag (copyCs d)
structure Ok22 (d : Dome) : Prop where
  b : d.bolts.length < 1000000
  g : d.gores.length < 1000000
  r : d.rounds.length < 1000000
  w : d.widths.length < 1000000
  s : ∀ b ∈ d.bolts, b.strips.length < 1000000
theorem O22 (d : Dome) (h : Ok22 d) : OwnCall Try.prog 22 [.ag (eDome d)] (copyV d) (copyHp d) := by
  refine own_body okP hmix Try.func22 cb22 cc22 cs22 cn22 ?_
  simp only [rc22, rs22, List.flatten_nil, ru_reg, ru_seq, ru_block, ru_keep, putB, thenQ, run_nil, run_cons, Fam.step, stepQ, stepW, needW, putB, nv, sv, newsV, evO, opv, qv, ldV, curG, foldParts, putAt, partsOk, partsOne, V.cells, solid, cellOk, hasRef, hasRefL, upd_some, upd_none, lkp_cons, lkp_nil, ↓reduceIte, Nat.reduceEqDiff, Nat.reduceAdd, Nat.reduceMul, Nat.reduceLeDiff, List.map_cons, List.map_nil, List.all_cons, List.all_nil, List.length_cons, List.length_nil, List.drop_succ_cons, List.drop_zero, List.drop_nil, List.take_succ_cons, List.take_zero, List.take_nil, List.headD_cons, List.cons_append, List.nil_append, List.append_nil, List.getElem?_cons_zero, List.getElem?_cons_succ, List.set_cons_zero, List.set_cons_succ, List.replicate_zero, vw_i, vw_sl, vw_ag, zipA, beq_self_eq_true, Nat.zero_add, Nat.add_zero, Bool.and_self, Bool.or_false, Bool.false_eq_true, true_and, and_self, List.length_map, eDome]
  have hb := h.b
  have hg := h.g
  have hr := h.r
  have hw := h.w
  refine ⟨by unfold fitsLen; omega, ?_⟩
  refine ru_count d.bolts.length (fun i => ⟨lkp [(1, .pa (eDome d)), (2, .ad 0 0 0), (3, .ad 1 0 0), (4, .i i)], [.cells 0 [.z 4, .z 1, .i 0, .z 2, .z 1, .i 0], .cells 0 [.rf 2 1 0 d.bolts.length 4, .sl 1 (d.gores.map eI), .i d.loss, .sl 2 (d.rounds.map eSpan), .sl 1 (d.widths.map eI), .i d.slope], .cells 1 (d.bolts.map eBolt).flatten]⟩) ?_ ?_ ?_
  · simp only [Int.natCast_zero, cutL_noref _ _ _ (hasRefL_flat (e := eBolt) (fun _ => rfl) d.bolts), cutH, kp, cutV, cutL, cutB, lkp_cons, lkp_nil, ↓reduceIte, Nat.reduceEqDiff, Nat.reduceLT, List.map_cons, List.map_nil, List.take_succ_cons, List.take_nil, eDome]
  · intro i hi
    obtain ⟨x, hx⟩ : ∃ x, d.bolts[i]? = some x := ⟨_, List.getElem?_eq_getElem hi⟩
    have hlt : (i : Int) < d.bolts.length := by omega
    have h3 : inI ((i : Int) + 1) := by unfold inI; omega
    have hfl := flat_len (e := eBolt) (k := 4) (fun _ => rfl) d.bolts
    have hst : fitsLen x.strips.length := by have := h.s x (List.mem_of_getElem? hx); unfold fitsLen; omega
    have hoff : i * 4 + 2 + 1 ≤ d.bolts.length * 4 := by omega
    have hnr := hasRefL_flat (e := eBolt) (fun _ => rfl) d.bolts
    have hns := hasRefL_flat (e := eStrip) (fun _ => rfl) x.strips
    have hsl := flat_len (e := eStrip) (k := 3) (fun _ => rfl) x.strips
    have hvw : ∀ hp, (x.strips.map eStrip).map (fun r => r.map (vw hp 7)) = x.strips.map eStrip := fun hp => map_vw_rows (e := eStrip) hp 7 (fun _ => rfl) _
    have hput : List.take (i * 4 + 2) (d.bolts.map eBolt).flatten ++ [V.sl 3 (x.strips.map eStrip)] ++ List.drop (i * 4 + 2 + 1) (d.bolts.map eBolt).flatten = (d.bolts.map eBolt).flatten :=
      put_same (flat_get (k := 4) (fun _ => rfl) d.bolts i 2 x hx (by decide))
    simp only [hx, hlt, Int.natCast_add, Int.natCast_one, h3, List.flatten_nil, hfl, hst, hoff, cutL_append, cutL_noref _ _ _ (hasRefL_take _ _ hnr), cutL_noref _ _ _ (hasRefL_drop _ _ hnr), cutL_noref _ _ _ hnr, hpF, upB, upL_noref _ _ hns, chunk_flat (e := eStrip) (k := 3) (fun _ => rfl), hsl, hvw, Nat.le_refl, hput, ru_skip, ru_reg, ru_any, ru_seq, ru_cnd, ru_block, ru_keep, ru_drp, ↓cut_lkp, putBs, optL, cutH, thenQ, blockQ, run_nil, run_cons, Fam.step, stepQ, needW, runX, eff, nextD, fpR, fpQ, fpV, disjB, hits, nv, sv, newsV, evO, opv, qv, binV, ldV, iadV, lenV, curG, foldParts, putAt, partsOk, partsOne, V.cells, solid, cellOk, kp, cutV, cutL, cutB, upd_some, upd_none, lkp_cons, lkp_nil, ↓reduceIte, Nat.reduceEqDiff, Nat.reduceAdd, Nat.reduceMul, Nat.reduceLT, Nat.reduceLeDiff, Nat.reduceBEq, List.map_cons, List.map_nil, List.all_cons, List.all_nil, List.length_cons, List.length_nil, List.drop_succ_cons, List.drop_zero, List.take_succ_cons, List.take_zero, List.take_nil, List.headD_cons, List.cons_append, List.nil_append, List.getElem?_cons_zero, List.getElem?_cons_succ, List.getElem?_nil, Option.getD_some, Option.getD_none, List.set_cons_zero, List.set_cons_succ, List.replicate_zero, List.replicate_succ, List.isEmpty_nil, List.isEmpty_cons, vw_rf, Int.natCast_nonneg, beq_self_eq_true, Nat.zero_add, Nat.add_zero, Bool.and_self, Bool.and_true, Bool.true_and, Bool.false_and, Bool.and_false, Bool.or_false, Bool.false_or, Bool.not_true, Bool.not_false, Bool.false_eq_true, decide_true, and_self, false_and, reduceCtorEq, Option.map_some, List.any_cons, List.any_nil, List.contains_cons, List.contains_nil, List.length_map, Int.toNat_natCast, List.getD_eq_getElem?_getD, List.getElem?_map, eBolt, eDome]
  · simp only [List.flatten_nil, Nat.le_refl, copyV, copyHp, copyCs, ru_reg, ru_any, ru_seq, ru_cnd, ru_exit, ru_ret, ru_keep, putBs, optL, putB, endO, thenQ, blockQ, run_nil, run_cons, Fam.step, stepQ, stepW, needW, runX, eff, nextD, fpR, fpQ, fpV, disjB, hits, putB, nv, sv, newsV, evO, opv, qv, binV, ldV, lenV, curG, foldParts, putAt, partsOk, partsOne, V.cells, solid, cellOk, upd_some, upd_none, lkp_cons, lkp_nil, ↓reduceIte, Nat.reduceEqDiff, Nat.reduceAdd, Nat.reduceMul, Nat.reduceLeDiff, Nat.reduceBEq, List.map_cons, List.map_nil, List.all_cons, List.all_nil, List.length_cons, List.length_nil, List.drop_succ_cons, List.drop_zero, List.drop_nil, List.take_succ_cons, List.take_zero, List.take_nil, List.headD_cons, List.cons_append, List.nil_append, List.append_nil, List.getElem?_cons_zero, List.getElem?_cons_succ, List.getElem?_nil, Option.getD_some, Option.getD_none, List.set_cons_zero, List.set_cons_succ, List.replicate_zero, List.replicate_succ, List.isEmpty_nil, List.isEmpty_cons, rvs, rv1, resV, Int.lt_irrefl, beq_self_eq_true, Nat.zero_add, Nat.add_zero, Bool.and_self, Bool.and_true, Bool.true_and, Bool.false_and, Bool.and_false, Bool.or_false, Bool.false_or, Bool.not_true, Bool.not_false, Bool.false_eq_true, decide_false, true_and, and_true, and_self, List.any_cons, List.any_nil, List.contains_cons, List.contains_nil, List.length_map, List.getD_eq_getElem?_getD, eDome]
    unfold fitsLen
    omega
theorem P22' (d : Dome) (h : Ok22 d) : PureCall Try.prog 22 [.ag (eDome d)] (.ag (eDome d)) := P22 d ⟨h.b, h.g, h.r, h.w, h.s⟩
def r22 : List V → Prop × V := fnG (fun d => [.ag (eDome d)]) dD Ok22 (fun d => d) (fun d => .ag (eDome d))
def r22o : List V → Prop × V := fnG (fun d => [.ag (eDome d)]) dD Ok22 (fun d => d) (fun d => .tp [copyV d, .tp ((copyHp d).map bV)])
theorem copy_vB (d : Dome) : ((copyHp d).map bV).map vB = copyHp d := by simp [copyHp, copyCs, bV, vB]
noncomputable def GQ : Gam := (GP.ext 22 r22).ext 1000022 r22o
theorem okQ : GOk Try.prog GQ := by
  have k1 := okP.ext (f := 22) (r := r22) (fun a w => Try.call22 a w) (fnG_ok fun d h => P22' d h)
  refine k1.extO (f := 22) (r := r22o) (fun a w => Try.call22 a w) fun vs r' bs h1 h2 => ?_
  simp only [r22o, fnG, V.tp.injEq, List.cons.injEq, and_true] at h1 h2
  obtain ⟨rfl, rfl⟩ := h2
  rw [← h1.1, copy_vB]
  simp only [dD, dDome_e]
  rw [← h1.1] at h1
  simp only [dD, dDome_e] at h1
  exact O22 _ h1.2
end Go.C02
set_option linter.unusedSimpArgs false
set_option linter.unusedVariables false
namespace Go.C02
open Go.Fam Go.Proofs
theorem fnO_ok {P : Program} {A : Type} {e : A → List V} {d : List V → A} {ok : A → Prop} {v : A → V} {hp : A → List Blk} {f : Nat} (hvB : ∀ a, ((hp a).map bV).map vB = hp a) (h : ∀ a, ok a → OwnCall P f (e a) (v a) (hp a))
    (vs : List V) (r : V) (bs : List V) (h1 : (fnG e d ok (fun a => a) (fun a => .tp [v a, .tp ((hp a).map bV)]) vs).1) (h2 : (fnG e d ok (fun a => a) (fun a => .tp [v a, .tp ((hp a).map bV)]) vs).2 = .tp [r, .tp bs]) : OwnCall P f vs r (bs.map vB) := by
  simp only [fnG, V.tp.injEq, List.cons.injEq, and_true] at h1 h2
  obtain ⟨rfl, rfl⟩ := h2
  have := h (d vs) h1.2
  rw [h1.1] at this
  rwa [hvB]
theorem vw_S (hp : List Blk) (n : Nat) (l : List Span) : (l.map eSpan).map (fun r => r.map (vw hp (n + 1))) = l.map eSpan := map_vw_rows (e := eSpan) hp (n + 1) (fun _ => rfl) l
theorem vw_B (hp : List Blk) (n : Nat) (l : List Bolt) : (l.map eBolt).map (fun r => r.map (vw hp (n + 1))) = l.map eBolt := map_vw_rows (e := eBolt) hp (n + 1) (fun _ => rfl) l
/-- the dome of the chapter's examples -/
def exD : Dome := ⟨[⟨⟨0, 20⟩, [⟨1000, ⟨1005, 1010⟩⟩], 0⟩, ⟨⟨0, 10⟩, [], 0⟩], [0, 0, 1, 1], 5, [⟨400, 404⟩, ⟨600, 650⟩, ⟨803, 806⟩], [110, 165, 210], 50⟩
def exD2 : Dome := { exD with rounds := [⟨400, 404⟩, ⟨600, 650⟩, ⟨800, 808⟩] }
def exCs : List V := [.sl 4 (exD.bolts.map eBolt), .sl 1 (exD.gores.map eI), .i 5, .rf 1 0 0 3 2, .sl 1 (exD.widths.map eI), .i 50]
def exHp : List Blk := [.cells 0 exCs, .cells 0 [.i 400, .i 404, .i 600, .i 650, .i 803, .i 806]]
theorem exRows : chunk 2 [.i 400, .i 404, .i 600, .i 650, .i 803, .i 806] 0 3 = exD.rounds.map eSpan := rfl
theorem exRows2 : chunk 2 [.i 400, .i 404, .i 600, .i 650, .i 800, .i 808] 0 3 = exD2.rounds.map eSpan := rfl
theorem exE : (⟨exD.bolts, exD.gores, 5, exD.rounds, exD.widths, 50⟩ : Dome) = exD := rfl
theorem exE2 : (⟨exD.bolts, exD.gores, 5, exD2.rounds, exD.widths, 50⟩ : Dome) = exD2 := rfl
theorem exLen : exD.rounds.length = 3 := rfl
theorem O44 : OwnCall Try.prog 44 [] (.ag exCs) exHp := by
  refine own_body okQ hmix Try.func44 cb44 cc44 cs44 cn44 ?_
  simp only [rc44, rs44, exCs, exHp, exD, List.flatten_cons, List.flatten_nil, ru_reg, ru_seq, ru_ret, ru_keep, chunk1, putB, endO, thenQ, run_nil, run_cons, Fam.step, stepQ, stepW, needW, putB, nv, sv, evO, opv, qv, ldV, foldParts, putAt, partsOk, partsOne, V.cells, solid, cellOk, hasRef, hasRefL, upd_some, upd_none, lkp_cons, lkp_nil, ↓reduceIte, Nat.reduceEqDiff, Nat.reduceAdd, Nat.reduceMul, Nat.reduceLeDiff, List.map_cons, List.map_nil, List.all_cons, List.all_nil, List.length_cons, List.length_nil, List.drop_succ_cons, List.drop_zero, List.drop_nil, List.take_succ_cons, List.take_zero, List.take_nil, List.cons_append, List.nil_append, List.append_nil, List.getElem?_cons_zero, List.set_cons_zero, List.replicate_zero, List.replicate_succ, rvs, rv1, resV, vw_i, vw_z, vw_sl, vw_ag, zipA, Nat.zero_add, Bool.and_self, Bool.or_false, true_and, and_self, reduceCtorEq, not_false_eq_true, ne_eq, eStrip, eBolt, eI]
  exact ⟨rfl, rfl⟩
theorem O26 (d : Dome) (h : pitchE d true = 0) : OwnCall Try.prog 26 [.ag (eDome d)] (.tp [.rf 0 (looseTo d d.widths.length).length 0 (looseTo d d.widths.length).length 1, .i 0]) [.cells (looseTo d d.widths.length).length ((looseTo d d.widths.length).map eI).flatten] := by
  refine own_body okP hmix Try.func26 cb26 cc26 cs26 cn26 ?_
  simp only [rc26, rs26, gP45, pitchV, h, ru_skip, ru_reg, ru_seq, ru_cnd, ru_block, ru_keep, ru_own, thenQ, run_nil, run_cons, Fam.step, stepQ, evO, opv, qv, binV, ldV, lenV, callV, V.cells, solid, hasRef, hasRefL, flat, flatL, upd_some, lkp_cons, lkp_nil, ↓reduceIte, Nat.reduceEqDiff, Nat.reduceAdd, Nat.reduceLT, Nat.reduceLeDiff, List.map_cons, List.map_nil, List.length_cons, List.length_nil, List.drop_succ_cons, List.drop_zero, List.take_succ_cons, List.take_nil, List.headD_cons, List.cons_append, List.nil_append, List.append_nil, List.getElem?_cons_zero, List.getElem?_cons_succ, Option.getD_some, vw_i, vw_b, vw_sl, vw_ag, zipA, Nat.zero_add, Bool.and_self, Bool.and_true, Bool.or_false, Bool.not_true, Bool.false_eq_true, decide_true, true_and, and_self, imp_self, List.length_map, domeE, eDome, eTent]
  obtain ⟨hg, _⟩ := pitchE_zero h
  have hnr := hg.v.nr
  have hnw := hg.v.nw
  refine ru_count d.widths.length (fun i => ⟨lkp [(4, .pa (eTent (tentOf d))), (6, .rf 0 (looseTo d i).length 0 (looseTo d i).length 1), (18, .sl 1 (d.widths.map eI)), (19, .i d.widths.length), (20, .i i)], [.cells (looseTo d i).length ((looseTo d i).map eI).flatten]⟩) ?_ ?_ ?_
  · simp only [Int.natCast_zero, tentOf, eTent, looseTo, List.filter_nil, List.flatten_nil, kp, lkp_cons, lkp_nil, ↓reduceIte, Nat.reduceEqDiff, List.map_cons, List.map_nil, List.length_nil, List.take_zero, List.cons_append, List.nil_append, ne_eq, eDome, eTent]
  · intro i hi
    obtain ⟨x, hx⟩ : ∃ x, d.widths[i]? = some x := ⟨_, List.getElem?_eq_getElem hi⟩
    have hxw : widthAt d i = x := by simp [widthAt, hx]
    have hrow : isRow d i = true := by simp only [isRow, within, Bool.and_eq_true, decide_eq_true_eq]; omega
    have h47 := hg.ok47 hrow (w := x) (hg.v.widths x (List.mem_of_getElem? hx))
    have hlt : (i : Int) < d.widths.length := by omega
    have h3 : inI ((i : Int) + 1) := by unfold inI; omega
    have hget : (ints 0 ((d.widths.length : Int) - 1))[i]? = some (i : Int) := by rw [ints_get (by omega)]; simp
    have hs : looseTo d (i + 1) = looseTo d i ++ (if decide (tightOf (tentOf d) i (widthAt d i) ≠ 1) then [(i : Int)] else []) := filter_snoc _ hget
    have hll : (looseTo d i).length ≤ i := Nat.le_trans (List.length_filter_le _ _) (List.length_take_le _ _)
    rw [hxw] at hs
    unfold tentOf at hs h47
    simp only [hlt, h3, hx, eTent, tentOf, gP47, h47, hs, Int.natCast_add, Int.natCast_one, ru_skip, ru_reg, ru_seq, ru_cnd, ite_P, ru_block, ru_keep, chunk1, putB, thenQ, blockQ, run_nil, run_cons, Fam.step, stepQ, stepW, needW, putB, nv, sv, newsV, evO, opv, qv, binV, ldV, iadV, callV, foldParts, putAt, partsOk, partsOne, V.cells, solid, cellOk, hasRef, hasRefL, flat, kp, upd_some, lkp_cons, lkp_nil, ↓reduceIte, Nat.reduceEqDiff, Nat.reduceMul, Nat.reduceLT, Nat.reduceLeDiff, List.map_cons, List.map_nil, List.all_cons, List.all_nil, List.length_cons, List.length_nil, List.take_succ_cons, List.take_zero, List.headD_cons, List.cons_append, List.nil_append, List.append_nil, List.getElem?_cons_zero, Option.getD_some, List.set_cons_zero, List.replicate_zero, List.replicate_succ, vw_i, vw_pa, Int.natCast_nonneg, Nat.zero_add, Bool.and_self, Bool.or_false, Bool.false_eq_true, decide_true, decide_eq_true_eq, decide_eq_false_iff_not, true_and, and_self, implies_true, reduceCtorEq, not_false_eq_true, ne_eq, Option.map_some, Bool.not_eq_true', List.length_map, Int.toNat_natCast, List.getD_eq_getElem?_getD, List.getElem?_map, Classical.not_not, domeE, eDome, eI, eTent]
    refine ⟨fun he => ?_, fun he => ?_⟩
    · simp only [he, len_I, List.length_append, List.map_append, List.flatten_append, List.flatten_cons, List.flatten_nil, Nat.mul_one, ↓reduceIte, List.map_cons, List.map_nil, List.length_cons, List.length_nil, List.append_nil, Nat.zero_add, true_and, and_true, not_false_eq_true, eI]
      unfold fitsLen; omega
    · simp only [he, ↓reduceIte, List.append_nil, not_true_eq_false]
  · simp only [ru_reg, ru_seq, ru_cnd, ru_exit, ru_ret, ru_keep, endO, thenQ, blockQ, run_nil, run_cons, Fam.step, stepQ, evO, opv, qv, binV, ldV, upd_some, lkp_cons, lkp_nil, ↓reduceIte, Nat.reduceEqDiff, List.map_cons, List.map_nil, List.cons_append, List.nil_append, rvs, rv1, resV, Int.lt_irrefl, Bool.false_eq_true, decide_false, and_self, eDome, eTent]
noncomputable def v26 (d : Dome) : V := .tp [.rf 0 (looseTo d d.widths.length).length 0 (looseTo d d.widths.length).length 1, .i 0]
noncomputable def h26 (d : Dome) : List Blk := [.cells (looseTo d d.widths.length).length ((looseTo d d.widths.length).map eI).flatten]
theorem h26_vB (d : Dome) : ((h26 d).map bV).map vB = h26 d := by simp [h26, bV, vB]
noncomputable def r26o : List V → Prop × V := fnG (fun d => [.ag (eDome d)]) dD (fun d => pitchE d true = 0) (fun d => d) (fun d => .tp [v26 d, .tp ((h26 d).map bV)])
def r23 : List V → Prop × V := fnG eDN dDN (fun a => a.1.rounds.length < 1000) (fun a => roundR a.1 a.2) eSE
noncomputable def r17 : List V → Prop × V := fnG eDN dDN (fun a => a.1.rounds.length < 1000) (fun a => tightR a.1 a.2) eNE
def r19 : List V → Prop × V := fnG eDN dDN (fun a => a.1.rounds.length < 1000) (fun a => cutR a.1 a.2) eSE
noncomputable def r26 : List V → Prop × V := fnG (fun d => [.ag (eDome d)]) dD (fun _ => True) looseR eLE
def r31 : List V → Prop × V := fnG (fun d => [.ag (eDome d)]) dD (fun _ => True) leastR eNE
def r36 : List V → Prop × V := fnG eDN dDN (fun a => a.1.bolts.length < 1000) (fun a => stretchesR a.1 a.2) eLE
def eLL (a : List Int × List Int) : List V := [.sl 1 (a.1.map eI), .sl 1 (a.2.map eI)]
def dLL : List V → List Int × List Int | [.sl _ x, .sl _ y] => (x.map dI, y.map dI) | _ => ([], [])
theorem dLL_e (a : List Int × List Int) : dLL (eLL a) = a := by simp [dLL, eLL, Function.comp_def, dI_eI]
def r28 : List V → Prop × V := fnG eLL dLL (fun a => a.1.length < 10000000) (fun a => decide (a.1 = a.2)) .b
def eSN (a : Span × Int) : List V := [.ag (eSpan a.1), .i a.2]
def dSN : List V → Span × Int | [.ag s, .i n] => (dSpan s, n) | _ => (⟨0, 0⟩, 0)
def r20 : List V → Prop × V := fnG eSN dSN (fun _ => True) (fun a => within a.2 a.1.low a.1.high) .b
def eLN (a : List Int × Int) : List V := [.sl 1 (a.1.map eI), .i a.2]
def dLN : List V → List Int × Int | [.sl _ x, .i y] => (x.map dI, y) | _ => ([], 0)
theorem dLN_e (a : List Int × Int) : dLN (eLN a) = a := by simp [dLN, eLN, Function.comp_def, dI_eI]
def r37 : List V → Prop × V := fnG eLN dLN (fun a => a.1.length < 10000000) (fun a => decide (a.2 ∈ a.1)) .b
def r44o : List V → Prop × V := fnG (fun _ : Unit => []) (fun _ => ()) (fun _ => True) (fun a => a) (fun _ => .tp [.ag exCs, .tp (exHp.map bV)])
theorem ex_vB : (exHp.map bV).map vB = exHp := by simp [exHp, exCs, bV, vB]
noncomputable def GR : Gam := ((((((((((GQ.ext 23 r23).ext 17 r17).ext 19 r19).ext 26 r26).ext 31 r31).ext 36 r36).ext 28 r28).ext 20 r20).ext 37 r37).ext 1000044 r44o).ext 1000026 r26o
theorem okR : GOk Try.prog GR := by
  have k1 := okQ.ext (f := 23) (r := r23) (fun a w => Try.call23 a w) (fnG_ok fun a h => P23 a.1 a.2 h)
  have k2 := k1.ext (f := 17) (r := r17) (fun a w => Try.call17 a w) (fnG_ok fun a h => P17 a.1 a.2 h)
  have k3 := k2.ext (f := 19) (r := r19) (fun a w => Try.call19 a w) (fnG_ok fun a h => P19 a.1 a.2 h)
  have k4 := k3.ext (f := 26) (r := r26) (fun a w => Try.call26 a w) (fnG_ok fun a _ => P26 a)
  have k5 := k4.ext (f := 31) (r := r31) (fun a w => Try.call31 a w) (fnG_ok fun a _ => P31 a)
  have k6 := k5.ext (f := 36) (r := r36) (fun a w => Try.call36 a w) (fnG_ok fun a h => P36 a.1 a.2 h)
  have k7 := k6.ext (f := 28) (r := r28) (fun a w => Try.call28 a w) (fnG_ok fun a h => P28 a.1 a.2 h)
  have k8 := k7.ext (f := 20) (r := r20) (fun a w => Try.call20 a w) (fnG_ok fun a _ => P20 a.1 a.2)
  have k9 := k8.ext (f := 37) (r := r37) (fun a w => Try.call37 a w) (fnG_ok fun a h => P37 a.1 a.2 h)
  have k10 := k9.extO (f := 44) (r := r44o) (fun a w => Try.call44 a w) (fnO_ok (hp := fun _ => exHp) (fun _ => ex_vB) fun _ _ => O44)
  exact k10.extO (f := 26) (r := r26o) (fun a w => Try.call26 a w) (fnO_ok (hp := h26) h26_vB fun d h => O26 d h)
theorem gR23 (b : List Bolt) (g : List Int) (l : Int) (r : List Span) (w : List Int) (s : Int) (n : Int) : GR 23 [.ag [.sl 4 (b.map eBolt), .sl 1 (g.map eI), .i l, .sl 2 (r.map eSpan), .sl 1 (w.map eI), .i s], .i n] = (r.length < 1000, eSE (roundR ⟨b, g, l, r, w, s⟩ n)) :=
  (show GR 23 _ = r23 (eDN (⟨b, g, l, r, w, s⟩, n)) from rfl).trans (fnG_at _ (dDN_e _))
theorem gR17 (b : List Bolt) (g : List Int) (l : Int) (r : List Span) (w : List Int) (s : Int) (n : Int) : GR 17 [.ag [.sl 4 (b.map eBolt), .sl 1 (g.map eI), .i l, .sl 2 (r.map eSpan), .sl 1 (w.map eI), .i s], .i n] = (r.length < 1000, eNE (tightR ⟨b, g, l, r, w, s⟩ n)) :=
  (show GR 17 _ = r17 (eDN (⟨b, g, l, r, w, s⟩, n)) from rfl).trans (fnG_at _ (dDN_e _))
theorem gR19 (b : List Bolt) (g : List Int) (l : Int) (r : List Span) (w : List Int) (s : Int) (n : Int) : GR 19 [.ag [.sl 4 (b.map eBolt), .sl 1 (g.map eI), .i l, .sl 2 (r.map eSpan), .sl 1 (w.map eI), .i s], .i n] = (r.length < 1000, eSE (cutR ⟨b, g, l, r, w, s⟩ n)) :=
  (show GR 19 _ = r19 (eDN (⟨b, g, l, r, w, s⟩, n)) from rfl).trans (fnG_at _ (dDN_e _))
theorem gR36 (b : List Bolt) (g : List Int) (l : Int) (r : List Span) (w : List Int) (s : Int) (n : Int) : GR 36 [.ag [.sl 4 (b.map eBolt), .sl 1 (g.map eI), .i l, .sl 2 (r.map eSpan), .sl 1 (w.map eI), .i s], .i n] = (b.length < 1000, eLE (stretchesR ⟨b, g, l, r, w, s⟩ n)) :=
  (show GR 36 _ = r36 (eDN (⟨b, g, l, r, w, s⟩, n)) from rfl).trans (fnG_at _ (dDN_e _))
theorem gR31 (b : List Bolt) (g : List Int) (l : Int) (r : List Span) (w : List Int) (s : Int) : GR 31 [.ag [.sl 4 (b.map eBolt), .sl 1 (g.map eI), .i l, .sl 2 (r.map eSpan), .sl 1 (w.map eI), .i s]] = (True, eNE (leastR ⟨b, g, l, r, w, s⟩)) :=
  (show GR 31 _ = r31 [.ag (eDome ⟨b, g, l, r, w, s⟩)] from rfl).trans (fnG_at (e := fun d => [.ag (eDome d)]) _ (dDome_e _))
theorem gR28 (a b : List Int) : GR 28 [.sl 1 (a.map eI), .sl 1 (b.map eI)] = (a.length < 10000000, .b (decide (a = b))) := (show GR 28 _ = r28 (eLL (a, b)) from rfl).trans (fnG_at _ (dLL_e _))
theorem gR37 (a : List Int) (n : Int) : GR 37 [.sl 1 (a.map eI), .i n] = (a.length < 10000000, .b (decide (n ∈ a))) := (show GR 37 _ = r37 (eLN (a, n)) from rfl).trans (fnG_at _ (dLN_e _))
theorem gR44 : GR 1000044 [] = (True, .tp [.ag exCs, .tp (exHp.map bV)]) := (show GR 1000044 _ = r44o [] from rfl).trans (by simp [r44o, fnG])
theorem gR26o (b : List Bolt) (g : List Int) (l : Int) (r : List Span) (w : List Int) (s : Int) : GR 1000026 [.ag [.sl 4 (b.map eBolt), .sl 1 (g.map eI), .i l, .sl 2 (r.map eSpan), .sl 1 (w.map eI), .i s]] = (pitchE ⟨b, g, l, r, w, s⟩ true = 0, .tp [v26 ⟨b, g, l, r, w, s⟩, .tp ((h26 ⟨b, g, l, r, w, s⟩).map bV)]) :=
  (show GR 1000026 _ = r26o [.ag (eDome ⟨b, g, l, r, w, s⟩)] from rfl).trans (fnG_at (e := fun d => [.ag (eDome d)]) _ (dDome_e _))
theorem ex_round : roundR exD 2 = (⟨802, 808⟩, 0) := by kernel_rfl
theorem ex_cut : cutR exD 1 = (⟨160, 171⟩, 0) := by kernel_rfl
theorem ex_least : leastR exD2 = (480, 0) := by kernel_rfl
theorem ex_tight1 : tightOf (tentOf exD) 1 165 = 1 := by
  unfold tightOf
  rw [if_pos (of_decide_eq_true (by kernel_rfl))]
theorem ex_tight0 : tightOf (tentOf exD) 0 110 = 1 := by
  unfold tightOf
  rw [if_pos (of_decide_eq_true (by kernel_rfl))]
theorem ex_tight2 : tightOf (tentOf exD) 2 210 ≠ 1 := by
  unfold tightOf
  rw [if_neg (of_decide_eq_true (by kernel_rfl))]
  split <;> decide
theorem ex_tight : tightR exD 1 = (1, 0) := by
  unfold tightR
  rw [if_pos (by kernel_rfl)]
  rw [show widthAt exD 1 = 165 from by kernel_rfl, ex_tight1]
theorem ex_loose : looseR exD = ([2], 0) := by
  unfold looseR
  rw [if_pos (by kernel_rfl)]
  unfold looseTo
  rw [show ((ints 0 ((exD.widths.length : Int) - 1)).take exD.widths.length) = [0, 1, 2] from by kernel_rfl]
  have w0 : widthAt exD 0 = 110 := by kernel_rfl
  have w1 : widthAt exD 1 = 165 := by kernel_rfl
  have w2 : widthAt exD 2 = 210 := by kernel_rfl
  simp [List.filter, w0, w1, w2, ex_tight0, ex_tight1, ex_tight2]
theorem ex_looseTo : looseTo exD exD.widths.length = [2] := by
  have := ex_loose
  unfold looseR at this
  rw [if_pos (by kernel_rfl)] at this
  exact (Prod.mk.inj this).1
theorem g28ex : GR 28 [.sl 1 [[.i 2]], .sl 1 [[.i 2]]] = (True, .b true) := (gR28 [2] [2]).trans (by simp)
theorem ex_p : pitchE exD true = 0 := by kernel_rfl
set_option maxRecDepth 20000 in
set_option maxHeartbeats 4000000 in
theorem P16 : PureCall Try.prog 16 [] (.b true) := by
  refine pure_body okR hmix Try.func16 cb16 cc16 cs16 cn16 ?_
  simp only [rc16, rs16, gR44, exCs, exHp, vw_S, ↓exRows, ↓exRows2, exE, exE2, exLen, gR23, gR17, gR19, gR26o, gR31, ex_round, ex_tight, ex_cut, ex_looseTo, ex_p, ex_least, v26, h26, g28ex, eqSpan, Bool.false_xor, eSE, eNE, List.flatten_cons, List.flatten_nil, ru_reg, ru_seq, ru_ret, ru_keep, chunk1, stepO, ocV, nidQ, plO, plQ, plB, rflat, rflatL, rflatB, shV, shL, shB, vB_cells, putB, thenQ, run_nil, run_cons, Fam.step, stepQ, stepW, needQ, needW, condB, ug, putB, nv, sv, evO, opv, qv, pickV_bb, binV, ldV, iadV, curG, callV, foldParts, putAt, partsOk, partsOne, V.cells, solid, cellOk, intsOf, hasRef, hasRefL, flat, flatL, upd_some, upd_none, lkp_cons, lkp_nil, ↓reduceIte, Nat.reduceEqDiff, Nat.reduceAdd, Nat.reduceMul, Nat.reduceLT, Nat.reduceLeDiff, Int.reduceToNat, Int.reduceLE, List.map_cons, List.map_nil, List.all_cons, List.all_nil, List.length_cons, List.length_nil, List.drop_succ_cons, List.drop_zero, List.drop_nil, List.take_succ_cons, List.take_zero, List.take_nil, List.headD_cons, List.cons_append, List.nil_append, List.append_nil, List.getElem?_cons_zero, List.getElem?_cons_succ, Option.getD_some, List.set_cons_zero, List.set_cons_succ, List.replicate_zero, List.replicate_succ, endQ, rvs, rv1, resV, vw_i, vw_b, vw_sl, vw_ag, vw_rf, zipA, beq_self_eq_true, Nat.zero_add, Nat.add_zero, Bool.and_self, Bool.and_true, Bool.and_false, Bool.or_false, Bool.or_true, Bool.not_true, Bool.not_false, Bool.false_eq_true, Bool.true_eq_false, decide_true, true_and, and_true, and_self, forall_const, implies_true, reduceCtorEq, not_false_eq_true, ne_eq, Option.map_some, eSpan, eI]
  decide
end Go.C02
set_option linter.unusedSimpArgs false
set_option linter.unusedVariables false
namespace Go.C02
open Go.Fam Go.Proofs
def bigs (d : Dome) : Bool := decide ((20 : Int) < d.bolts.length) || decide ((60 : Int) < d.gores.length) || decide ((60 : Int) < d.rounds.length) || decide ((60 : Int) < d.widths.length)
def manyTo (d : Dome) (k : Nat) : Int := (d.bolts.take k).foldl (fun m b => m * (numbersOf b).length) 1
theorem manyTo_succ {d : Dome} {k : Nat} {b : Bolt} (h : d.bolts[k]? = some b) : manyTo d (k + 1) = manyTo d k * (numbersOf b).length := by
  simp [manyTo, take_succ_of h]
def far (d : Dome) : Bool :=
  if bigs d then true else if d.bolts.any (fun b => decide ((60 : Int) < b.strips.length)) then true else if check d ≠ 0 then false
  else decide ((49 : Int) < manyTo d d.bolts.length) || decide ((8 : Int) < d.gores.length) || decide ((4 : Int) < d.rounds.length)
theorem manyTo_range {d : Dome} (hv : Valid d) : ∀ k : Nat, k ≤ 4 → 0 ≤ manyTo d k ∧ manyTo d k ≤ 61 ^ k
  | 0, _ => by simp [manyTo]
  | k + 1, hk => by
    have h1 := manyTo_range hv k (by omega)
    cases hb : d.bolts[k]? with
    | none =>
      have : manyTo d (k + 1) = manyTo d k := by
        have hl := List.getElem?_eq_none_iff.1 hb
        simp [manyTo, List.take_of_length_le hl, List.take_of_length_le (Nat.le_trans hl (Nat.le_succ k))]
      rw [this]
      refine ⟨h1.1, Int.le_trans h1.2 ?_⟩
      exact_mod_cast Nat.pow_le_pow_right (by decide : 0 < 61) (Nat.le_succ k)
    | some b =>
      rw [manyTo_succ hb]
      have h2 := numbersOf_len (hv.bolts b (List.mem_of_getElem? hb))
      refine ⟨Int.mul_nonneg h1.1 (by omega), ?_⟩
      rw [Int.pow_succ]
      exact Int.mul_le_mul h1.2 (by omega) (by omega) (by exact_mod_cast Nat.zero_le (61 ^ k))
theorem gR39 (b : List Bolt) (g : List Int) (l : Int) (r : List Span) (w : List Int) (s : Int) : GR 39 [.ag [.sl 4 (b.map eBolt), .sl 1 (g.map eI), .i l, .sl 2 (r.map eSpan), .sl 1 (w.map eI), .i s]] = (True, .i (check ⟨b, g, l, r, w, s⟩)) := gJ39 ⟨b, g, l, r, w, s⟩
theorem gR49 (a b : Int) (l : List Strip) (w s : Int) : GR 49 [.ag [.i a, .i b, .sl 3 (l.map eStrip), .i w], .i s] = (ok66 l s, .b (can ⟨⟨a, b⟩, l, w⟩ s)) := gJ49 a b l w s
theorem P21 (d : Dome) : PureCall Try.prog 21 [.ag (eDome d)] (.b (far d)) := by
  refine pure_body okR hmix Try.func21 cb21 cc21 cs21 cn21 ?_
  simp only [rc21, rs21, ru_skip, ru_reg, ru_seq, ru_cnd, ite_P, ru_block, ru_ret, ru_keep, thenQ, run_nil, run_cons, Fam.step, stepQ, needQ, condB, ug, evO, opv, qv, pickV_bb, binV, ldV, lenV, V.cells, solid, hasRef, hasRefL, upd_some, lkp_cons, lkp_nil, ↓reduceIte, Nat.reduceEqDiff, Nat.reduceAdd, Nat.reduceLeDiff, List.map_cons, List.map_nil, List.all_cons, List.all_nil, List.length_cons, List.length_nil, List.drop_succ_cons, List.drop_zero, List.headD_cons, endQ, rvs, rv1, resV, vw_i, vw_b, vw_sl, vw_ag, zipA, Nat.zero_add, V.b.injEq, Bool.and_self, Bool.and_true, Bool.or_false, Bool.false_eq_true, decide_eq_true_eq, decide_eq_false_iff_not, true_and, and_true, and_self, implies_true, beq_false, Bool.not_eq_true', ite_t, Bool.decide_eq_true, imp_self, List.length_map, Bool.not_eq_true, eDome]
  refine ⟨fun h => ?_, fun h => ?_⟩
  · have : bigs d = true := h
    simp [far, this]
  have hbig : bigs d = false := h
  have hlen : d.bolts.length ≤ 20 := by
    simp only [bigs, Bool.or_eq_false_iff, decide_eq_false_iff_not] at hbig
    omega
  refine ru_countC d.bolts.length (fun i => ⟨lkp [(1, .pa (eDome d)), (3, .i i)], []⟩) (fun i => (d.bolts.take i).any (fun b => decide ((60 : Int) < b.strips.length)) = false) ?_ ?_ ?_ ?_
  · simp only [Int.natCast_zero, kp, lkp_cons, lkp_nil, ↓reduceIte, Nat.reduceEqDiff, List.map_cons, List.map_nil, eDome]
  · rfl
  · intro i hi hC
    obtain ⟨b, hb⟩ : ∃ b, d.bolts[i]? = some b := ⟨_, List.getElem?_eq_getElem hi⟩
    have hlt : (i : Int) < d.bolts.length := by omega
    have h3 : inI ((i : Int) + 1) := by unfold inI; omega
    simp only [hb, hlt, h3, Int.natCast_add, Int.natCast_one, ru_skip, ru_reg, ru_seq, ru_cnd, ite_P, ru_block, ru_ret, ru_keep, thenQ, blockQ, run_nil, run_cons, Fam.step, stepQ, evO, opv, qv, binV, ldV, iadV, lenV, kp, upd_some, lkp_cons, lkp_nil, ↓reduceIte, Nat.reduceEqDiff, Nat.reduceAdd, Nat.reduceLeDiff, List.map_cons, List.map_nil, List.length_cons, List.length_nil, List.drop_succ_cons, List.drop_zero, List.headD_cons, Option.getD_some, endQ, rvs, rv1, resV, vw_b, Int.natCast_nonneg, Nat.zero_add, V.b.injEq, Bool.false_eq_true, decide_true, decide_eq_true_eq, true_and, and_true, and_self, Option.map_some, List.length_map, Int.toNat_natCast, List.getD_eq_getElem?_getD, List.getElem?_map, eBolt, eDome]
    refine ⟨fun h60 => ?_, fun h60 => ?_⟩
    · have : d.bolts.any (fun b => decide ((60 : Int) < b.strips.length)) = true := List.any_eq_true.2 ⟨b, List.mem_of_getElem? hb, by simpa using h60⟩
      simp [far, hbig, this]
    · rw [take_succ_of hb, List.any_append, hC]
      simp; omega
  · intro hC
    rw [List.take_length] at hC
    simp only [gR39, ru_skip, ru_reg, ru_seq, ru_cnd, ite_P, ru_block, ru_exit, ru_ret, ru_keep, thenQ, blockQ, run_nil, run_cons, Fam.step, stepQ, evO, opv, qv, binV, ldV, lenV, callV, hasRef, hasRefL, flat, upd_some, lkp_cons, lkp_nil, ↓reduceIte, Nat.reduceEqDiff, Nat.reduceAdd, Nat.reduceLT, Nat.reduceLeDiff, List.map_cons, List.map_nil, List.length_cons, List.length_nil, List.drop_zero, List.take_succ_cons, List.take_nil, List.headD_cons, List.append_nil, endQ, rvs, rv1, resV, vw_i, vw_b, vw_sl, vw_ag, Int.lt_irrefl, Nat.zero_add, V.b.injEq, Bool.or_false, Bool.false_eq_true, decide_false, decide_eq_false_iff_not, true_and, and_self, implies_true, Bool.not_eq_true', List.length_map, Classical.not_not, domeE, eDome]
    refine ⟨fun hc => ?_, fun hc => ?_⟩
    · simp [far, hbig, hC, hc]
    have hv := valid_of hc
    have hnb := hv.nb
    refine ru_count d.bolts.length (fun i => ⟨lkp [(1, .pa (eDome d)), (4, .i (manyTo d i)), (5, .i i)], []⟩) ?_ ?_ ?_
    · simp only [Int.natCast_zero, manyTo, List.foldl_nil, List.foldl_nil, kp, lkp_cons, lkp_nil, ↓reduceIte, Nat.reduceEqDiff, List.map_cons, List.map_nil, List.take_zero, eDome]
    · intro i hi
      obtain ⟨b, hb⟩ : ∃ b, d.bolts[i]? = some b := ⟨_, List.getElem?_eq_getElem hi⟩
      have hlt : (i : Int) < d.bolts.length := by omega
      have h3 : inI ((i : Int) + 1) := by unfold inI; omega
      have hvb := hv.bolts b (List.mem_of_getElem? hb)
      have hst := hvb.st
      simp only [hb, hlt, Int.natCast_add, Int.natCast_one, ru_skip, ru_reg, ru_seq, ru_cnd, ru_block, ru_keep, thenQ, run_nil, run_cons, Fam.step, stepQ, evO, opv, qv, binV, ldV, iadV, lenV, kp, upd_some, lkp_cons, lkp_nil, ↓reduceIte, Nat.reduceEqDiff, Nat.reduceAdd, Nat.reduceLeDiff, List.map_cons, List.map_nil, List.length_cons, List.length_nil, List.drop_zero, List.headD_cons, Option.getD_some, Int.natCast_nonneg, Nat.zero_add, Bool.false_eq_true, decide_true, true_and, and_self, Option.map_some, List.length_map, Int.toNat_natCast, List.getD_eq_getElem?_getD, List.getElem?_map, eBolt, eDome]
      refine ru_count (b.stretch.high + 1 - b.stretch.low).toNat (fun k => ⟨lkp [(1, .pa (eDome d)), (4, .i (manyTo d i)), (5, .i i), (6, .i (numbersTo b k).length), (7, .i (b.stretch.low + k))], []⟩) ?_ ?_ ?_
      · simp only [Int.natCast_zero, Int.add_zero, numbersTo, List.filter_nil, kp, lkp_cons, lkp_nil, ↓reduceIte, Nat.reduceEqDiff, List.map_cons, List.map_nil, List.length_nil, List.take_zero, eDome]
      · intro k hk
        have hlt2 : b.stretch.low + (k : Int) ≤ b.stretch.high := by omega
        have h4 : inI (b.stretch.low + (k : Int) + 1) := by unfold inI; omega
        have h5 := hvb.ok66 (s := b.stretch.low + k) (by omega)
        have h6 := numbersTo_len b k
        have h7 : inI (((numbersTo b k).length : Int) + 1) := by unfold inI; omega
        rw [Int.add_assoc] at h4
        simp only [hb, hlt, hlt2, h4, h5, h7, gR49, numbersTo_succ hk, Int.natCast_add, Int.natCast_one, Int.add_assoc, ru_skip, ru_reg, ru_seq, ru_cnd, ite_P, ru_block, ru_keep, thenQ, blockQ, run_nil, run_cons, Fam.step, stepQ, evO, opv, qv, binV, ldV, iadV, callV, hasRef, hasRefL, flat, kp, upd_some, lkp_cons, lkp_nil, ↓reduceIte, Nat.reduceEqDiff, Nat.reduceAdd, Nat.reduceLT, Nat.reduceLeDiff, List.map_cons, List.map_nil, List.length_cons, List.length_nil, List.drop_succ_cons, List.drop_zero, List.take_succ_cons, List.take_nil, List.headD_cons, List.append_nil, Option.getD_some, vw_i, vw_sl, vw_ag, Int.natCast_nonneg, Nat.zero_add, Bool.or_false, Bool.false_eq_true, decide_true, true_and, and_self, implies_true, Option.map_some, List.length_map, Int.toNat_natCast, List.getD_eq_getElem?_getD, List.getElem?_map, Bool.not_eq_true, spanE, boltE, eBolt, eDome]
        refine ⟨fun h => ?_, fun h => ?_⟩
        · simp only [h, List.length_append, Int.natCast_add, Int.natCast_one, ↓reduceIte, List.length_cons, List.length_nil, Nat.zero_add]
        · simp only [h, ↓reduceIte, List.append_nil, Bool.false_eq_true]
      · have hgt : ¬ (b.stretch.low + ((b.stretch.high + 1 - b.stretch.low).toNat : Int) ≤ b.stretch.high) := by omega
        have hm := manyTo_range hv (i + 1) (by omega)
        have hp : (61 : Int) ^ (i + 1) ≤ 61 ^ 4 := by exact_mod_cast Nat.pow_le_pow_right (by decide : 0 < 61) (show i + 1 ≤ 4 by omega)
        rw [manyTo_succ hb] at hm
        have h8 : inI (manyTo d i * (numbersOf b).length) := by unfold inI; omega
        simp only [hb, hlt, hgt, numbersTo_all, h8, h3, manyTo_succ hb, ru_reg, ru_seq, ru_cnd, ru_exit, ru_keep, thenQ, blockQ, run_nil, run_cons, Fam.step, stepQ, evO, opv, qv, binV, ldV, iadV, upd_some, lkp_cons, lkp_nil, ↓reduceIte, Nat.reduceEqDiff, Nat.reduceAdd, Nat.reduceLeDiff, List.map_cons, List.map_nil, List.length_cons, List.length_nil, List.drop_succ_cons, List.drop_zero, List.headD_cons, Option.getD_some, Int.natCast_nonneg, Nat.zero_add, Bool.false_eq_true, decide_false, and_self, Option.map_some, List.length_map, Int.toNat_natCast, List.getD_eq_getElem?_getD, List.getElem?_map, eBolt, eDome]
    · simp only [ru_reg, ru_seq, ru_cnd, ru_exit, ru_ret, ru_keep, thenQ, blockQ, run_nil, run_cons, Fam.step, stepQ, needQ, condB, ug, evO, opv, qv, pickV_bb, binV, ldV, lenV, upd_some, lkp_cons, lkp_nil, ↓reduceIte, Nat.reduceEqDiff, Nat.reduceAdd, Nat.reduceLeDiff, List.map_cons, List.map_nil, List.all_cons, List.all_nil, List.length_cons, List.length_nil, List.drop_succ_cons, List.drop_zero, List.headD_cons, endQ, rvs, rv1, resV, vw_b, Int.lt_irrefl, Nat.zero_add, V.b.injEq, Bool.and_self, Bool.and_true, Bool.false_eq_true, decide_false, decide_eq_true_eq, decide_eq_false_iff_not, true_and, and_true, and_self, implies_true, beq_false, Bool.not_eq_true', ite_t, Bool.decide_eq_true, imp_self, List.length_map, eDome]
      simp [far, hbig, hC, hc]
def r21 : List V → Prop × V := fnG (fun d => [.ag (eDome d)]) dD (fun _ => True) far .b
def r16 : List V → Prop × V := fnG (fun _ : Unit => []) (fun _ => ()) (fun _ => True) (fun _ => true) .b
noncomputable def GS : Gam := (GR.ext 21 r21).ext 16 r16
theorem okS : GOk Try.prog GS := by
  have k1 := okR.ext (f := 21) (r := r21) (fun a w => Try.call21 a w) (fnG_ok fun a _ => P21 a)
  exact k1.ext (f := 16) (r := r16) (fun a w => Try.call16 a w) (fnG_ok fun _ _ => P16)
theorem gS21 (b : List Bolt) (g : List Int) (l : Int) (r : List Span) (w : List Int) (s : Int) : GS 21 [.ag [.sl 4 (b.map eBolt), .sl 1 (g.map eI), .i l, .sl 2 (r.map eSpan), .sl 1 (w.map eI), .i s]] = (True, .b (far ⟨b, g, l, r, w, s⟩)) :=
  (show GS 21 _ = r21 [.ag (eDome ⟨b, g, l, r, w, s⟩)] from rfl).trans (fnG_at (e := fun d => [.ag (eDome d)]) _ (dDome_e _))
theorem gS39 (b : List Bolt) (g : List Int) (l : Int) (r : List Span) (w : List Int) (s : Int) : GS 39 [.ag [.sl 4 (b.map eBolt), .sl 1 (g.map eI), .i l, .sl 2 (r.map eSpan), .sl 1 (w.map eI), .i s]] = (True, .i (check ⟨b, g, l, r, w, s⟩)) := gR39 b g l r w s
theorem gS16 : GS 16 [] = (True, .b true) := (show GS 16 _ = r16 [] from rfl).trans (by simp [r16, fnG])
theorem gS22o (b : List Bolt) (g : List Int) (l : Int) (r : List Span) (w : List Int) (s : Int) : GS 1000022 [.ag [.sl 4 (b.map eBolt), .sl 1 (g.map eI), .i l, .sl 2 (r.map eSpan), .sl 1 (w.map eI), .i s]] = (Ok22 ⟨b, g, l, r, w, s⟩, .tp [copyV ⟨b, g, l, r, w, s⟩, .tp ((copyHp ⟨b, g, l, r, w, s⟩).map bV)]) :=
  (show GS 1000022 _ = r22o [.ag (eDome ⟨b, g, l, r, w, s⟩)] from rfl).trans (fnG_at (e := fun d => [.ag (eDome d)]) _ (dDome_e _))
def ready (d : Dome) (row : Int) : Bool := !far d && decide (check d = 0) && decide (0 ≤ row) && decide (row < d.rounds.length)
theorem P15 (d : Dome) (row : Int) : PureCall Try.prog 15 [.ag (eDome d), .i row] (.b (ready d row)) := by
  refine pure_body okS hmix Try.func15 cb15 cc15 cs15 cn15 ?_
  simp only [rc15, rs15, gS21, gS39, ready, ru_reg, ru_seq, ru_ret, ru_keep, thenQ, run_nil, run_cons, Fam.step, stepQ, needQ, condB, ug, evO, opv, qv, pickV_bb, binV, ldV, lenV, callV, V.cells, solid, hasRef, hasRefL, flat, upd_some, lkp_cons, lkp_nil, ↓reduceIte, Nat.reduceEqDiff, Nat.reduceAdd, Nat.reduceLT, Nat.reduceLeDiff, List.map_cons, List.map_nil, List.all_cons, List.all_nil, List.length_cons, List.length_nil, List.drop_succ_cons, List.drop_zero, List.take_succ_cons, List.take_nil, List.headD_cons, List.append_nil, endQ, rvs, rv1, resV, vw_i, vw_b, vw_sl, vw_ag, zipA, Nat.zero_add, Bool.and_self, Bool.and_true, Bool.or_false, Bool.false_eq_true, and_true, and_self, implies_true, reduceCtorEq, beq_true, Bool.not_eq_false', Bool.not_eq_true', ite_f, Bool.decide_eq_true, Bool.decide_eq_false, imp_self, List.length_map, domeE, eDome]
theorem hole_vb : vB (bV .hole) = .hole := rfl
theorem put_I {l : List Int} {k : Nat} {x : Int} (h : k < l.length) : List.take k (l.map eI).flatten ++ [V.i x] ++ List.drop (k + 1) (l.map eI).flatten = ((l.set k x).map eI).flatten := by
  have e : ∀ l : List Int, (l.map eI).flatten = l.map V.i := by
    intro l
    induction l with
    | nil => rfl
    | cons y l ih => rw [List.map_cons, List.flatten_cons, ih]; rfl
  rw [e, e, List.map_set, List.set_eq_take_append_cons_drop, if_pos (by simpa using h)]
  simp
theorem P18 (d : Dome) (row w : Int) (h : Ok22 d) (hr : 0 ≤ row ∧ row < d.widths.length) : PureCall Try.prog 18 [.ag (eDome d), .i row, .i w] (.ag (eDome { d with widths := d.widths.set row.toNat w })) := by
  refine pure_body okS hmix Try.func18 cb18 cc18 cs18 cn18 ?_
  have nb := hasRefL_flat (e := eBolt) (fun _ => rfl) d.bolts
  have hset : List.take row.toNat (d.widths.map eI).flatten ++ [V.i w] ++ List.drop (row.toNat + 1) (d.widths.map eI).flatten = ((d.widths.set row.toNat w).map eI).flatten := put_I (by omega)
  have hsl : (d.widths.set row.toNat w).length = d.widths.length := List.length_set
  have hch := chunk_I (d.widths.set row.toNat w)
  rw [hsl] at hch
  have hw1 : row.toNat + 1 ≤ d.widths.length := by omega
  simp only [rc18, rs18, gS22o, h, copyV, copyHp, copyCs, hr, hole_vb, shL_noref _ _ nb, shL_noref _ _ (noref_I _), shL_noref _ _ (noref_S _), flat_len (e := eBolt) (k := 4) (fun _ => rfl), len_I, len_S, Nat.mul_one, hset, hch, hw1, chunk_flat (e := eBolt) (k := 4) (fun _ => rfl), chunk_I, chunk_flat (e := eSpan) (k := 2) (fun _ => rfl), vw_B, vw_S, vw_I, Nat.le_refl, hsl, ru_reg, ru_seq, ru_ret, ru_keep, stepO, ocV, nidQ, plO, plQ, plB, rflat, rflatL, rflatB, shV, shL, shB, vB_cells, putB, thenQ, run_nil, run_cons, Fam.step, stepQ, stepW, needW, putB, nv, sv, evO, opv, qv, ldV, iadV, curG, putAt, V.cells, solid, cellOk, hasRef, hasRefL, upd_some, upd_none, lkp_cons, lkp_nil, ↓reduceIte, Nat.reduceEqDiff, Nat.reduceAdd, Nat.reduceLT, Nat.reduceLeDiff, List.map_cons, List.map_nil, List.all_cons, List.all_nil, List.length_cons, List.length_nil, List.drop_succ_cons, List.drop_zero, List.drop_nil, List.take_succ_cons, List.take_zero, List.take_nil, List.headD_cons, List.cons_append, List.nil_append, List.append_nil, List.getElem?_cons_zero, List.getElem?_cons_succ, List.set_cons_zero, List.set_cons_succ, endQ, rvs, rv1, resV, vw_i, vw_sl, vw_ag, vw_rf, zipA, beq_self_eq_true, Nat.zero_add, Bool.and_self, Bool.and_true, Bool.true_and, Bool.false_and, Bool.or_false, Bool.false_eq_true, and_self, reduceCtorEq, domeE, eDome]
end Go.C02
set_option linter.unusedSimpArgs false
set_option linter.unusedVariables false
namespace Go.C02
open Go.Fam Go.Proofs
def cutD (d : Dome) (row w : Int) : Dome := { d with widths := d.widths.set row.toNat w }
def eDNN (a : Dome × Int × Int) : List V := [.ag (eDome a.1), .i a.2.1, .i a.2.2]
def dDNN : List V → Dome × Int × Int | [.ag cs, .i n, .i m] => (dDome cs, n, m) | _ => (D0, 0, 0)
theorem dDNN_e (a : Dome × Int × Int) : dDNN (eDNN a) = a := by simp [dDNN, eDNN, dDome_e]
def r15 : List V → Prop × V := fnG eDN dDN (fun _ => True) (fun a => ready a.1 a.2) .b
def r18 : List V → Prop × V := fnG eDNN dDNN (fun a => Ok22 a.1 ∧ 0 ≤ a.2.1 ∧ a.2.1 < a.1.widths.length) (fun a => cutD a.1 a.2.1 a.2.2) (fun d => .ag (eDome d))
noncomputable def GT : Gam := (GS.ext 15 r15).ext 18 r18
theorem okT : GOk Try.prog GT := by
  have k1 := okS.ext (f := 15) (r := r15) (fun a w => Try.call15 a w) (fnG_ok fun a _ => P15 a.1 a.2)
  exact k1.ext (f := 18) (r := r18) (fun a w => Try.call18 a w) (fnG_ok fun a h => P18 a.1 a.2.1 a.2.2 h.1 h.2)
section
variable (b : List Bolt) (g : List Int) (l : Int) (r : List Span) (w : List Int) (s n m : Int)
theorem gT15 : GT 15 [.ag [.sl 4 (b.map eBolt), .sl 1 (g.map eI), .i l, .sl 2 (r.map eSpan), .sl 1 (w.map eI), .i s], .i n] = (True, .b (ready ⟨b, g, l, r, w, s⟩ n)) :=
  (show GT 15 _ = r15 (eDN (⟨b, g, l, r, w, s⟩, n)) from rfl).trans (fnG_at _ (dDN_e _))
end
/-! The plain law. -/
theorem sumBy_mono {l : List Int} {f g : Int → Int} (h : ∀ x ∈ l, f x ≤ g x) : sumBy l f ≤ sumBy l g := by
  unfold sumBy
  induction l with
  | nil => simp
  | cons x l ih =>
    simp only [List.map_cons, List.sum_cons]
    have := h x (by simp)
    have := ih fun y hy => h y (by simp [hy])
    omega
theorem sorted_bounds {l : List Int} (h : l.Pairwise (· < ·)) {x : Int} (hx : x ∈ l) : l.headD 0 ≤ x ∧ x ≤ l.getLastD 0 := by
  constructor
  · cases l with
    | nil => cases hx
    | cons y l =>
      rw [List.pairwise_cons] at h
      rcases List.mem_cons.1 hx with rfl | hx
      · simp
      · have := h.1 x hx; simp; omega
  · induction l generalizing x with
    | nil => cases hx
    | cons y l ih =>
      rw [List.pairwise_cons] at h
      cases l with
      | nil => simp at hx; subst hx; simp
      | cons z l =>
        have e : (y :: z :: l).getLastD 0 = (z :: l).getLastD 0 := by simp [List.getLastD_eq_getLast?, List.getLast?_cons]
        rw [e]
        rcases List.mem_cons.1 hx with rfl | hx
        · have h1 := h.1 z (by simp)
          have h2 := ih h.2 (x := z) (by simp)
          omega
        · exact ih h.2 hx
theorem ints_sorted (lo hi : Int) : (ints lo hi).Pairwise (· < ·) := by
  unfold ints
  rw [List.pairwise_map]
  exact List.Pairwise.imp (fun h => by omega) List.pairwise_lt_range
theorem goods_sorted (t : Tent) (row : Int) : (goods t row).Pairwise (· < ·) := (ints_sorted _ _).filter _
theorem canTent_low {d : Dome} (h : Good d) {g : Int} (hg : g ∈ d.gores) : 0 ≤ lowOf (tentOf d) g ∧ lowOf (tentOf d) g ≤ highOf (tentOf d) g := by
  have hgg := h.v.gores g hg
  obtain ⟨b, hb⟩ : ∃ b, d.bolts[g.toNat]? = some b := ⟨_, List.getElem?_eq_getElem (by omega)⟩
  have hbm := List.mem_of_getElem? hb
  have hc : (tentOf d).can[g.toNat]? = some (numbersOf b) := by simp [tentOf, cansOf, hb]
  have hne := h.ne b hbm
  have hs : (numbersOf b).Pairwise (· < ·) := (ints_sorted _ _).filter _
  simp only [lowOf, highOf, hc, Option.getD_some]
  have h1 := headD_mem hne
  have h2 := numbersOf_range (h.v.bolts b hbm) h1
  exact ⟨h2.1, (sorted_bounds hs h1).2⟩
theorem fits_iff {t : Tent} {row w : Int} : fits t row w = true ↔ (wantAt t.dome row).low ≤ (roundOf t w).low ∧ (roundOf t w).high ≤ (wantAt t.dome row).high := by
  unfold fits
  simp
theorem tight_one {t : Tent} {row w : Int} : tightOf t row w = 1 ↔ fits t row w = true := by
  rw [fits_iff]
  unfold tightOf
  constructor
  · intro h
    by_cases hc : (wantAt t.dome row).low ≤ (roundOf t w).low ∧ (roundOf t w).high ≤ (wantAt t.dome row).high
    · exact hc
    · rw [if_neg hc] at h
      split at h <;> omega
  · intro h
    rw [if_pos h]
theorem ready_of {d : Dome} {row : Int} (h : ready d row = true) : Valid d ∧ check d = 0 ∧ isRow d row = true ∧ 0 ≤ row ∧ row < d.rounds.length := by
  simp only [ready, Bool.and_eq_true, decide_eq_true_eq] at h
  obtain ⟨⟨⟨_, h2⟩, h3⟩, h4⟩ := h
  refine ⟨valid_of h2, h2, ?_, h3, h4⟩
  simp only [isRow, within, Bool.and_eq_true, decide_eq_true_eq]
  omega
theorem Valid.ok22 {d : Dome} (h : Valid d) : Ok22 d := by
  have := h.nb
  have := h.ng
  have := h.nr
  have := h.nw
  exact ⟨by omega, by omega, by omega, by omega, fun b hb => by have := (h.bolts b hb).n; omega⟩
theorem pitch_vals {d : Dome} (h : check d = 0) : pitchE d true = 0 ∨ pitchE d true = 3 := by
  unfold pitchE
  rw [if_neg (by simp [h])]
  by_cases hc : (cansOf d).any List.isEmpty = true <;> simp [hc]
end Go.C02
set_option linter.unusedSimpArgs false
set_option linter.unusedVariables false
namespace Go.C02
open Go.Fam Go.Proofs
def okCan (b : Bolt) (s : Int) : Prop := within s b.stretch.low b.stretch.high = true → ok66 b.strips s
theorem gT54 (n lo hi : Int) : GT 54 [.i n, .i lo, .i hi] = (True, .b (within n lo hi)) := gJ54 n lo hi
theorem gT66 (a b : Int) (l : List Strip) (w s : Int) : GT 66 [.ag [.i a, .i b, .sl 3 (l.map eStrip), .i w], .i s] = (ok66 l s, .i (falses l s)) := gJ66 a b l w s
theorem P49w (b : Bolt) (s : Int) (h : okCan b s) : PureCall Try.prog 49 [.ag (eBolt b), .i s] (.b (can b s)) := by
  refine pure_body okT hmix Try.func49 cb49 cc49 cs49 cn49 ?_
  unfold okCan at h
  simp only [rc49, rs49, gT54, gT66, ru_reg, ru_any, ru_seq, ru_ret, ru_keep, putBs, thenQ, run_nil, run_cons, Fam.step, stepQ, needQ, condB, ug, runX, eff, nextD, fpR, fpQ, fpV, disjB, hits, evO, opv, qv, pickV_bb, binV, ldV, callV, V.cells, solid, hasRef, hasRefL, flat, upd_some, lkp_cons, lkp_nil, ↓reduceIte, Nat.reduceEqDiff, Nat.reduceAdd, Nat.reduceLT, Nat.reduceLeDiff, List.map_cons, List.map_nil, List.all_cons, List.all_nil, List.length_cons, List.length_nil, List.drop_succ_cons, List.drop_zero, List.take_succ_cons, List.take_nil, List.headD_cons, List.cons_append, List.nil_append, List.append_nil, List.getElem?_nil, Option.getD_none, List.replicate_zero, List.isEmpty_nil, endQ, rvs, rv1, resV, vw_i, vw_b, vw_sl, vw_ag, zipA, Nat.zero_add, V.b.injEq, Bool.and_self, Bool.and_true, Bool.false_and, Bool.or_false, Bool.not_true, Bool.not_false, Bool.false_eq_true, true_and, and_true, and_self, implies_true, reduceCtorEq, List.any_nil, List.contains_nil, beq_true, ite_f, Bool.decide_eq_true, imp_self, List.getD_eq_getElem?_getD, eBolt]
  exact ⟨fun hw => ⟨hw, h hw⟩, rfl⟩
def r49w : List V → Prop × V := fnG eBI dBI (fun a => okCan a.1 a.2) (fun a => can a.1 a.2) .b
def eDWL (a : Dome × Int × List Int) : List V := [.ag (eDome a.1), .i a.2.1, .sl 1 (a.2.2.map eI)]
def dDWL : List V → Dome × Int × List Int | [.ag cs, .i n, .sl _ l] => (dDome cs, n, l.map dI) | _ => (D0, 0, [])
theorem dDWL_e (a : Dome × Int × List Int) : dDWL (eDWL a) = a := by simp [dDWL, eDWL, dDome_e, Function.comp_def, dI_eI]
def ok38 (a : Dome × Int × List Int) : Prop := tame 100000 a.2.1 ∧ tame 100000 a.1.loss ∧ (∀ g ∈ a.1.gores, 0 ≤ g ∧ g < a.2.2.length) ∧ (∀ s ∈ a.2.2, tame 100000 s) ∧ a.1.gores.length < 100000
def r38 : List V → Prop × V := fnG eDWL dDWL ok38 (fun a => roundBy a.1 a.2.1 a.2.2) .i
noncomputable def GU1 : Gam := (GT.ext 49 r49w).ext 38 r38
theorem okU1 : GOk Try.prog GU1 := by
  have k1 := okT.ext (f := 49) (r := r49w) (fun a w => Try.call49 a w) (fnG_ok fun a h => P49w a.1 a.2 h)
  exact k1.ext (f := 38) (r := r38) (fun a w => Try.call38 a w) (fnG_ok fun a h => P38 a.1 a.2.1 a.2.2 h.1 h.2.1 h.2.2.1 h.2.2.2.1 h.2.2.2.2)
theorem gU49 (a b : Int) (l : List Strip) (w s : Int) : GU1 49 [.ag [.i a, .i b, .sl 3 (l.map eStrip), .i w], .i s] = (okCan ⟨⟨a, b⟩, l, w⟩ s, .b (can ⟨⟨a, b⟩, l, w⟩ s)) :=
  (show GU1 49 _ = r49w (eBI (⟨⟨a, b⟩, l, w⟩, s)) from rfl).trans (fnG_at _ (dBI_e _))
def isTruth (d : Dome) (l : List Int) : Bool := decide (l.length = d.bolts.length) && (List.range l.length).all fun i => can (boltAt d (i : Nat)) (l[i]?.getD 0)
theorem ValidB.okCan {b : Bolt} (h : ValidB b) (s : Int) : okCan b s := by
  intro hw
  simp only [within, Bool.and_eq_true, decide_eq_true_eq] at hw
  have := h.st
  exact h.ok66 (by omega)
theorem P35 (d : Dome) (l : List Int) (hv : Valid d) : PureCall Try.prog 35 [.ag (eDome d), .sl 1 (l.map eI)] (.b (isTruth d l)) := by
  refine pure_body okU1 hmix Try.func35 cb35 cc35 cs35 cn35 ?_
  have hnb := hv.nb
  simp only [rc35, rs35, ru_skip, ru_reg, ru_seq, ru_cnd, ite_P, ru_block, ru_ret, ru_keep, thenQ, run_nil, run_cons, Fam.step, stepQ, evO, opv, qv, binV, ldV, lenV, V.cells, solid, hasRef, hasRefL, upd_some, lkp_cons, lkp_nil, ↓reduceIte, Nat.reduceEqDiff, Nat.reduceAdd, Nat.reduceLeDiff, List.map_cons, List.map_nil, List.length_cons, List.length_nil, List.drop_zero, List.headD_cons, endQ, rvs, rv1, resV, vw_i, vw_b, vw_sl, vw_ag, zipA, Nat.zero_add, V.b.injEq, Bool.or_false, Bool.false_eq_true, decide_eq_false_iff_not, true_and, and_self, reduceCtorEq, Bool.not_eq_true', List.length_map, Classical.not_not, eDome]
  refine ⟨fun h => ?_, fun h => ?_⟩
  · have : ¬ l.length = d.bolts.length := by omega
    simp [isTruth, this]
  have hl : l.length = d.bolts.length := by omega
  refine ru_countC l.length (fun i => ⟨lkp [(1, .sl 1 (l.map eI)), (2, .pa (eDome d)), (5, .i i)], []⟩) (fun i => (List.range i).all (fun i => can (boltAt d (i : Nat)) (l[i]?.getD 0)) = true) ?_ ?_ ?_ ?_
  · simp only [Int.natCast_zero, kp, lkp_cons, lkp_nil, ↓reduceIte, Nat.reduceEqDiff, List.map_cons, List.map_nil, eDome]
  · rfl
  · intro i hi hC
    obtain ⟨x, hx⟩ : ∃ x, l[i]? = some x := ⟨_, List.getElem?_eq_getElem hi⟩
    obtain ⟨b, hb⟩ : ∃ b, d.bolts[i]? = some b := ⟨_, List.getElem?_eq_getElem (by omega)⟩
    have hba : boltAt d (i : Nat) = b := by simp [boltAt, hb]
    have hlt : (i : Int) < l.length := by omega
    have hlt2 : (i : Int) < d.bolts.length := by omega
    have h3 : inI ((i : Int) + 1) := by unfold inI; omega
    have hoc := (hv.bolts b (List.mem_of_getElem? hb)).okCan x
    simp only [hx, hb, hlt, hlt2, h3, gU49, hoc, Int.natCast_add, Int.natCast_one, ru_skip, ru_reg, ru_any, ru_seq, ru_cnd, ite_P, ru_block, ru_ret, ru_keep, putBs, thenQ, blockQ, run_nil, run_cons, Fam.step, stepQ, runX, eff, nextD, fpR, fpQ, fpV, disjB, hits, evO, opv, qv, binV, ldV, iadV, lenV, callV, hasRef, hasRefL, flat, kp, upd_some, lkp_cons, lkp_nil, ↓reduceIte, Nat.reduceEqDiff, Nat.reduceAdd, Nat.reduceLT, Nat.reduceLeDiff, List.map_cons, List.map_nil, List.all_nil, List.length_cons, List.length_nil, List.drop_zero, List.take_succ_cons, List.take_nil, List.headD_cons, List.cons_append, List.nil_append, List.append_nil, List.getElem?_nil, Option.getD_some, Option.getD_none, List.replicate_zero, List.isEmpty_nil, endQ, rvs, rv1, resV, vw_i, vw_b, vw_sl, vw_ag, Int.natCast_nonneg, Nat.zero_add, V.b.injEq, Bool.and_self, Bool.and_true, Bool.false_and, Bool.or_false, Bool.not_true, Bool.not_false, Bool.false_eq_true, decide_true, true_and, and_true, and_self, implies_true, Option.map_some, List.any_nil, List.contains_nil, Bool.not_eq_true', List.length_map, Int.toNat_natCast, List.getD_eq_getElem?_getD, List.getElem?_map, Bool.not_eq_false, spanE, boltE, eBolt, eDome, eI]
    refine ⟨fun hc => ?_, fun hc => ?_⟩
    · have e : (List.range l.length).all (fun i => can (boltAt d (i : Nat)) (l[i]?.getD 0)) = false := all_range_false hi (by rw [hba, hx]; exact hc)
      simp [isTruth, e]
    · exact all_range_succ hC (by rw [hba, hx]; exact hc)
  · intro hC
    simp only [ru_reg, ru_seq, ru_cnd, ru_exit, ru_ret, ru_keep, thenQ, blockQ, run_nil, run_cons, Fam.step, stepQ, evO, opv, qv, binV, lenV, upd_some, lkp_cons, lkp_nil, ↓reduceIte, Nat.reduceEqDiff, List.map_cons, List.map_nil, endQ, rvs, rv1, resV, vw_b, Int.lt_irrefl, V.b.injEq, Bool.false_eq_true, decide_false, true_and, and_self, List.length_map, eDome]
    simp [isTruth, hl]
    simpa [hl] using hC
end Go.C02
set_option linter.unusedSimpArgs false
set_option linter.unusedVariables false
namespace Go.C02
open Go.Fam Go.Proofs
def eDL (a : Dome × List Int) : List V := [.ag (eDome a.1), .sl 1 (a.2.map eI)]
def dDL : List V → Dome × List Int | [.ag cs, .sl _ l] => (dDome cs, l.map dI) | _ => (D0, [])
theorem dDL_e (a : Dome × List Int) : dDL (eDL a) = a := by simp [dDL, eDL, dDome_e, Function.comp_def, dI_eI]
def r35 : List V → Prop × V := fnG eDL dDL (fun a => Valid a.1) (fun a => isTruth a.1 a.2) .b
noncomputable def GU : Gam := GU1.ext 35 r35
theorem okU : GOk Try.prog GU := okU1.ext (f := 35) (r := r35) (fun a w => Try.call35 a w) (fnG_ok fun a h => P35 a.1 a.2 h)
section
variable (b : List Bolt) (g : List Int) (l : Int) (r : List Span) (w : List Int) (s n m : Int) (x : List Int)
theorem gU38 : GU 38 [.ag [.sl 4 (b.map eBolt), .sl 1 (g.map eI), .i l, .sl 2 (r.map eSpan), .sl 1 (w.map eI), .i s], .i n, .sl 1 (x.map eI)] = (ok38 (⟨b, g, l, r, w, s⟩, n, x), .i (roundBy ⟨b, g, l, r, w, s⟩ n x)) :=
  (show GU 38 _ = r38 (eDWL (⟨b, g, l, r, w, s⟩, n, x)) from rfl).trans (fnG_at _ (dDWL_e _))
end
/-! Truths. -/
theorem truth_of {d : Dome} {l : List Int} (h : isTruth d l = true) : l.length = d.bolts.length ∧ ∀ i, i < l.length → ∃ b x, d.bolts[i]? = some b ∧ l[i]? = some x ∧ can b x = true := by
  simp only [isTruth, Bool.and_eq_true, decide_eq_true_eq, List.all_eq_true, List.mem_range] at h
  refine ⟨h.1, fun i hi => ?_⟩
  obtain ⟨x, hx⟩ : ∃ x, l[i]? = some x := ⟨_, List.getElem?_eq_getElem hi⟩
  obtain ⟨b, hb⟩ : ∃ b, d.bolts[i]? = some b := ⟨_, List.getElem?_eq_getElem (by omega)⟩
  have := h.2 i hi
  rw [hx, show boltAt d (i : Nat) = b by simp [boltAt, hb]] at this
  exact ⟨b, x, hb, hx, this⟩
theorem truth_ok38 {d : Dome} (hv : Valid d) {l : List Int} (h : isTruth d l = true) {w : Int} (hw : 0 ≤ w ∧ w ≤ 2000) : ok38 (d, w, l) := by
  obtain ⟨h1, h2⟩ := truth_of h
  have hloss := hv.loss
  have hng := hv.ng
  refine ⟨show tame 100000 w by unfold tame; omega, show tame 100000 d.loss by unfold tame; omega, fun g hg => ?_, fun s hs => ?_, show d.gores.length < 100000 by omega⟩
  · have := hv.gores g hg; show 0 ≤ g ∧ g < l.length; omega
  · obtain ⟨i, hi⟩ := List.getElem?_of_mem hs
    obtain ⟨b, x, hb, hx, hcan⟩ := h2 i (getElemLt hi)
    rw [hi] at hx; cases hx
    have := numbersOf_range (hv.bolts b (List.mem_of_getElem? hb)) (mem_numbersOf.2 hcan)
    unfold tame; omega
/-- what a truth chooses -/
def pick (l : List Int) (g : Int) : Int := l[g.toNat]?.getD 0
theorem truth_can {d : Dome} (hv : Valid d) {l : List Int} (h : isTruth d l = true) {g : Int} (hg : g ∈ d.gores) : pick l g ∈ canAt (tentOf d) g := by
  obtain ⟨h1, h2⟩ := truth_of h
  have hgg := hv.gores g hg
  obtain ⟨b, x, hb, hx, hcan⟩ := h2 g.toNat (by omega)
  have : canAt (tentOf d) g = numbersOf b := by simp [canAt, tentOf, cansOf, hb]
  rw [this, pick, hx]
  exact mem_numbersOf.2 hcan
theorem canAt_bounds {d : Dome} (h : Good d) {g s : Int} (hg : g ∈ d.gores) (hs : s ∈ canAt (tentOf d) g) : lowOf (tentOf d) g ≤ s ∧ s ≤ highOf (tentOf d) g := by
  have hgg := h.v.gores g hg
  obtain ⟨b, hb⟩ : ∃ b, d.bolts[g.toNat]? = some b := ⟨_, List.getElem?_eq_getElem (by omega)⟩
  have hc : (tentOf d).can[g.toNat]? = some (numbersOf b) := by simp [tentOf, cansOf, hb]
  simp only [canAt, lowOf, highOf, hc, Option.getD_some] at hs ⊢
  exact sorted_bounds ((ints_sorted _ _).filter _) hs
theorem pull_mono_s {a s t : Int} (h : 0 ≤ a) (hs : 0 ≤ s) (hst : s ≤ t) : pull a s ≤ pull a t := by
  have h1 : a * (1000 + s) ≤ a * (1000 + t) := Int.mul_le_mul_of_nonneg_left (by omega) h
  have h2 : 0 ≤ a * (1000 + s) := Int.mul_nonneg h (by omega)
  unfold pull
  rw [Int.tdiv_eq_ediv_of_nonneg h2, Int.tdiv_eq_ediv_of_nonneg (Int.le_trans h2 h1)]
  exact Int.ediv_le_ediv (by decide) h1
theorem sums_bounds {d : Dome} (h : Good d) {w x : Int} (hw : 2 * d.loss ≤ w) (hx : inSums (tentOf d) w x) : (roundOf (tentOf d) w).low ≤ x ∧ x ≤ (roundOf (tentOf d) w).high := by
  obtain ⟨c, hc, rfl⟩ := hx
  have hw' : 0 ≤ w - 2 * (tentOf d).dome.loss := by show 0 ≤ w - 2 * d.loss; omega
  refine ⟨sumBy_mono fun g hg => ?_, sumBy_mono fun g hg => ?_⟩
  · have := canAt_bounds h hg (hc g hg)
    have := canTent_low h hg
    exact pull_mono_s hw' this.1 (by omega)
  · have := canAt_bounds h hg (hc g hg)
    have := canTent_low h hg
    exact pull_mono_s hw' (by omega) (by omega)
theorem truth_sums {d : Dome} (hv : Valid d) {l : List Int} (h : isTruth d l = true) (w : Int) : inSums (tentOf d) w (roundBy d w l) :=
  ⟨pick l, fun g hg => truth_can hv h hg, rfl⟩
theorem tight_two {t : Tent} {row w : Int} (h : tightOf t row w = 2) {x : Int} (hx : inSums t w x) : within x (wantAt t.dome row).low (wantAt t.dome row).high = false := by
  unfold tightOf at h
  split at h
  · omega
  · split at h
    · omega
    · rename_i hn
      cases hc : within x (wantAt t.dome row).low (wantAt t.dome row).high
      · rfl
      · exact absurd ⟨x, hx, hc⟩ hn
theorem tight_vals (t : Tent) (row w : Int) : tightOf t row w = 1 ∨ tightOf t row w = 2 ∨ tightOf t row w = 3 := by
  unfold tightOf
  split
  · exact .inl rfl
  · split
    · exact .inr (.inr rfl)
    · exact .inr (.inl rfl)
end Go.C02
set_option linter.unusedSimpArgs false
set_option linter.unusedVariables false
namespace Go.C02
open Go.Fam Go.Proofs
def listTo (f : Nat → Int) (k : Nat) : List Int := (List.range k).map f
theorem listTo_len (f : Nat → Int) (k : Nat) : (listTo f k).length = k := by simp [listTo]
theorem listTo_get {f : Nat → Int} {k i : Nat} (h : i < k) : (listTo f k)[i]? = some (f i) := by simp [listTo, h]
def lowB (d : Dome) (i : Nat) : Int := (numbersOf (boltAt d i)).headD 0
def highB (d : Dome) (i : Nat) : Int := (numbersOf (boltAt d i)).getLastD 0
theorem listTo_truth {d : Dome} {f : Nat → Int} (h : ∀ i, i < d.bolts.length → f i ∈ numbersOf (boltAt d i)) : isTruth d (listTo f d.bolts.length) = true := by
  simp only [isTruth, Bool.and_eq_true, decide_eq_true_eq, List.all_eq_true, List.mem_range, listTo_len]
  refine ⟨trivial, fun i hi => ?_⟩
  rw [listTo_get hi]
  exact mem_numbersOf.1 (h i hi)
theorem round_low {d : Dome} (hv : Valid d) (w : Int) : roundBy d w (listTo (lowB d) d.bolts.length) = (roundOf (tentOf d) w).low := by
  have h : ∀ g ∈ d.gores, pull (w - 2 * d.loss) ((listTo (lowB d) d.bolts.length)[g.toNat]?.getD 0) = pull (w - 2 * (tentOf d).dome.loss) (lowOf (tentOf d) g) := by
    intro g hg
    have hgg := hv.gores g hg
    obtain ⟨b, hb⟩ : ∃ b, d.bolts[g.toNat]? = some b := ⟨_, List.getElem?_eq_getElem (by omega)⟩
    rw [listTo_get (by omega)]
    have e : (max g 0).toNat = g.toNat := by omega
    simp [lowB, lowOf, tentOf, cansOf, boltAt, hb, e]
  unfold roundBy roundOf sumBy
  exact congrArg List.sum (List.map_congr_left h)
theorem round_high {d : Dome} (hv : Valid d) (w : Int) : roundBy d w (listTo (highB d) d.bolts.length) = (roundOf (tentOf d) w).high := by
  have h : ∀ g ∈ d.gores, pull (w - 2 * d.loss) ((listTo (highB d) d.bolts.length)[g.toNat]?.getD 0) = pull (w - 2 * (tentOf d).dome.loss) (highOf (tentOf d) g) := by
    intro g hg
    have hgg := hv.gores g hg
    obtain ⟨b, hb⟩ : ∃ b, d.bolts[g.toNat]? = some b := ⟨_, List.getElem?_eq_getElem (by omega)⟩
    rw [listTo_get (by omega)]
    have e : (max g 0).toNat = g.toNat := by omega
    simp [highB, highOf, tentOf, cansOf, boltAt, hb, e]
  unfold roundBy roundOf sumBy
  exact congrArg List.sum (List.map_congr_left h)
end Go.C02
set_option linter.unusedSimpArgs false
set_option linter.unusedVariables false
namespace Go.C02
open Go.Fam Go.Proofs
/-! The least sum of a curve: what a table gives, and what the slopes give. -/
def bigN : Int := 1073741824
def minTo (f : Int → Int) : List Int → Int → Int
  | [], m => m
  | o :: l, m => minTo f l (min m (f o))
theorem minTo_append (f : Int → Int) : ∀ (a b : List Int) (m : Int), minTo f (a ++ b) m = minTo f b (minTo f a m)
  | [], _, _ => rfl
  | x :: a, b, m => by simp [minTo, minTo_append f a b]
theorem minTo_le (f : Int → Int) : ∀ (l : List Int) (m : Int), minTo f l m ≤ m
  | [], _ => Int.le_refl _
  | x :: l, m => Int.le_trans (minTo_le f l _) (by omega)
theorem minTo_mem (f : Int → Int) : ∀ (l : List Int) (m x : Int), x ∈ l → minTo f l m ≤ f x
  | y :: l, m, x, h => by
    rcases List.mem_cons.1 h with rfl | h
    · exact Int.le_trans (minTo_le f l _) (by omega)
    · exact minTo_mem f l _ x h
theorem minTo_or (f : Int → Int) : ∀ (l : List Int) (m : Int), minTo f l m = m ∨ ∃ x ∈ l, minTo f l m = f x
  | [], _ => .inl rfl
  | y :: l, m => by
    rcases minTo_or f l (min m (f y)) with h | ⟨x, hx, h⟩
    · simp only [minTo]
      by_cases hm : m ≤ f y
      · left; omega
      · right; exact ⟨y, by simp, by omega⟩
    · exact .inr ⟨x, by simp [hx], h⟩
def entry (d : Dome) (r : Nat) (old : List Int) (w : Int) : Int :=
  if within w (lowAt d r) (highAt d r) then (if r = 0 then w else minTo (fun o => (old[o.toNat]?.getD 0) + w) (ints (max 0 (w - d.slope)) (min 2000 (w + d.slope))) bigN) else bigN
def rowTab (d : Dome) (r : Nat) (old : List Int) : List Int := (ints 0 2000).map (entry d r old)
def tab (d : Dome) : Nat → List Int
  | 0 => []
  | r + 1 => rowTab d r (tab d r)
def val (d : Dome) (r : Nat) (w : Int) : Int := (tab d r)[w.toNat]?.getD 0
theorem val_succ {d : Dome} {r : Nat} {w : Int} (h0 : 0 ≤ w) (h1 : w ≤ 2000) : val d (r + 1) w = entry d r (tab d r) w := by
  have : (ints 0 2000)[w.toNat]? = some w := by
    rw [ints_get (by omega)]
    congr 1; omega
  simp [val, tab, rowTab, this]
def leastTab (d : Dome) (n : Nat) : Int := minTo (val d n) (ints 0 2000) bigN
structure Feas (d : Dome) (k : Nat) (c : Nat → Int) : Prop where
  bd : ∀ r : Nat, r < k → lowAt d r ≤ c r ∧ c r ≤ highAt d r
  sl : ∀ r : Nat, r + 1 < k → -d.slope ≤ c (r + 1) - c r ∧ c (r + 1) - c r ≤ d.slope
def sumTo (c : Nat → Int) : Nat → Int
  | 0 => 0
  | k + 1 => sumTo c k + c k
theorem sumTo_congr {c e : Nat → Int} : ∀ {k : Nat}, (∀ r, r < k → c r = e r) → sumTo c k = sumTo e k
  | 0, _ => rfl
  | k + 1, h => by simp only [sumTo]; rw [sumTo_congr fun r hr => h r (by omega), h k (by omega)]
theorem sumTo_mono {c e : Nat → Int} : ∀ {k : Nat}, (∀ r, r < k → c r ≤ e r) → sumTo c k ≤ sumTo e k
  | 0, _ => Int.le_refl _
  | k + 1, h => by simp only [sumTo]; have := sumTo_mono (k := k) fun r hr => h r (by omega); have := h k (by omega); omega
theorem sumTo_list (c : Nat → Int) : ∀ k : Nat, ((List.range k).map c).sum = sumTo c k
  | 0 => rfl
  | k + 1 => by rw [List.range_succ, List.map_append, List.sum_append, sumTo_list c k]; simp [sumTo]
theorem sumTo_le {c : Nat → Int} {M : Int} : ∀ {k : Nat}, (∀ r, r < k → c r ≤ M) → sumTo c k ≤ M * k
  | 0, _ => by simp [sumTo]
  | k + 1, h => by simp only [sumTo]; have := sumTo_le (k := k) fun r hr => h r (by omega); have := h k (by omega); rw [Int.natCast_add, Int.mul_add]; omega
theorem Feas.range {d : Dome} (hl : 0 ≤ d.loss) {k : Nat} {c : Nat → Int} (h : Feas d k c) {r : Nat} (hr : r < k) : 0 ≤ c r ∧ c r ≤ 2000 := by
  have := h.bd r hr
  have := lowAt_range d r hl
  have := highAt_range d r hl
  omega
theorem val_lower {d : Dome} (hl : 0 ≤ d.loss) (hs : 0 ≤ d.slope) {c : Nat → Int} : ∀ k : Nat, Feas d (k + 1) c → val d (k + 1) (c k) ≤ sumTo c (k + 1)
  | 0, h => by
    have h1 := h.bd 0 (by omega)
    have h2 := h.range hl (r := 0) (by omega)
    rw [val_succ h2.1 h2.2]
    have : within (c 0) (lowAt d (0 : Nat)) (highAt d (0 : Nat)) = true := by simp only [within, Bool.and_eq_true, decide_eq_true_eq]; exact h1
    unfold entry
    rw [if_pos this, if_pos rfl]
    simp [sumTo]
  | k + 1, h => by
    have h1 := h.bd (k + 1) (by omega)
    have h2 := h.range hl (r := k + 1) (by omega)
    have h3 := h.range hl (r := k) (by omega)
    have h4 := h.sl k (by omega)
    have ih := val_lower hl hs k ⟨fun r hr => h.bd r (by omega), fun r hr => h.sl r (by omega)⟩
    rw [val_succ h2.1 h2.2]
    have hw : within (c (k + 1)) (lowAt d ((k + 1 : Nat) : Int)) (highAt d ((k + 1 : Nat) : Int)) = true := by simp only [within, Bool.and_eq_true, decide_eq_true_eq]; exact h1
    unfold entry
    rw [if_pos hw, if_neg (by omega)]
    have hm := minTo_mem (fun o => ((tab d (k + 1))[o.toNat]?.getD 0) + c (k + 1)) (ints (max 0 (c (k + 1) - d.slope)) (min 2000 (c (k + 1) + d.slope))) bigN (c k) (by rw [mem_ints]; omega)
    have : sumTo c (k + 1 + 1) = sumTo c (k + 1) + c (k + 1) := rfl
    unfold val at ih
    omega
theorem entry_le {d : Dome} {r : Nat} {old : List Int} {w : Int} (hw : w ≤ 2000) : entry d r old w ≤ bigN := by
  unfold entry
  split
  · split
    · unfold bigN; omega
    · exact minTo_le _ _ _
  · exact Int.le_refl _
theorem val_upper {d : Dome} (hl : 0 ≤ d.loss) : ∀ (k : Nat) (w : Int), 0 ≤ w → w ≤ 2000 → val d (k + 1) w = bigN ∨ ∃ c, Feas d (k + 1) c ∧ c k = w ∧ sumTo c (k + 1) = val d (k + 1) w
  | 0, w, h0, h1 => by
    rw [val_succ h0 h1]
    unfold entry
    split
    · rename_i hw
      simp only [within, Bool.and_eq_true, decide_eq_true_eq] at hw
      right
      refine ⟨fun _ => w, ⟨fun r hr => ?_, fun r hr => by omega⟩, rfl, by simp [sumTo]⟩
      have : r = 0 := by omega
      subst this
      exact hw
    · exact .inl rfl
  | k + 1, w, h0, h1 => by
    have hle := entry_le (d := d) (r := k + 1) (old := tab d (k + 1)) h1
    rw [val_succ h0 h1]
    by_cases hw : within w (lowAt d ((k + 1 : Nat) : Int)) (highAt d ((k + 1 : Nat) : Int)) = true
    · have e : entry d (k + 1) (tab d (k + 1)) w = minTo (fun o => ((tab d (k + 1))[o.toNat]?.getD 0) + w) (ints (max 0 (w - d.slope)) (min 2000 (w + d.slope))) bigN := by
        unfold entry; rw [if_pos hw, if_neg (by omega)]
      rw [e] at hle ⊢
      rcases minTo_or (fun o => ((tab d (k + 1))[o.toNat]?.getD 0) + w) (ints (max 0 (w - d.slope)) (min 2000 (w + d.slope))) bigN with h | ⟨o, ho, h⟩
      · exact .inl h
      · rw [mem_ints] at ho
        have hv : val d (k + 1) o = ((tab d (k + 1))[o.toNat]?.getD 0) := rfl
        rcases val_upper hl k o (by omega) (by omega) with hb | ⟨c, hc, hck, hcs⟩
        · left
          rw [h] at hle ⊢
          omega
        · right
          simp only [within, Bool.and_eq_true, decide_eq_true_eq] at hw
          refine ⟨fun r => if r ≤ k then c r else w, ⟨fun r hr => ?_, fun r hr => ?_⟩, ?_, ?_⟩
          · by_cases hrk : r ≤ k
            · simp only [hrk, if_true]; exact hc.bd r (by omega)
            · have : r = k + 1 := by omega
              subst this
              rw [if_neg hrk]; exact hw
          · by_cases hrk : r + 1 ≤ k
            · have : r ≤ k := by omega
              simp only [hrk, this, if_true]; exact hc.sl r (by omega)
            · have : r = k := by omega
              subst this
              simp only [Nat.le_refl, hrk, if_true, if_false]
              omega
          · show (if k + 1 ≤ k then _ else _) = _
            rw [if_neg (by omega)]
          · rw [h]
            have e1 : sumTo (fun r => if r ≤ k then c r else w) (k + 1) = sumTo c (k + 1) := sumTo_congr fun r hr => by rw [if_pos (by omega)]
            have e2 : sumTo (fun r => if r ≤ k then c r else w) (k + 1 + 1) = sumTo (fun r => if r ≤ k then c r else w) (k + 1) + w := by
              show _ + (if k + 1 ≤ k then _ else _) = _
              rw [if_neg (by omega)]
            omega
    · left
      unfold entry; rw [if_neg hw]
theorem leastTab_spec {d : Dome} (hl : 0 ≤ d.loss) (hs : 0 ≤ d.slope) {n : Nat} (hn : 1 ≤ n) : (∀ c, Feas d n c → leastTab d n ≤ sumTo c n) ∧ (leastTab d n = bigN ∨ ∃ c, Feas d n c ∧ sumTo c n = leastTab d n) := by
  obtain ⟨k, rfl⟩ : ∃ k, n = k + 1 := ⟨n - 1, by omega⟩
  constructor
  · intro c hc
    have h1 := val_lower hl hs k hc
    have h2 := hc.range hl (r := k) (by omega)
    have h3 := minTo_mem (val d (k + 1)) (ints 0 2000) bigN (c k) (by rw [mem_ints]; omega)
    unfold leastTab
    omega
  · rcases minTo_or (val d (k + 1)) (ints 0 2000) bigN with h | ⟨w, hw, h⟩
    · exact .inl h
    · rw [mem_ints] at hw
      rcases val_upper hl k w hw.1 hw.2 with hb | ⟨c, hc, _, hcs⟩
      · exact .inl (h.trans hb)
      · exact .inr ⟨c, hc, hcs.trans h.symm⟩
/-! the slopes from every row -/
def away (d : Dome) (r j : Nat) : Int := lowAt d j - d.slope * max ((r : Int) - j) ((j : Int) - r)
theorem need_le {d : Dome} {r : Nat} {x : Int} : ∀ k : Nat, needTo d r k ≤ x ↔ lowAt d r ≤ x ∧ ∀ j, j < k → away d r j ≤ x
  | 0 => by simp [needTo]
  | k + 1 => by
    rw [needTo_succ]
    have ih := need_le (d := d) (r := r) (x := x) k
    have : max (needTo d r k) (lowAt d k - d.slope * max ((r : Int) - k) ((k : Int) - r)) ≤ x ↔ needTo d r k ≤ x ∧ away d r k ≤ x := by unfold away; omega
    rw [this, ih]
    constructor
    · rintro ⟨⟨h1, h2⟩, h3⟩
      refine ⟨h1, fun j hj => ?_⟩
      by_cases h : j < k
      · exact h2 j h
      · have : j = k := by omega
        exact this ▸ h3
    · rintro ⟨h1, h2⟩
      exact ⟨⟨h1, fun j hj => h2 j (by omega)⟩, h2 k (by omega)⟩
theorem need_ge {d : Dome} (r k : Nat) : lowAt d r ≤ needTo d r k ∧ ∀ j, j < k → away d r j ≤ needTo d r k := (need_le k).1 (Int.le_refl _)
theorem away_step {d : Dome} (hs : 0 ≤ d.slope) {r r' : Nat} (h : (r : Int) ≤ r' + 1 ∧ (r' : Int) ≤ r + 1) (j : Nat) : away d r j ≤ away d r' j + d.slope := by
  unfold away
  have h1 : max ((r' : Int) - j) ((j : Int) - r') ≤ max ((r : Int) - j) ((j : Int) - r) + 1 := by omega
  have h2 := Int.mul_le_mul_of_nonneg_left h1 hs
  rw [Int.mul_add] at h2
  omega
theorem need_step {d : Dome} (hs : 0 ≤ d.slope) {r r' n : Nat} (h : (r : Int) ≤ r' + 1 ∧ (r' : Int) ≤ r + 1) (hr : r < n) : needTo d r n ≤ needTo d r' n + d.slope := by
  rw [need_le]
  have hg := need_ge (d := d) r' n
  constructor
  · have h1 := hg.2 r hr
    have h2 := away_step hs h r
    have : away d r r = lowAt d r := by unfold away; rw [show max ((r : Int) - r) ((r : Int) - r) = 0 by omega]; simp
    omega
  · intro j hj
    have h1 := hg.2 j hj
    have h2 := away_step hs h j
    omega
theorem need_feas {d : Dome} (hs : 0 ≤ d.slope) {n : Nat} (h : fitsAll d n n = true) : Feas d n fun r => needTo d r n := by
  simp only [fitsAll, List.all_eq_true, List.mem_range, decide_eq_true_eq] at h
  refine ⟨fun r hr => ⟨(need_ge r n).1, h r hr⟩, fun r hr => ?_⟩
  have h1 := need_step (d := d) hs (r := r) (r' := r + 1) (n := n) (by omega) (by omega)
  have h2 := need_step (d := d) hs (r := r + 1) (r' := r) (n := n) (by omega) (by omega)
  omega
theorem Feas.far {d : Dome} (hs : 0 ≤ d.slope) {n : Nat} {c : Nat → Int} (h : Feas d n c) : ∀ (m r : Nat), r + m < n → c (r + m) - c r ≤ d.slope * m ∧ c r - c (r + m) ≤ d.slope * m
  | 0, r, _ => by simp
  | m + 1, r, hr => by
    have h1 := h.far hs m r (by omega)
    have h2 := h.sl (r + m) (by omega)
    rw [Int.natCast_add, Int.mul_add]
    rw [show r + (m + 1) = r + m + 1 by omega]
    omega
theorem Feas.need {d : Dome} (hs : 0 ≤ d.slope) {n : Nat} {c : Nat → Int} (h : Feas d n c) {r : Nat} (hr : r < n) : needTo d r n ≤ c r := by
  rw [need_le]
  refine ⟨(h.bd r hr).1, fun j hj => ?_⟩
  have h1 := (h.bd j hj).1
  unfold away
  by_cases hjr : j ≤ r
  · have h2 := (h.far hs (r - j) j (by omega)).2
    rw [show j + (r - j) = r by omega] at h2
    rw [show max ((r : Int) - j) ((j : Int) - r) = ((r - j : Nat) : Int) by omega]
    omega
  · have h2 := (h.far hs (j - r) r (by omega)).1
    rw [show r + (j - r) = j by omega] at h2
    rw [show max ((r : Int) - j) ((j : Int) - r) = ((j - r : Nat) : Int) by omega]
    omega
theorem Feas.fits {d : Dome} (hs : 0 ≤ d.slope) {n : Nat} {c : Nat → Int} (h : Feas d n c) : fitsAll d n n = true := by
  simp only [fitsAll, List.all_eq_true, List.mem_range, decide_eq_true_eq]
  intro r hr
  exact Int.le_trans (h.need hs hr) (h.bd r hr).2
/-- what the table gives is what the slopes give -/
theorem leastTab_eq {d : Dome} (hv : Valid d) {n : Nat} (hn : 1 ≤ n) (hn2 : n ≤ 12) : leastTab d n = if fitsAll d n n then sumTo (fun r => needTo d r n) n else bigN := by
  have hs := hv.slope
  obtain ⟨h1, h2⟩ := leastTab_spec hv.loss.1 hs.1 hn
  by_cases hf : fitsAll d n n = true
  · rw [if_pos hf]
    have hm := need_feas hs.1 hf
    have h3 := h1 _ hm
    rcases h2 with h2 | ⟨c, hc, h2⟩
    · have h4 := sumTo_le (c := fun r => needTo d r n) (M := 2000) (k := n) fun r hr => (hm.range hv.loss.1 hr).2
      have : (n : Int) ≤ 12 := by omega
      unfold bigN at h2
      omega
    · have := sumTo_mono (c := fun r => needTo d r n) (e := c) (k := n) fun r hr => hc.need hs.1 hr
      omega
  · rw [if_neg hf]
    rcases h2 with h2 | ⟨c, hc, h2⟩
    · exact h2
    · exact absurd (hc.fits hs.1) hf
end Go.C02
