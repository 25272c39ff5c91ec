import Derived.Test.YtgcinomjcgebhaaC02I
set_option linter.all false
set_option linter.unusedSimpArgs false
set_option linter.unusedVariables false
namespace Go.C02
open Go.Fam Go.Proofs
/-- the numbers from lo to hi -/
def ints (lo hi : Int) : List Int := (List.range (hi + 1 - lo).toNat).map fun (k : Nat) => lo + k
theorem ints_len (lo hi : Int) : (ints lo hi).length = (hi + 1 - lo).toNat := by simp [ints]
theorem ints_get {lo hi : Int} {k : Nat} (h : k < (hi + 1 - lo).toNat) : (ints lo hi)[k]? = some (lo + k) := by simp [ints, h]
theorem ints_get' {lo hi : Int} {k : Nat} {x : Int} (h : (ints lo hi)[k]? = some x) : x = lo + k ∧ k < (hi + 1 - lo).toNat := by
  have hl := getElemLt h
  rw [ints_len] at hl
  rw [ints_get hl] at h
  exact ⟨(Option.some.inj h).symm, hl⟩
theorem mem_ints {lo hi n : Int} : n ∈ ints lo hi ↔ lo ≤ n ∧ n ≤ hi := by
  simp only [ints, List.mem_map, List.mem_range]
  constructor
  · rintro ⟨k, hk, rfl⟩; omega
  · rintro ⟨h1, h2⟩; exact ⟨(n - lo).toNat, by omega, by omega⟩
theorem drop_cons {α : Type} {l : List α} {k : Nat} {x : α} (h : l[k]? = some x) : l.drop k = x :: l.drop (k + 1) := by
  have hl := getElemLt h
  rw [List.drop_eq_getElem_cons hl]
  rw [List.getElem?_eq_getElem hl] at h
  rw [Option.some.inj h]
def ysB (b : Bolt) : List (List V) := (ints b.stretch.low b.stretch.high).map fun n => [.i n]
theorem I70 (b : Bolt) (h1 : tame 1000 b.stretch.low) (h2 : tame 1000 b.stretch.high) : IterCall Try.prog 70 [.pa (eBolt b)] (ysB b) := by
  refine iter_body okH hmix Try.func70 cb70 (md := 2) rfl cc70 cs70 cn70 ?_
  intro l
  simp only [rc70, ru_reg, ru_seq, ru_block, ru_keep, thenQ, run_nil, run_cons, Fam.step, stepQ, evO, opv, qv, pickV, ldV, upd_some, lkp_cons, lkp_nil, ↓reduceIte, Nat.reduceEqDiff, Nat.reduceAdd, Nat.reduceLeDiff, List.map_cons, List.map_nil, List.length_cons, List.length_nil, List.drop_zero, List.headD_cons, zipA, Nat.zero_add, Bool.false_eq_true, true_and, reduceCtorEq, eBolt]
  have hN : ∀ i, i < (b.stretch.high + 1 - b.stretch.low).toNat → (ysB b)[i]? = some [.i (b.stretch.low + i)] := fun i hi => by simp only [ysB, List.getElem?_map, ints_get hi, Option.map_some]
  refine ru_count (b.stretch.high + 1 - b.stretch.low).toNat (fun i => ⟨lkp [(0, .yl l), (1, .pa (eBolt b)), (3, .i (b.stretch.low + i))], [.gh [.yl l, .pa (eBolt b)] (some ((ysB b).drop i))]⟩) ?_ ?_ ?_
  · simp only [Int.natCast_zero, Int.add_zero, kp, lkp_cons, lkp_nil, ↓reduceIte, Nat.reduceEqDiff, List.map_cons, List.map_nil, List.drop_zero, reduceCtorEq, eBolt]
  · intro i hi
    have hy := drop_cons (hN i hi)
    have hlt : b.stretch.low + (i : Int) ≤ b.stretch.high := by omega
    have h3 : inI (b.stretch.low + (i : Int) + 1) := by unfold inI; unfold tame at *; omega
    simp only [hy, hlt, Int.natCast_add, Int.natCast_one, Int.add_assoc, ru_skip, ru_reg, ru_seq, ru_cond, ru_block, ru_exit, ru_ret, ru_keep, ru_yrg, sfree, yres, slots, endI, thenQ, blockQ, run_nil, run_cons, Fam.step, stepQ, needW, condB, evO, opv, qv, pickV, binV, ldV, flat, flatL, kp, upd_some, lkp_cons, lkp_nil, ↓reduceIte, Nat.reduceEqDiff, Nat.reduceAdd, Nat.reduceLeDiff, List.map_cons, List.map_nil, List.length_cons, List.length_nil, List.drop_succ_cons, List.drop_zero, List.headD_cons, List.getElem?_cons_zero, Nat.zero_add, Bool.and_self, Bool.false_eq_true, Bool.true_eq_false, decide_true, true_and, and_true, forall_const, reduceCtorEq, Bool.not_eq_false', Bool.not_eq_true', imp_self, eBolt]
    refine ⟨?_, ?_⟩
    · simp [flat]
    · intro bb
      cases bb <;> simp only [↓reduceIte, Bool.false_eq_true, Bool.true_eq_false, true_and, and_true, and_self, forall_const, false_implies]
      rw [Int.add_assoc] at h3
      exact h3
  · have hgt : ¬ (b.stretch.low + ((b.stretch.high + 1 - b.stretch.low).toNat : Int) ≤ b.stretch.high) := by omega
    have hnil : (ysB b).drop (b.stretch.high + 1 - b.stretch.low).toNat = [] := by rw [List.drop_eq_nil_iff]; simp [ysB, ints_len]
    simp only [hgt, hnil, ru_skip, ru_reg, ru_seq, ru_cond, ru_block, ru_exit, ru_ret, ru_keep, ru_yrg, sfree, yres, slots, endI, thenQ, blockQ, run_nil, run_cons, Fam.step, stepQ, needW, condB, evO, opv, qv, pickV, binV, ldV, upd_some, lkp_cons, lkp_nil, ↓reduceIte, Nat.reduceEqDiff, Nat.reduceAdd, Nat.reduceLeDiff, List.map_cons, List.map_nil, List.length_cons, List.length_nil, List.drop_succ_cons, List.drop_zero, List.headD_cons, List.getElem?_cons_zero, Nat.zero_add, Bool.false_eq_true, decide_false, true_and, and_self, and_false, forall_const, reduceCtorEq, Bool.not_eq_false', Bool.not_eq_true', imp_self, eBolt]

structure ValidB (b : Bolt) : Prop where
  st : 0 ≤ b.stretch.low ∧ b.stretch.low ≤ b.stretch.high ∧ b.stretch.high ≤ 60
  n : b.strips.length ≤ 8
  wr : 0 ≤ b.wrong ∧ b.wrong ≤ 2
  sp : ∀ x ∈ b.strips, 1 ≤ x.long ∧ x.long ≤ 2000 ∧ 0 ≤ x.pulled.low ∧ x.pulled.low ≤ x.pulled.high ∧ x.pulled.high ≤ 4000
structure Valid (d : Dome) : Prop where
  nb : 1 ≤ d.bolts.length ∧ d.bolts.length ≤ 4
  ng : 3 ≤ d.gores.length ∧ d.gores.length ≤ 16
  nr : 1 ≤ d.rounds.length ∧ d.rounds.length ≤ 12
  nw : d.widths.length = d.rounds.length
  loss : 0 ≤ d.loss ∧ d.loss ≤ 20
  slope : 0 ≤ d.slope ∧ d.slope ≤ 500
  gores : ∀ g ∈ d.gores, 0 ≤ g ∧ g < d.bolts.length
  rounds : ∀ s ∈ d.rounds, 0 ≤ s.low ∧ s.low ≤ s.high ∧ s.high ≤ 40000
  widths : ∀ n ∈ d.widths, 2 * d.loss ≤ n ∧ n ≤ 2000
  bolts : ∀ b ∈ d.bolts, ValidB b
theorem validB_of {b : Bolt} (h : isBolt b = true) : ValidB b := by
  simp only [isBolt, isSpan, within, Bool.and_eq_true, decide_eq_true_eq, List.all_eq_true, isStrip] at h
  refine ⟨by omega, by omega, by omega, fun x hx => ?_⟩
  have := h.2 x hx
  omega
theorem isDome_of {d : Dome} (h : check d = 0) : isDome d = true ∧ d.bolts.all isBolt = true := by
  unfold check at h
  cases h1 : isDome d <;> cases h2 : d.bolts.all isBolt <;> simp [h1, h2] at h ⊢
theorem valid_of {d : Dome} (h : check d = 0) : Valid d := by
  obtain ⟨h1, h2⟩ := isDome_of h
  simp only [isDome, headOk, within, Bool.and_eq_true, decide_eq_true_eq, List.all_eq_true, goreOk, roundOk, isSpan, widthOk] at h1
  rw [List.all_eq_true] at h2
  refine ⟨by omega, by omega, by omega, by omega, by omega, by omega, fun g hg => ?_, fun s hs => ?_, fun n hn => ?_, fun b hb => validB_of (h2 b hb)⟩
  · have := h1.1.1.2 g hg; omega
  · have := h1.1.2 s hs; omega
  · have := h1.2 n hn; omega
theorem ValidB.ok66 {b : Bolt} (h : ValidB b) {s : Int} (hs : 0 ≤ s ∧ s ≤ 60) : ok66 b.strips s := by
  refine ⟨by unfold tame; omega, fun x hx => ?_, by have := h.n; omega⟩
  have := h.sp x hx
  unfold tame; omega
theorem falses_le (l : List Strip) (s : Int) : falses l s ≤ l.length := List.countP_le_length

theorem P60 (b : Bolt) : PureCall Try.prog 60 [.ag (eBolt b)] (.fn 70 [.pa (eBolt b)]) := by
  refine pure_body okH hmix Try.func60 cb60 cc60 cs60 cn60 ?_
  simp only [rc60, rs60, eBolt, ru_reg, ru_seq, ru_ret, ru_keep, thenQ, run_nil, run_cons, Fam.step, stepQ, evO, opv, qv, pickV, V.cells, solid, hasRef, hasRefL, upd_some, lkp_cons, lkp_nil, ↓reduceIte, Nat.reduceEqDiff, List.map_cons, List.map_nil, endQ, rvs, rv1, resV, vw_i, vw_sl, vw_pa, vw_ag, vw_fn, zipA, Bool.or_false, and_self, eBolt]
def rI70 : List V → Prop × V := fnG (fun b => [.pa (eBolt b)]) (fun vs => dBolt (pC (vs.headD .u))) (fun b => tame 1000 b.stretch.low ∧ tame 1000 b.stretch.high) ysB (.sl 0)
def r60 : List V → Prop × V := fnG (fun b => [.ag (eBolt b)]) dB (fun _ => True) (fun b => b) (fun b => .fn 70 [.pa (eBolt b)])
def r41 : List V → Prop × V := fnG (fun d => [.ag (eDome d)]) dD (fun _ => True) check .i
def eDN (a : Dome × Int) : List V := [.ag (eDome a.1), .i a.2]
def dDN : List V → Dome × Int | [.ag cs, .i n] => (dDome cs, n) | _ => (D0, 0)
theorem dDN_e (a : Dome × Int) : dDN (eDN a) = a := by simp [dDN, eDN, dDome_e]
def r46 : List V → Prop × V := fnG eDN dDN (fun a => a.1.rounds.length < 1000) (fun a => within a.2 0 (a.1.rounds.length - 1)) .b
def r56 : List V → Prop × V := fnG eDN dDN (fun a => a.1.bolts.length < 1000) (fun a => within a.2 0 (a.1.bolts.length - 1)) .b
def r61 : List V → Prop × V := fnG eBI dBI (fun a => ok66 a.1.strips a.2) (fun a => (falses a.1.strips a.2 : Int)) .i
def GJ : Gam := ((((((GH.ext 41 r41).ext 46 r46).ext 56 r56).ext 61 r61).ext 39 r39).ext 60 r60).ext 2000070 rI70
theorem okJ : GOk Try.prog GJ := by
  have k1 := okH.ext (f := 41) (r := r41) (fun a w => Try.call41 a w) (fnG_ok fun a _ => P41 a)
  have k2 := k1.ext (f := 46) (r := r46) (fun a w => Try.call46 a w) (fnG_ok fun a h => P46 a.1 a.2 h)
  have k3 := k2.ext (f := 56) (r := r56) (fun a w => Try.call56 a w) (fnG_ok fun a h => P56 a.1 a.2 h)
  have k4 := k3.ext (f := 61) (r := r61) (fun a w => Try.call61 a w) (fnG_ok fun a h => P61 a.1 a.2 h)
  have k5 := k4.ext (f := 39) (r := r39) (fun a w => Try.call39 a w) (fnG_ok fun a _ => P39 a)
  have k6 := k5.ext (f := 60) (r := r60) (fun a w => Try.call60 a w) (fnG_ok fun a _ => P60 a)
  refine k6.extI (f := 70) (r := rI70) (fun a w => Try.call70 a w) fun vs ys h1 h2 => ?_
  simp only [rI70, fnG, V.sl.injEq, true_and] at h1 h2
  rw [← h1.1, ← h2]
  exact I70 _ h1.2.1 h1.2.2
theorem gJ54 (n lo hi : Int) : GJ 54 [.i n, .i lo, .i hi] = (True, .b (within n lo hi)) := rfl
theorem gJ67 (n lo hi : Int) : GJ 67 [.i n, .i lo, .i hi] = (True, .b (within n lo hi)) := rfl
theorem gJ57 (l s : Int) : GJ 57 [.i l, .i s] = (tame 1000000 l ∧ tame 1000000 s, .i (pull l s)) := rfl
theorem gJ69 (l s : Int) : GJ 69 [.i l, .i s] = (tame 1000000 l ∧ tame 1000000 s, .i (pull l s)) := rfl
theorem gJ66 (a b : Int) (l : List Strip) (w s : Int) : GJ 66 [.ag [.i a, .i b, .sl 3 (l.map eStrip), .i w], .i s] = (ok66 l s, .i (falses l s)) :=
  (show GJ 66 _ = r66 (eBI (⟨⟨a, b⟩, l, w⟩, s)) from rfl).trans (fnG_at _ (dBI_e _))
theorem gJ61 (a b : Int) (l : List Strip) (w s : Int) : GJ 61 [.ag [.i a, .i b, .sl 3 (l.map eStrip), .i w], .i s] = (ok66 l s, .i (falses l s)) :=
  (show GJ 61 _ = r61 (eBI (⟨⟨a, b⟩, l, w⟩, s)) from rfl).trans (fnG_at _ (dBI_e _))
theorem gJ49 (a b : Int) (l : List Strip) (w s : Int) : GJ 49 [.ag [.i a, .i b, .sl 3 (l.map eStrip), .i w], .i s] = (ok66 l s, .b (can ⟨⟨a, b⟩, l, w⟩ s)) :=
  (show GJ 49 _ = r49 (eBI (⟨⟨a, b⟩, l, w⟩, s)) from rfl).trans (fnG_at _ (dBI_e _))
theorem gJ41 (d : Dome) : GJ 41 [.ag (eDome d)] = (True, .i (check d)) := (show GJ 41 _ = r41 [.ag (eDome d)] from rfl).trans (fnG_at (e := fun d => [.ag (eDome d)]) d (dDome_e _))
theorem gJ39 (d : Dome) : GJ 39 [.ag (eDome d)] = (True, .i (check d)) := (show GJ 39 _ = r39 [.ag (eDome d)] from rfl).trans (fnG_at (e := fun d => [.ag (eDome d)]) d (dDome_e _))
theorem gJ46 (d : Dome) (n : Int) : GJ 46 [.ag (eDome d), .i n] = (d.rounds.length < 1000, .b (within n 0 (d.rounds.length - 1))) := (show GJ 46 _ = r46 (eDN (d, n)) from rfl).trans (fnG_at _ (dDN_e _))
theorem gJ56 (d : Dome) (n : Int) : GJ 56 [.ag (eDome d), .i n] = (d.bolts.length < 1000, .b (within n 0 (d.bolts.length - 1))) := (show GJ 56 _ = r56 (eDN (d, n)) from rfl).trans (fnG_at _ (dDN_e _))
theorem gJ60 (b : Bolt) : GJ 60 [.ag (eBolt b)] = (True, .fn 70 [.pa (eBolt b)]) := (show GJ 60 _ = r60 [.ag (eBolt b)] from rfl).trans (fnG_at (e := fun b => [.ag (eBolt b)]) b (dBolt_e _))
theorem gJ70 (b : Bolt) : GJ 2000070 [.pa (eBolt b)] = (tame 1000 b.stretch.low ∧ tame 1000 b.stretch.high, .sl 0 (ysB b)) := (show GJ 2000070 _ = rI70 [.pa (eBolt b)] from rfl).trans (fnG_at (e := fun b => [.pa (eBolt b)]) b (dBolt_e _))

theorem ysB_get {b : Bolt} {k : Nat} {x : List V} (h : (ysB b)[k]? = some x) : x = [.i (b.stretch.low + k)] ∧ k < (b.stretch.high + 1 - b.stretch.low).toNat := by
  simp only [ysB, List.getElem?_map, Option.map_eq_some_iff] at h
  obtain ⟨n, hn, rfl⟩ := h
  obtain ⟨rfl, h2⟩ := ints_get' hn
  exact ⟨rfl, h2⟩
theorem ysB_len (b : Bolt) : (ysB b).length = (b.stretch.high + 1 - b.stretch.low).toNat := by simp [ysB, ints_len]
def fewestTo (b : Bolt) (k : Nat) : Int := ((ints b.stretch.low b.stretch.high).take k).foldl (fun m s => min m (falses b.strips s : Int)) b.strips.length
def fewestOf (b : Bolt) : Int := fewestTo b (ints b.stretch.low b.stretch.high).length
theorem fewestTo_succ {b : Bolt} {k : Nat} (h : k < (b.stretch.high + 1 - b.stretch.low).toNat) : fewestTo b (k + 1) = min (fewestTo b k) (falses b.strips (b.stretch.low + k)) := by
  unfold fewestTo
  rw [take_succ_of (ints_get h), List.foldl_append]; rfl
def boltAt (d : Dome) (n : Int) : Bolt := (d.bolts[n.toNat]?).getD ⟨⟨0, 0⟩, [], 0⟩
def eNE (a : Int × Int) : V := .tp [.i a.1, .i a.2]
def fewest (d : Dome) (n : Int) : Int × Int := if check d ≠ 0 then (0, check d) else if within n 0 (d.bolts.length - 1) then (fewestOf (boltAt d n), 0) else (0, 1)
theorem within_nat {n : Int} {k : Nat} (h : within n 0 ((k : Int) - 1) = true) : 0 ≤ n ∧ n < k := by simp only [within, Bool.and_eq_true, decide_eq_true_eq] at h; omega

theorem P43 (d : Dome) (n : Int) (hb : d.bolts.length < 1000000) : PureCall Try.prog 43 [.ag (eDome d), .i n] (eNE (fewest d n)) := by
  refine pure_body okJ hmix Try.func43 cb43 cc43 cs43 cn43 ?_
  have g1 := gJ39 d
  unfold eDome at g1
  simp only [rc43, rs43, g1, gJ54, eNE, ru_skip, ru_reg, ru_seq, ru_cond, ru_block, ru_ret, ru_keep, putB, thenQ, run_nil, run_cons, Fam.step, stepQ, stepW, needW, putB, nv, sv, evO, opv, qv, pickV, binV, ldV, iadV, lenV, curG, callV, putAt, V.cells, solid, hasRef, hasRefL, flat, upd_some, upd_none, lkp_cons, lkp_nil, ↓reduceIte, Nat.reduceEqDiff, Nat.reduceAdd, Nat.reduceLT, Nat.reduceLeDiff, List.map_cons, List.map_nil, List.length_cons, List.length_nil, List.drop_zero, List.take_succ_cons, List.take_zero, List.take_nil, List.headD_cons, List.nil_append, List.append_nil, List.getElem?_cons_zero, List.getElem?_nil, List.set_cons_zero, endQ, rvs, rv1, resV, vw_i, vw_sl, vw_ag, vw_tp, zipA, beq_self_eq_true, Nat.zero_add, Nat.add_zero, Bool.or_false, Bool.false_eq_true, decide_eq_true_eq, decide_eq_false_iff_not, true_and, and_self, implies_true, reduceCtorEq, Bool.not_eq_false', Bool.not_eq_true', List.length_map, List.getD_eq_getElem?_getD, List.getElem?_map, eDome]
  refine ⟨fun h => by simp [fewest, h], fun h => ?_⟩
  have hv := valid_of h
  refine ⟨by unfold inI; omega, fun h2 => by simp [fewest, h, h2], fun h2 => ?_⟩
  obtain ⟨k1, k2⟩ := within_nat h2
  obtain ⟨b, hbo⟩ : ∃ b, d.bolts[n.toNat]? = some b := ⟨_, List.getElem?_eq_getElem (by omega)⟩
  have hvb := hv.bolts b (List.mem_of_getElem? hbo)
  have hba : boltAt d n = b := by simp [boltAt, hbo]
  have hst := hvb.st
  simp only [k1, k2, hbo, cellOk, Nat.reduceAdd, Nat.reduceLeDiff, List.all_cons, List.all_nil, List.length_cons, List.length_nil, List.drop_succ_cons, List.drop_zero, List.drop_nil, List.take_succ_cons, List.take_nil, List.headD_cons, List.append_nil, Option.getD_some, Nat.zero_add, Bool.and_self, true_and, and_self, Option.map_some, List.length_map, eBolt]
  refine ru_count (b.stretch.high + 1 - b.stretch.low).toNat (fun i => ⟨lkp [(7, .ad 0 0 0), (8, .i (fewestTo b i)), (9, .i (b.stretch.low + i))], [.cells 0 (eBolt b)]⟩) ?_ ?_ ?_
  · simp only [Int.natCast_zero, Int.add_zero, fewestTo, List.foldl_nil, kp, lkp_cons, lkp_nil, ↓reduceIte, Nat.reduceEqDiff, List.map_cons, List.map_nil, List.take_zero, eBolt]
  · intro i hi
    have hlt : b.stretch.low + (i : Int) ≤ b.stretch.high := by omega
    have h3 : inI (b.stretch.low + (i : Int) + 1) := by unfold inI; omega
    have h4 := hvb.ok66 (s := b.stretch.low + i) (by omega)
    simp only [hlt, h4, gJ66, fewestTo_succ hi, Int.natCast_add, Int.natCast_one, Int.add_assoc, ru_skip, ru_reg, ru_seq, ru_cond, ru_block, ru_exit, ru_ret, ru_keep, thenQ, blockQ, run_nil, run_cons, Fam.step, stepQ, evO, opv, qv, pickV, binV, ldV, curG, callV, hasRef, hasRefL, flat, kp, upd_some, lkp_cons, lkp_nil, ↓reduceIte, Nat.reduceEqDiff, Nat.reduceAdd, Nat.reduceLT, Nat.reduceLeDiff, List.map_cons, List.map_nil, List.length_cons, List.length_nil, List.drop_succ_cons, List.drop_zero, List.take_succ_cons, List.take_nil, List.headD_cons, List.append_nil, List.getElem?_cons_zero, endQ, rvs, rv1, resV, vw_i, vw_sl, vw_ag, vw_tp, beq_self_eq_true, Nat.zero_add, Nat.add_zero, Bool.or_false, Bool.false_eq_true, Bool.true_eq_false, decide_true, true_and, and_true, and_self, forall_const, false_implies, implies_true, eBolt]
    rw [Int.add_assoc] at h3
    exact h3
  · have hgt : ¬ (b.stretch.low + ((b.stretch.high + 1 - b.stretch.low).toNat : Int) ≤ b.stretch.high) := by omega
    simp only [hgt, ru_skip, ru_reg, ru_seq, ru_cond, ru_block, ru_exit, ru_ret, ru_keep, thenQ, blockQ, run_nil, run_cons, Fam.step, stepQ, evO, opv, qv, pickV, binV, ldV, curG, callV, hasRef, hasRefL, upd_some, lkp_cons, lkp_nil, ↓reduceIte, Nat.reduceEqDiff, Nat.reduceAdd, Nat.reduceLT, Nat.reduceLeDiff, List.map_cons, List.map_nil, List.length_cons, List.length_nil, List.drop_succ_cons, List.drop_zero, List.take_succ_cons, List.take_nil, List.headD_cons, List.append_nil, List.getElem?_cons_zero, endQ, rvs, rv1, resV, vw_i, vw_sl, vw_ag, vw_tp, beq_self_eq_true, Nat.zero_add, Nat.add_zero, Bool.or_false, Bool.false_eq_true, decide_false, true_and, and_true, and_self, and_false, forall_const, false_implies, imp_self, eBolt]
    simp [fewest, h, h2, hba, fewestOf, ints_len]
theorem P40 (d : Dome) (n : Int) (hb : d.bolts.length < 1000000) : PureCall Try.prog 40 [.ag (eDome d), .i n] (eNE (fewest d n)) := by
  refine pure_body okJ hmix Try.func40 cb40 cc40 cs40 cn40 ?_
  have g1 := gJ41 d
  have g2 := gJ56 d n
  unfold eDome at g1 g2
  simp only [rc40, rs40, g1, g2, eNE, ru_skip, ru_reg, ru_seq, ru_cond, ru_block, ru_ret, ru_keep, putB, thenQ, run_nil, run_cons, Fam.step, stepQ, stepW, needW, putB, nv, sv, evO, opv, qv, pickV, binV, ldV, iadV, lenV, curG, callV, putAt, V.cells, solid, hasRef, hasRefL, flat, upd_some, upd_none, lkp_cons, lkp_nil, ↓reduceIte, Nat.reduceEqDiff, Nat.reduceAdd, Nat.reduceLT, Nat.reduceLeDiff, List.map_cons, List.map_nil, List.length_cons, List.length_nil, List.drop_zero, List.take_succ_cons, List.take_zero, List.take_nil, List.headD_cons, List.cons_append, List.nil_append, List.append_nil, List.getElem?_cons_zero, List.getElem?_cons_succ, List.getElem?_nil, List.set_cons_zero, List.set_cons_succ, endQ, rvs, rv1, resV, vw_i, vw_sl, vw_ag, vw_tp, zipA, beq_self_eq_true, Nat.zero_add, Bool.or_false, Bool.false_eq_true, decide_eq_true_eq, decide_eq_false_iff_not, true_and, and_true, and_self, implies_true, reduceCtorEq, Bool.not_eq_false', Bool.not_eq_true', List.length_map, List.getD_eq_getElem?_getD, List.getElem?_map, eDome]
  refine ⟨fun h => by simp [fewest, h], fun h => ?_⟩
  have hv := valid_of h
  refine ⟨by have := hv.nb; omega, fun h2 => by simp [fewest, h, h2], fun h2 => ?_⟩
  obtain ⟨k1, k2⟩ := within_nat h2
  obtain ⟨b, hbo⟩ : ∃ b, d.bolts[n.toNat]? = some b := ⟨_, List.getElem?_eq_getElem (by omega)⟩
  have hvb := hv.bolts b (List.mem_of_getElem? hbo)
  have hba : boltAt d n = b := by simp [boltAt, hbo]
  have hst := hvb.st
  have g3 := gJ60 b
  unfold eBolt at g3
  have g4 := gJ70 b
  unfold eBolt at g4
  simp only [k1, k2, hbo, g3, cellOk, hasRef, hasRefL, flat, Nat.reduceAdd, Nat.reduceLeDiff, List.map_cons, List.map_nil, List.all_cons, List.all_nil, List.length_cons, List.length_nil, List.drop_succ_cons, List.drop_zero, List.drop_nil, List.take_succ_cons, List.take_nil, List.headD_cons, List.append_nil, Option.getD_some, vw_i, vw_sl, Nat.zero_add, Bool.and_self, Bool.or_false, Bool.false_eq_true, true_and, and_self, Option.map_some, imp_self, List.length_map, eBolt]
  refine ru_rfnC (gf := 70) (caps := [.pa (eBolt b)]) (ok := tame 1000 b.stretch.low ∧ tame 1000 b.stretch.high) (ys := ysB b) (fun k => [.cells 0 (eBolt b), .cells 0 [.i (fewestTo b k)]]) (fun _ => True) ?_ ?_ (by decide) ?_ rfl ?_ ?_ trivial ?_ ?_
  · simp only [evO, lkp_cons, ↓reduceIte, Nat.reduceEqDiff, eBolt]
  · simp only [g4, Nat.reduceAdd, List.map_cons, List.map_nil, vw_pa, eBolt]
  · unfold tame; omega
  · intro x hx
    obtain ⟨k, hk⟩ := List.getElem?_of_mem hx
    rw [(ysB_get hk).1]; rfl
  · simp only [fewestTo, List.foldl_nil, cutH, cutV, cutL, cutB, List.map_cons, List.map_nil, List.take_succ_cons, List.take_zero, List.take_nil, eBolt]
  · intro k x hx _
    obtain ⟨rfl, hk⟩ := ysB_get hx
    have h4 := hvb.ok66 (s := b.stretch.low + k) (by omega)
    simp only [gJ61, h4, fewestTo_succ hk, ru_reg, ru_any, ru_block, ↓cut_lkp, rnQ, rndQ, updL, cutH, putB, blockQ, run_nil, run_cons, Fam.step, stepQ, needW, runX, eff, nextD, fpR, fpQ, fpV, disjB, hits, putB, nv, sv, evO, opv, qv, pickV, ldV, callV, putAt, V.cells, solid, cellOk, hasRef, hasRefL, flat, cutV, cutL, cutB, upd_some, upd_none, lkp_cons, ↓reduceIte, Nat.reduceEqDiff, Nat.reduceAdd, Nat.reduceLT, Nat.reduceLeDiff, List.map_cons, List.map_nil, List.all_cons, List.all_nil, List.length_cons, List.length_nil, List.drop_succ_cons, List.drop_zero, List.drop_nil, List.take_succ_cons, List.take_zero, List.take_nil, List.headD_cons, List.cons_append, List.nil_append, List.append_nil, List.getElem?_cons_zero, List.getElem?_cons_succ, List.getElem?_nil, Option.getD_none, List.set_cons_zero, List.set_cons_succ, List.replicate_zero, List.isEmpty_nil, List.isEmpty_cons, vw_i, vw_sl, vw_ag, Nat.zero_add, Bool.and_self, Bool.and_true, Bool.true_and, Bool.false_and, Bool.or_false, Bool.false_or, Bool.not_true, Bool.not_false, Bool.false_eq_true, true_and, and_self, implies_true, List.any_cons, List.any_nil, List.contains_cons, List.contains_nil, List.getD_eq_getElem?_getD, eBolt]
  · intro _
    simp only [ysB_len, ru_reg, ru_seq, ru_ret, ru_keep, ↓cut_lkp, thenQ, blockQ, run_nil, run_cons, Fam.step, stepQ, evO, opv, qv, pickV, ldV, cutV, cutL, upd_some, lkp_cons, lkp_nil, ↓reduceIte, Nat.reduceEqDiff, Nat.reduceLT, Nat.reduceLeDiff, List.map_cons, List.map_nil, List.length_cons, List.length_nil, List.drop_zero, List.headD_cons, List.getElem?_cons_zero, List.getElem?_cons_succ, endQ, rvs, rv1, resV, vw_i, vw_tp, Nat.zero_add, Bool.false_eq_true, true_and, and_self, eBolt]
    simp [fewest, h, h2, hba, fewestOf, ints_len]
end Go.C02
