import Derived.Test.YtgcinomjcgebhaaC02P
set_option linter.all false
set_option linter.unusedSimpArgs false
set_option linter.unusedVariables false
namespace Go.C02
open Go.Fam Go.Proofs
theorem fnO_ok {P : Program} {A : Type} {e : A → List V} {d : List V → A} {ok : A → Prop} {v : A → V} {hp : A → List Blk} {f : Nat} (hvB : ∀ a, ((hp a).map bV).map vB = hp a) (h : ∀ a, ok a → OwnCall P f (e a) (v a) (hp a))
    (vs : List V) (r : V) (bs : List V) (h1 : (fnG e d ok (fun a => a) (fun a => .tp [v a, .tp ((hp a).map bV)]) vs).1) (h2 : (fnG e d ok (fun a => a) (fun a => .tp [v a, .tp ((hp a).map bV)]) vs).2 = .tp [r, .tp bs]) : OwnCall P f vs r (bs.map vB) := by
  simp only [fnG, V.tp.injEq, List.cons.injEq, and_true] at h1 h2
  obtain ⟨rfl, rfl⟩ := h2
  have := h (d vs) h1.2
  rw [h1.1] at this
  rwa [hvB]
theorem vw_S (hp : List Blk) (n : Nat) (l : List Span) : (l.map eSpan).map (fun r => r.map (vw hp (n + 1))) = l.map eSpan := map_vw_rows (e := eSpan) hp (n + 1) (fun _ => rfl) l
theorem vw_B (hp : List Blk) (n : Nat) (l : List Bolt) : (l.map eBolt).map (fun r => r.map (vw hp (n + 1))) = l.map eBolt := map_vw_rows (e := eBolt) hp (n + 1) (fun _ => rfl) l
/-- the dome of the chapter's examples -/
def exD : Dome := ⟨[⟨⟨0, 20⟩, [⟨1000, ⟨1005, 1010⟩⟩], 0⟩, ⟨⟨0, 10⟩, [], 0⟩], [0, 0, 1, 1], 5, [⟨400, 404⟩, ⟨600, 650⟩, ⟨803, 806⟩], [110, 165, 210], 50⟩
def exD2 : Dome := { exD with rounds := [⟨400, 404⟩, ⟨600, 650⟩, ⟨800, 808⟩] }
def exCs : List V := [.sl 4 (exD.bolts.map eBolt), .sl 1 (exD.gores.map eI), .i 5, .rf 1 0 0 3 2, .sl 1 (exD.widths.map eI), .i 50]
def exHp : List Blk := [.cells 0 exCs, .cells 0 [.i 400, .i 404, .i 600, .i 650, .i 803, .i 806]]
theorem exRows : chunk 2 [.i 400, .i 404, .i 600, .i 650, .i 803, .i 806] 0 3 = exD.rounds.map eSpan := rfl
theorem exRows2 : chunk 2 [.i 400, .i 404, .i 600, .i 650, .i 800, .i 808] 0 3 = exD2.rounds.map eSpan := rfl
theorem exE : (⟨exD.bolts, exD.gores, 5, exD.rounds, exD.widths, 50⟩ : Dome) = exD := rfl
theorem exE2 : (⟨exD.bolts, exD.gores, 5, exD2.rounds, exD.widths, 50⟩ : Dome) = exD2 := rfl
theorem exLen : exD.rounds.length = 3 := rfl
theorem exLen2 : exD2.rounds.length = 3 := rfl
theorem O44 : OwnCall Try.prog 44 [] (.ag exCs) exHp := by
  refine own_body okQ hmix Try.func44 cb44 cc44 cs44 cn44 ?_
  simp only [rc44, rs44, exCs, exHp, exD, List.flatten_cons, List.flatten_nil, ru_reg, ru_seq, ru_ret, ru_keep, chunk1, putB, endO, thenQ, run_nil, run_cons, Fam.step, stepQ, stepW, needW, putB, nv, sv, evO, opv, qv, pickV, ldV, foldParts, putAt, partsOk, partsOne, V.cells, solid, cellOk, hasRef, hasRefL, upd_some, upd_none, lkp_cons, lkp_nil, ↓reduceIte, Nat.reduceEqDiff, Nat.reduceAdd, Nat.reduceMul, Nat.reduceLeDiff, List.map_cons, List.map_nil, List.all_cons, List.all_nil, List.length_cons, List.length_nil, List.drop_succ_cons, List.drop_zero, List.drop_nil, List.take_succ_cons, List.take_zero, List.take_nil, List.cons_append, List.nil_append, List.append_nil, List.getElem?_cons_zero, List.set_cons_zero, List.replicate_zero, List.replicate_succ, rvs, rv1, resV, vw_i, vw_z, vw_sl, vw_ag, zipA, Nat.zero_add, Bool.and_self, Bool.or_false, true_and, and_self, reduceCtorEq, not_false_eq_true, ne_eq, eStrip, eBolt, eI]
  exact ⟨rfl, rfl⟩
theorem O26 (d : Dome) (h : pitchE d true = 0) : OwnCall Try.prog 26 [.ag (eDome d)] (.tp [.rf 0 (looseTo d d.widths.length).length 0 (looseTo d d.widths.length).length 1, .i 0]) [.cells (looseTo d d.widths.length).length ((looseTo d d.widths.length).map eI).flatten] := by
  refine own_body okP hmix Try.func26 cb26 cc26 cs26 cn26 ?_
  simp only [rc26, rs26, gP45, pitchV, h, ru_skip, ru_reg, ru_seq, ru_cond, ru_block, ru_ret, ru_keep, ru_own, endO, thenQ, run_nil, run_cons, Fam.step, stepQ, evO, opv, qv, pickV, binV, ldV, lenV, callV, V.cells, solid, hasRef, hasRefL, flat, flatL, upd_some, lkp_cons, lkp_nil, ↓reduceIte, Nat.reduceEqDiff, Nat.reduceAdd, Nat.reduceLT, Nat.reduceLeDiff, List.map_cons, List.map_nil, List.length_cons, List.length_nil, List.drop_succ_cons, List.drop_zero, List.take_succ_cons, List.take_nil, List.headD_cons, List.cons_append, List.nil_append, List.append_nil, List.getElem?_cons_zero, List.getElem?_cons_succ, List.getElem?_nil, Option.getD_some, rvs, rv1, resV, vw_i, vw_b, vw_sl, vw_ag, zipA, Nat.zero_add, Bool.and_self, Bool.and_true, Bool.or_false, Bool.not_true, Bool.false_eq_true, decide_true, true_and, and_self, and_false, forall_const, reduceCtorEq, imp_self, List.length_map, domeE, eDome, eTent]
  obtain ⟨hg, _⟩ := pitchE_zero h
  have hnr := hg.v.nr
  have hnw := hg.v.nw
  refine ru_count d.widths.length (fun i => ⟨lkp [(4, .pa (eTent (tentOf d))), (6, .rf 0 (looseTo d i).length 0 (looseTo d i).length 1), (18, .sl 1 (d.widths.map eI)), (19, .i d.widths.length), (20, .i i)], [.cells (looseTo d i).length ((looseTo d i).map eI).flatten]⟩) ?_ ?_ ?_
  · simp only [Int.natCast_zero, tentOf, eTent, looseTo, List.filter_nil, List.flatten_nil, kp, lkp_cons, lkp_nil, ↓reduceIte, Nat.reduceEqDiff, List.map_cons, List.map_nil, List.length_nil, List.take_zero, List.cons_append, List.nil_append, ne_eq, eDome, eTent]
  · intro i hi
    obtain ⟨x, hx⟩ : ∃ x, d.widths[i]? = some x := ⟨_, List.getElem?_eq_getElem hi⟩
    have hxw : widthAt d i = x := by simp [widthAt, hx]
    have hrow : isRow d i = true := by simp only [isRow, within, Bool.and_eq_true, decide_eq_true_eq]; omega
    have h47 := hg.ok47 hrow (w := x) (hg.v.widths x (List.mem_of_getElem? hx))
    have hlt : (i : Int) < d.widths.length := by omega
    have h3 : inI ((i : Int) + 1) := by unfold inI; omega
    have hget : (ints 0 ((d.widths.length : Int) - 1))[i]? = some (i : Int) := by rw [ints_get (by omega)]; simp
    have hs : looseTo d (i + 1) = looseTo d i ++ (if decide (tightOf (tentOf d) i (widthAt d i) ≠ 1) then [(i : Int)] else []) := filter_snoc _ hget
    have hll : (looseTo d i).length ≤ i := Nat.le_trans (List.length_filter_le _ _) (List.length_take_le _ _)
    rw [hxw] at hs
    unfold tentOf at hs h47
    simp only [hlt, h3, hx, eTent, tentOf, gP47, h47, hs, Int.natCast_add, Int.natCast_one, ru_skip, ru_reg, ru_seq, ru_cond, ru_block, ru_exit, ru_ret, ru_keep, chunk1, putB, endO, thenQ, blockQ, run_nil, run_cons, Fam.step, stepQ, stepW, needW, putB, nv, sv, newsV, evO, opv, qv, pickV, binV, ldV, iadV, callV, foldParts, putAt, partsOk, partsOne, V.cells, solid, cellOk, hasRef, hasRefL, flat, kp, upd_some, lkp_cons, lkp_nil, ↓reduceIte, Nat.reduceEqDiff, Nat.reduceMul, Nat.reduceLT, Nat.reduceLeDiff, List.map_cons, List.map_nil, List.all_cons, List.all_nil, List.length_cons, List.length_nil, List.take_succ_cons, List.take_zero, List.headD_cons, List.cons_append, List.nil_append, List.append_nil, List.getElem?_cons_zero, Option.getD_some, List.set_cons_zero, List.replicate_zero, List.replicate_succ, rvs, rv1, resV, vw_i, vw_pa, Int.natCast_nonneg, Nat.zero_add, Bool.and_self, Bool.or_false, Bool.false_eq_true, Bool.true_eq_false, decide_true, decide_eq_true_eq, decide_eq_false_iff_not, true_and, and_true, and_self, forall_const, false_implies, implies_true, reduceCtorEq, not_false_eq_true, ne_eq, Option.map_some, Bool.not_eq_false', Bool.not_eq_true', List.length_map, Int.toNat_natCast, List.getD_eq_getElem?_getD, List.getElem?_map, domeE, eDome, eI, eTent]
    refine ⟨fun he => ?_, fun he => ?_⟩
    · simp only [he, len_I, List.length_append, List.map_append, List.flatten_append, List.flatten_cons, List.flatten_nil, Nat.mul_one, ↓reduceIte, List.map_cons, List.map_nil, List.length_cons, List.length_nil, List.append_nil, Nat.zero_add, true_and, and_true, not_false_eq_true, eI]
      unfold fitsLen; omega
    · simp only [he, ↓reduceIte, List.append_nil, not_true_eq_false]
  · simp only [ru_skip, ru_reg, ru_seq, ru_cond, ru_block, ru_exit, ru_ret, ru_keep, chunk1, putB, endO, thenQ, blockQ, run_nil, run_cons, Fam.step, stepQ, stepW, needW, putB, nv, sv, newsV, evO, opv, qv, pickV, binV, ldV, iadV, callV, foldParts, putAt, partsOk, partsOne, V.cells, solid, cellOk, hasRef, hasRefL, upd_some, lkp_cons, lkp_nil, ↓reduceIte, Nat.reduceEqDiff, Nat.reduceMul, Nat.reduceLT, Nat.reduceLeDiff, List.map_cons, List.map_nil, List.all_cons, List.all_nil, List.length_cons, List.length_nil, List.take_succ_cons, List.take_zero, List.cons_append, List.nil_append, List.append_nil, List.getElem?_cons_zero, List.set_cons_zero, List.replicate_zero, List.replicate_succ, rvs, rv1, resV, vw_i, vw_pa, Int.lt_irrefl, Int.natCast_nonneg, Nat.zero_add, Bool.and_self, Bool.or_false, Bool.false_or, Bool.false_eq_true, decide_false, true_and, and_self, false_and, and_false, forall_const, reduceCtorEq, not_false_eq_true, ne_eq, imp_self, List.length_map, Int.toNat_natCast, List.getD_eq_getElem?_getD, List.getElem?_map, eDome, eTent]
noncomputable def v26 (d : Dome) : V := .tp [.rf 0 (looseTo d d.widths.length).length 0 (looseTo d d.widths.length).length 1, .i 0]
noncomputable def h26 (d : Dome) : List Blk := [.cells (looseTo d d.widths.length).length ((looseTo d d.widths.length).map eI).flatten]
theorem h26_vB (d : Dome) : ((h26 d).map bV).map vB = h26 d := by simp [h26, bV, vB]
noncomputable def r26o : List V → Prop × V := fnG (fun d => [.ag (eDome d)]) dD (fun d => pitchE d true = 0) (fun d => d) (fun d => .tp [v26 d, .tp ((h26 d).map bV)])
def r23 : List V → Prop × V := fnG eDN dDN (fun a => a.1.rounds.length < 1000) (fun a => roundR a.1 a.2) eSE
noncomputable def r17 : List V → Prop × V := fnG eDN dDN (fun a => a.1.rounds.length < 1000) (fun a => tightR a.1 a.2) eNE
def r19 : List V → Prop × V := fnG eDN dDN (fun a => a.1.rounds.length < 1000) (fun a => cutR a.1 a.2) eSE
noncomputable def r26 : List V → Prop × V := fnG (fun d => [.ag (eDome d)]) dD (fun _ => True) looseR eLE
def r31 : List V → Prop × V := fnG (fun d => [.ag (eDome d)]) dD (fun _ => True) leastR eNE
def r36 : List V → Prop × V := fnG eDN dDN (fun a => a.1.bolts.length < 1000) (fun a => stretchesR a.1 a.2) eLE
def eLL (a : List Int × List Int) : List V := [.sl 1 (a.1.map eI), .sl 1 (a.2.map eI)]
def dLL : List V → List Int × List Int | [.sl _ x, .sl _ y] => (x.map dI, y.map dI) | _ => ([], [])
theorem dLL_e (a : List Int × List Int) : dLL (eLL a) = a := by simp [dLL, eLL, Function.comp_def, dI_eI]
def r28 : List V → Prop × V := fnG eLL dLL (fun a => a.1.length < 10000000) (fun a => decide (a.1 = a.2)) .b
def eSN (a : Span × Int) : List V := [.ag (eSpan a.1), .i a.2]
def dSN : List V → Span × Int | [.ag s, .i n] => (dSpan s, n) | _ => (⟨0, 0⟩, 0)
def r20 : List V → Prop × V := fnG eSN dSN (fun _ => True) (fun a => within a.2 a.1.low a.1.high) .b
def eLN (a : List Int × Int) : List V := [.sl 1 (a.1.map eI), .i a.2]
def dLN : List V → List Int × Int | [.sl _ x, .i y] => (x.map dI, y) | _ => ([], 0)
theorem dLN_e (a : List Int × Int) : dLN (eLN a) = a := by simp [dLN, eLN, Function.comp_def, dI_eI]
def r37 : List V → Prop × V := fnG eLN dLN (fun a => a.1.length < 10000000) (fun a => decide (a.2 ∈ a.1)) .b
def r44o : List V → Prop × V := fnG (fun _ : Unit => []) (fun _ => ()) (fun _ => True) (fun a => a) (fun _ => .tp [.ag exCs, .tp (exHp.map bV)])
theorem ex_vB : (exHp.map bV).map vB = exHp := by simp [exHp, exCs, bV, vB]
noncomputable def GR : Gam := ((((((((((GQ.ext 23 r23).ext 17 r17).ext 19 r19).ext 26 r26).ext 31 r31).ext 36 r36).ext 28 r28).ext 20 r20).ext 37 r37).ext 1000044 r44o).ext 1000026 r26o
theorem okR : GOk Try.prog GR := by
  have k1 := okQ.ext (f := 23) (r := r23) (fun a w => Try.call23 a w) (fnG_ok fun a h => P23 a.1 a.2 h)
  have k2 := k1.ext (f := 17) (r := r17) (fun a w => Try.call17 a w) (fnG_ok fun a h => P17 a.1 a.2 h)
  have k3 := k2.ext (f := 19) (r := r19) (fun a w => Try.call19 a w) (fnG_ok fun a h => P19 a.1 a.2 h)
  have k4 := k3.ext (f := 26) (r := r26) (fun a w => Try.call26 a w) (fnG_ok fun a _ => P26 a)
  have k5 := k4.ext (f := 31) (r := r31) (fun a w => Try.call31 a w) (fnG_ok fun a _ => P31 a)
  have k6 := k5.ext (f := 36) (r := r36) (fun a w => Try.call36 a w) (fnG_ok fun a h => P36 a.1 a.2 h)
  have k7 := k6.ext (f := 28) (r := r28) (fun a w => Try.call28 a w) (fnG_ok fun a h => P28 a.1 a.2 h)
  have k8 := k7.ext (f := 20) (r := r20) (fun a w => Try.call20 a w) (fnG_ok fun a _ => P20 a.1 a.2)
  have k9 := k8.ext (f := 37) (r := r37) (fun a w => Try.call37 a w) (fnG_ok fun a h => P37 a.1 a.2 h)
  have k10 := k9.extO (f := 44) (r := r44o) (fun a w => Try.call44 a w) (fnO_ok (hp := fun _ => exHp) (fun _ => ex_vB) fun _ _ => O44)
  exact k10.extO (f := 26) (r := r26o) (fun a w => Try.call26 a w) (fnO_ok (hp := h26) h26_vB fun d h => O26 d h)
theorem gR23 (b : List Bolt) (g : List Int) (l : Int) (r : List Span) (w : List Int) (s : Int) (n : Int) : GR 23 [.ag [.sl 4 (b.map eBolt), .sl 1 (g.map eI), .i l, .sl 2 (r.map eSpan), .sl 1 (w.map eI), .i s], .i n] = (r.length < 1000, eSE (roundR ⟨b, g, l, r, w, s⟩ n)) :=
  (show GR 23 _ = r23 (eDN (⟨b, g, l, r, w, s⟩, n)) from rfl).trans (fnG_at _ (dDN_e _))
theorem gR17 (b : List Bolt) (g : List Int) (l : Int) (r : List Span) (w : List Int) (s : Int) (n : Int) : GR 17 [.ag [.sl 4 (b.map eBolt), .sl 1 (g.map eI), .i l, .sl 2 (r.map eSpan), .sl 1 (w.map eI), .i s], .i n] = (r.length < 1000, eNE (tightR ⟨b, g, l, r, w, s⟩ n)) :=
  (show GR 17 _ = r17 (eDN (⟨b, g, l, r, w, s⟩, n)) from rfl).trans (fnG_at _ (dDN_e _))
theorem gR19 (b : List Bolt) (g : List Int) (l : Int) (r : List Span) (w : List Int) (s : Int) (n : Int) : GR 19 [.ag [.sl 4 (b.map eBolt), .sl 1 (g.map eI), .i l, .sl 2 (r.map eSpan), .sl 1 (w.map eI), .i s], .i n] = (r.length < 1000, eSE (cutR ⟨b, g, l, r, w, s⟩ n)) :=
  (show GR 19 _ = r19 (eDN (⟨b, g, l, r, w, s⟩, n)) from rfl).trans (fnG_at _ (dDN_e _))
theorem gR36 (b : List Bolt) (g : List Int) (l : Int) (r : List Span) (w : List Int) (s : Int) (n : Int) : GR 36 [.ag [.sl 4 (b.map eBolt), .sl 1 (g.map eI), .i l, .sl 2 (r.map eSpan), .sl 1 (w.map eI), .i s], .i n] = (b.length < 1000, eLE (stretchesR ⟨b, g, l, r, w, s⟩ n)) :=
  (show GR 36 _ = r36 (eDN (⟨b, g, l, r, w, s⟩, n)) from rfl).trans (fnG_at _ (dDN_e _))
theorem gR26 (b : List Bolt) (g : List Int) (l : Int) (r : List Span) (w : List Int) (s : Int) : GR 26 [.ag [.sl 4 (b.map eBolt), .sl 1 (g.map eI), .i l, .sl 2 (r.map eSpan), .sl 1 (w.map eI), .i s]] = (True, eLE (looseR ⟨b, g, l, r, w, s⟩)) :=
  (show GR 26 _ = r26 [.ag (eDome ⟨b, g, l, r, w, s⟩)] from rfl).trans (fnG_at (e := fun d => [.ag (eDome d)]) _ (dDome_e _))
theorem gR31 (b : List Bolt) (g : List Int) (l : Int) (r : List Span) (w : List Int) (s : Int) : GR 31 [.ag [.sl 4 (b.map eBolt), .sl 1 (g.map eI), .i l, .sl 2 (r.map eSpan), .sl 1 (w.map eI), .i s]] = (True, eNE (leastR ⟨b, g, l, r, w, s⟩)) :=
  (show GR 31 _ = r31 [.ag (eDome ⟨b, g, l, r, w, s⟩)] from rfl).trans (fnG_at (e := fun d => [.ag (eDome d)]) _ (dDome_e _))
theorem gR28 (a b : List Int) : GR 28 [.sl 1 (a.map eI), .sl 1 (b.map eI)] = (a.length < 10000000, .b (decide (a = b))) := (show GR 28 _ = r28 (eLL (a, b)) from rfl).trans (fnG_at _ (dLL_e _))
theorem gR20 (a b n : Int) : GR 20 [.ag [.i a, .i b], .i n] = (True, .b (within n a b)) := (show GR 20 _ = r20 (eSN (⟨a, b⟩, n)) from rfl).trans (fnG_at _ rfl)
theorem gR37 (a : List Int) (n : Int) : GR 37 [.sl 1 (a.map eI), .i n] = (a.length < 10000000, .b (decide (n ∈ a))) := (show GR 37 _ = r37 (eLN (a, n)) from rfl).trans (fnG_at _ (dLN_e _))
theorem gR44 : GR 1000044 [] = (True, .tp [.ag exCs, .tp (exHp.map bV)]) := (show GR 1000044 _ = r44o [] from rfl).trans (by simp [r44o, fnG])
theorem gR26o (b : List Bolt) (g : List Int) (l : Int) (r : List Span) (w : List Int) (s : Int) : GR 1000026 [.ag [.sl 4 (b.map eBolt), .sl 1 (g.map eI), .i l, .sl 2 (r.map eSpan), .sl 1 (w.map eI), .i s]] = (pitchE ⟨b, g, l, r, w, s⟩ true = 0, .tp [v26 ⟨b, g, l, r, w, s⟩, .tp ((h26 ⟨b, g, l, r, w, s⟩).map bV)]) :=
  (show GR 1000026 _ = r26o [.ag (eDome ⟨b, g, l, r, w, s⟩)] from rfl).trans (fnG_at (e := fun d => [.ag (eDome d)]) _ (dDome_e _))
theorem ex_round : roundR exD 2 = (⟨802, 808⟩, 0) := by kernel_rfl
theorem ex_cut : cutR exD 1 = (⟨160, 171⟩, 0) := by kernel_rfl
theorem ex_least : leastR exD2 = (480, 0) := by kernel_rfl
theorem ex_pitch (n : Int) (h : isRow exD n = true) : pitchE exD (isRow exD n) = 0 := by rw [h]; kernel_rfl
theorem ex_tight1 : tightOf (tentOf exD) 1 165 = 1 := by
  unfold tightOf
  rw [if_pos (of_decide_eq_true (by kernel_rfl))]
theorem ex_tight0 : tightOf (tentOf exD) 0 110 = 1 := by
  unfold tightOf
  rw [if_pos (of_decide_eq_true (by kernel_rfl))]
theorem ex_tight2 : tightOf (tentOf exD) 2 210 ≠ 1 := by
  unfold tightOf
  rw [if_neg (of_decide_eq_true (by kernel_rfl))]
  split <;> decide
theorem ex_tight : tightR exD 1 = (1, 0) := by
  unfold tightR
  rw [if_pos (by kernel_rfl)]
  rw [show widthAt exD 1 = 165 from by kernel_rfl, ex_tight1]
theorem ex_loose : looseR exD = ([2], 0) := by
  unfold looseR
  rw [if_pos (by kernel_rfl)]
  unfold looseTo
  rw [show ((ints 0 ((exD.widths.length : Int) - 1)).take exD.widths.length) = [0, 1, 2] from by kernel_rfl]
  have w0 : widthAt exD 0 = 110 := by kernel_rfl
  have w1 : widthAt exD 1 = 165 := by kernel_rfl
  have w2 : widthAt exD 2 = 210 := by kernel_rfl
  simp [List.filter, w0, w1, w2, ex_tight0, ex_tight1, ex_tight2]
theorem ex_looseTo : looseTo exD exD.widths.length = [2] := by
  have := ex_loose
  unfold looseR at this
  rw [if_pos (by kernel_rfl)] at this
  exact (Prod.mk.inj this).1
theorem g28ex : GR 28 [.sl 1 [[.i 2]], .sl 1 [[.i 2]]] = (True, .b true) := (gR28 [2] [2]).trans (by simp)
theorem ex_p : pitchE exD true = 0 := by kernel_rfl
set_option maxRecDepth 20000 in
set_option maxHeartbeats 4000000 in
theorem P16 : PureCall Try.prog 16 [] (.b true) := by
  refine pure_body okR hmix Try.func16 cb16 cc16 cs16 cn16 ?_
  simp only [rc16, rs16, gR44, exCs, exHp, vw_S, ↓exRows, ↓exRows2, exE, exE2, exLen, gR23, gR17, gR19, gR26o, gR31, ex_round, ex_tight, ex_cut, ex_looseTo, ex_p, ex_least, v26, h26, g28ex, eqSpan, Bool.false_xor, eSE, eNE, List.flatten_cons, List.flatten_nil, ru_reg, ru_seq, ru_ret, ru_keep, chunk1, stepO, ocV, rflat, rflatL, rflatB, shV, shL, shB, vB_cells, putB, thenQ, run_nil, run_cons, Fam.step, stepQ, stepW, needQ, needW, condB, ug, putB, nv, sv, evO, opv, qv, pickV, binV, ldV, iadV, curG, callV, foldParts, putAt, partsOk, partsOne, V.cells, solid, cellOk, intsOf, hasRef, hasRefL, flat, flatL, upd_some, upd_none, lkp_cons, lkp_nil, ↓reduceIte, Nat.reduceEqDiff, Nat.reduceAdd, Nat.reduceMul, Nat.reduceLT, Nat.reduceLeDiff, Int.reduceToNat, Int.reduceLE, List.map_cons, List.map_nil, List.all_cons, List.all_nil, List.length_cons, List.length_nil, List.drop_succ_cons, List.drop_zero, List.drop_nil, List.take_succ_cons, List.take_zero, List.take_nil, List.headD_cons, List.cons_append, List.nil_append, List.append_nil, List.getElem?_cons_zero, List.getElem?_cons_succ, Option.getD_some, List.set_cons_zero, List.set_cons_succ, List.replicate_zero, List.replicate_succ, endQ, rvs, rv1, resV, vw_i, vw_b, vw_sl, vw_ag, vw_rf, zipA, beq_self_eq_true, Nat.zero_add, Nat.add_zero, Bool.and_self, Bool.and_true, Bool.and_false, Bool.or_false, Bool.or_true, Bool.false_eq_true, Bool.true_eq_false, decide_true, true_and, and_true, and_self, forall_const, implies_true, reduceCtorEq, not_false_eq_true, ne_eq, Option.map_some, imp_self, eSpan, eI]
  decide
end Go.C02
