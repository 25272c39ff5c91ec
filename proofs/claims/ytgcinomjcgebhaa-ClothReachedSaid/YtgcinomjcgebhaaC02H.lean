import Derived.Test.YtgcinomjcgebhaaC02G
set_option linter.all false
set_option linter.unusedSimpArgs false
set_option linter.unusedVariables false
namespace Go.C02
open Go.Fam Go.Proofs
theorem P71 (d : Dome) (n : Int) (h : d.bolts.length < 1000000) : PureCall Try.prog 71 [.i n, .pa (eDome d)] (.b (goreOk d n)) := by
  refine pure_body okC hmix Try.func71 cb71 cc71 cs71 cn71 ?_
  have h1 : inI ((d.bolts.length : Int) - 1) := by unfold inI; omega
  simp only [rc71, rs71, gC67, h1, ru_reg, ru_seq, ru_ret, ru_keep, thenQ, run_nil, run_cons, Fam.step, stepQ, evO, opv, qv, pickV, binV, ldV, lenV, callV, hasRef, hasRefL, flat, upd_some, lkp_cons, lkp_nil, ↓reduceIte, Nat.reduceEqDiff, Nat.reduceAdd, Nat.reduceLT, Nat.reduceLeDiff, List.map_cons, List.map_nil, List.length_cons, List.length_nil, List.drop_zero, List.headD_cons, List.append_nil, endQ, rvs, rv1, resV, vw_i, vw_b, zipA, Nat.zero_add, V.b.injEq, Bool.or_false, Bool.false_eq_true, true_and, and_self, implies_true, reduceCtorEq, List.length_map, eDome]
  rfl
theorem P74 (d : Dome) (n : Int) (h : inI (2 * d.loss)) : PureCall Try.prog 74 [.i n, .pa (eDome d)] (.b (widthOk d n)) := by
  refine pure_body okC hmix Try.func74 cb74 cc74 cs74 cn74 ?_
  simp only [rc74, rs74, gC67, h, ru_reg, ru_seq, ru_ret, ru_keep, thenQ, run_nil, run_cons, Fam.step, stepQ, evO, opv, qv, pickV, binV, ldV, callV, hasRef, hasRefL, flat, upd_some, lkp_cons, lkp_nil, ↓reduceIte, Nat.reduceEqDiff, Nat.reduceAdd, Nat.reduceLT, Nat.reduceLeDiff, List.map_cons, List.map_nil, List.length_cons, List.length_nil, List.drop_succ_cons, List.drop_zero, List.headD_cons, List.append_nil, endQ, rvs, rv1, resV, vw_i, vw_b, zipA, Nat.zero_add, V.b.injEq, Bool.or_false, Bool.false_eq_true, true_and, and_self, implies_true, reduceCtorEq, eDome]
  rfl
theorem P72 (s : Span) : PureCall Try.prog 72 [.ag (eSpan s)] (.b (roundOk s)) := by
  refine pure_body okC hmix Try.func72 cb72 cc72 cs72 cn72 ?_
  simp only [rc72, rs72, gC73, ru_reg, ru_seq, ru_ret, ru_keep, thenQ, run_nil, run_cons, Fam.step, stepQ, evO, opv, qv, pickV, ldV, callV, V.cells, solid, hasRef, hasRefL, flat, upd_some, lkp_cons, lkp_nil, ↓reduceIte, Nat.reduceEqDiff, Nat.reduceAdd, Nat.reduceLT, Nat.reduceLeDiff, List.map_cons, List.map_nil, List.length_cons, List.length_nil, List.take_succ_cons, List.take_nil, List.append_nil, endQ, rvs, rv1, resV, vw_i, vw_b, vw_ag, zipA, Nat.zero_add, V.b.injEq, Bool.or_false, Bool.false_eq_true, true_and, and_self, implies_true, spanE, eSpan]
  rfl
def eND (a : Int × Dome) : List V := [.i a.1, .pa (eDome a.2)]
def dND : List V → Int × Dome | [.i n, .pa cs] => (n, dDome cs) | _ => (0, D0)
theorem dND_e (a : Int × Dome) : dND (eND a) = a := by simp [dND, eND, dDome_e]
def r71 : List V → Prop × V := fnG eND dND (fun a => a.2.bolts.length < 1000000) (fun a => goreOk a.2 a.1) .b
def r74 : List V → Prop × V := fnG eND dND (fun a => inI (2 * a.2.loss)) (fun a => widthOk a.2 a.1) .b
def r72 : List V → Prop × V := fnG (fun s => [.ag (eSpan s)]) (fun vs => dSpan (aC (vs.headD .u))) (fun _ => True) roundOk .b
def GD : Gam := ((GC.ext 71 r71).ext 74 r74).ext 72 r72
theorem okD : GOk Try.prog GD :=
  ((okC.ext (fun a w => Try.call71 a w) (fnG_ok fun a h => P71 a.2 a.1 h)).ext (fun a w => Try.call74 a w) (fnG_ok fun a h => P74 a.2 a.1 h)).ext (fun a w => Try.call72 a w) (fnG_ok fun a _ => P72 a)
theorem bStrip (k : Unit) (x : Strip) (h : okStrip k) : GD 80 (V.ag (eStrip x) :: capStrip k) = (True, .b (prStrip k x)) := rfl
theorem bSpan (Γ : Gam) (hΓ : Γ 72 = r72) (k : Unit) (x : Span) (h : okSpan k) : Γ 72 (V.ag (eSpan x) :: capSpan k) = (True, .b (prSpan k x)) := by
  rw [hΓ]
  exact (show r72 _ = r72 [.ag (eSpan x)] from rfl).trans ((fnG_at (e := fun s => [.ag (eSpan s)]) x rfl).trans (by rfl))
theorem bInt (Γ : Gam) (h1 : Γ 71 = r71) (h2 : Γ 74 = r74) (k : Dome × Bool) (x : Int) (h : okInt k) : Γ (if k.2 then 71 else 74) (V.i x :: capInt k) = (True, .b (prInt k x)) := by
  obtain ⟨d, b⟩ := k
  cases b
  · exact (show Γ 74 _ = r74 (eND (x, d)) from by rw [h2]; rfl).trans ((fnG_at (x, d) (dND_e _)).trans (by rw [eq_true (show inI (2 * d.loss) from h)]; rfl))
  · exact (show Γ 71 _ = r71 (eND (x, d)) from by rw [h1]; rfl).trans ((fnG_at (x, d) (dND_e _)).trans (by rw [eq_true (show d.bolts.length < 1000000 from h)]; rfl))
def GE : Gam := famInt (famSpan (famStrip GD))
theorem okE : GOk Try.prog GE := famInt_ok (famSpan_ok (famStrip_ok okD bStrip) (bSpan _ rfl)) (bInt _ rfl rfl)
theorem gE67 (n lo hi : Int) : GE 67 [.i n, .i lo, .i hi] = (True, .b (within n lo hi)) := rfl
theorem gE73 (a b m : Int) : GE 73 [.ag [.i a, .i b], .i m] = (True, .b (isSpan ⟨a, b⟩ m)) := rfl
theorem gE79 (l : List Strip) : GE 79 [.sl 3 (l.map eStrip), .fn 80 []] = (l.length < 10000000, .b (l.all isStrip)) :=
  (show GE 79 _ = famStrip GD 79 [.sl 3 (l.map eStrip), cvStrip ()] from rfl).trans ((famStrip_all GD l ()).trans (by simp [okLStrip, okStrip]; rfl))
theorem P64 (b : Bolt) : PureCall Try.prog 64 [.ag (eBolt b)] (.b (isBolt b)) := by
  refine pure_body okE hmix Try.func64 cb64 cc64 cs64 cn64 ?_
  simp only [rc64, rs64, gE67, gE73, gE79, ru_reg, ru_seq, ru_ret, ru_keep, thenQ, run_nil, run_cons, Fam.step, stepQ, needQ, condB, ug, evO, opv, qv, pickV, binV, ldV, lenV, callV, V.cells, solid, hasRef, hasRefL, flat, upd_some, lkp_cons, lkp_nil, ↓reduceIte, Nat.reduceEqDiff, Nat.reduceAdd, Nat.reduceLT, Nat.reduceLeDiff, List.map_cons, List.map_nil, List.all_cons, List.all_nil, List.length_cons, List.length_nil, List.drop_succ_cons, List.drop_zero, List.take_succ_cons, List.take_zero, List.headD_cons, List.append_nil, endQ, rvs, rv1, resV, vw_i, vw_b, vw_sl, vw_ag, vw_fn, zipA, Nat.zero_add, V.b.injEq, Bool.and_self, Bool.and_true, Bool.or_false, Bool.false_eq_true, true_and, and_true, and_self, implies_true, beq_true, ite_f, Bool.decide_eq_true, imp_self, List.length_map, spanE, eBolt]
  have e : isBolt b = (isSpan b.stretch 60 && decide ((b.strips.length : Int) ≤ 8) && b.strips.all isStrip && within b.wrong 0 2) := by
    unfold isBolt
    have : decide ((b.strips.length : Int) ≤ 8) = decide (b.strips.length ≤ 8) := by congr 1; simp; omega
    rw [this]
    cases isSpan b.stretch 60 <;> cases within b.wrong 0 2 <;> cases b.strips.all isStrip <;> simp
  refine ⟨fun h => ⟨h, ?_⟩, e.symm⟩
  have : b.strips.length ≤ 8 := by cases h1 : isSpan b.stretch 60 <;> simp [h1] at h; omega
  omega
def r64 : List V → Prop × V := fnG (fun b => [.ag (eBolt b)]) dB (fun _ => True) isBolt .b
def GF : Gam := GE.ext 64 r64
theorem okF : GOk Try.prog GF := okE.ext (fun a w => Try.call64 a w) (fnG_ok fun a _ => P64 a)
theorem bBolt (Γ : Gam) (h1 : Γ 64 = r64) (k : Unit) (x : Bolt) (h : okBolt k) : Γ 64 (V.ag (eBolt x) :: capBolt k) = (True, .b (prBolt k x)) := by
  rw [h1]
  exact (show r64 _ = r64 [.ag (eBolt x)] from rfl).trans ((fnG_at (e := fun b => [.ag (eBolt b)]) x (dBolt_e _)).trans (by rfl))
def GG : Gam := famBolt GF
theorem okG : GOk Try.prog GG := famBolt_ok okF (bBolt _ rfl)
theorem gG67 (n lo hi : Int) : GG 67 [.i n, .i lo, .i hi] = (True, .b (within n lo hi)) := rfl
theorem gG75 (l : List Int) (d : Dome) : GG 75 [.sl 1 (l.map eI), .fn 71 [.pa (eDome d)]] = (l.length < 10000000 ∧ d.bolts.length < 1000000, .b (l.all (goreOk d))) :=
  (show GG 75 _ = famInt (famSpan (famStrip GD)) 75 [.sl 1 (l.map eI), cvInt (d, true)] from rfl).trans ((famInt_all _ l (d, true)).trans (by rfl))
theorem gG75' (l : List Int) (d : Dome) : GG 75 [.sl 1 (l.map eI), .fn 74 [.pa (eDome d)]] = (l.length < 10000000 ∧ inI (2 * d.loss), .b (l.all (widthOk d))) :=
  (show GG 75 _ = famInt (famSpan (famStrip GD)) 75 [.sl 1 (l.map eI), cvInt (d, false)] from rfl).trans ((famInt_all _ l (d, false)).trans (by rfl))
theorem gG76 (l : List Span) : GG 76 [.sl 2 (l.map eSpan), .fn 72 []] = (l.length < 10000000, .b (l.all roundOk)) :=
  (show GG 76 _ = famSpan (famStrip GD) 76 [.sl 2 (l.map eSpan), cvSpan ()] from rfl).trans ((famSpan_all _ l ()).trans (by simp [okLSpan, okSpan]; rfl))
theorem gG63 (l : List Bolt) : GG 63 [.sl 4 (l.map eBolt), .fn 64 []] = (l.length < 10000000, .b (l.all isBolt)) :=
  (show GG 63 _ = famBolt GF 63 [.sl 4 (l.map eBolt), cvBolt ()] from rfl).trans ((famBolt_all _ l ()).trans (by simp [okLBolt, okBolt]; rfl))
theorem P62 (d : Dome) : PureCall Try.prog 62 [.ag (eDome d)] (.b (isDome d)) := by
  refine pure_body okG hmix Try.func62 cb62 cc62 cs62 cn62 ?_
  have g1 := gG75 d.gores d
  have g2 := gG75' d.widths d
  unfold eDome at g1 g2
  simp only [rc62, rs62, gG67, g1, g2, gG76, ru_reg, ru_seq, ru_ret, ru_keep, thenQ, run_nil, run_cons, Fam.step, stepQ, needQ, condB, ug, evO, opv, qv, pickV, binV, ldV, lenV, callV, V.cells, solid, hasRef, hasRefL, flat, upd_some, lkp_cons, lkp_nil, ↓reduceIte, Nat.reduceEqDiff, Nat.reduceAdd, Nat.reduceLT, Nat.reduceLeDiff, List.map_cons, List.map_nil, List.all_cons, List.all_nil, List.length_cons, List.length_nil, List.drop_succ_cons, List.drop_zero, List.headD_cons, List.append_nil, endQ, rvs, rv1, resV, vw_i, vw_b, vw_sl, vw_pa, vw_ag, vw_fn, zipA, Nat.zero_add, V.b.injEq, Bool.and_self, Bool.and_true, Bool.or_false, Bool.false_eq_true, true_and, and_true, and_self, implies_true, beq_true, ite_f, Bool.decide_eq_true, imp_self, List.length_map, eDome]
  have e : isDome d = (within (↑d.bolts.length) 1 4 && within (↑d.gores.length) 3 16 && d.gores.all (goreOk d) && within d.loss 0 20 && within (↑d.rounds.length) 1 12 && d.rounds.all roundOk &&
      decide ((d.widths.length : Int) = d.rounds.length) && d.widths.all (widthOk d) && within d.slope 0 500) := by
    have : decide ((d.widths.length : Int) = d.rounds.length) = decide (d.widths.length = d.rounds.length) := by congr 1; simp; omega
    rw [this]
    unfold isDome headOk
    ac_rfl
  refine ⟨fun h => ⟨h, ?_⟩, fun h => ⟨h, ?_⟩, fun h => ⟨h, ?_⟩, e.symm⟩
  · simp [within] at h; omega
  · simp [within] at h; omega
  · simp [within] at h; unfold inI; omega
def r62 : List V → Prop × V := fnG (fun d => [.ag (eDome d)]) dD (fun _ => True) isDome .b
def GH : Gam := GG.ext 62 r62
theorem okH : GOk Try.prog GH := okG.ext (fun a w => Try.call62 a w) (fnG_ok fun a _ => P62 a)
theorem gH63 (l : List Bolt) : GH 63 [.sl 4 (l.map eBolt), .fn 64 []] = (l.length < 10000000, .b (l.all isBolt)) := gG63 l
theorem gH62 (d : Dome) : GH 62 [.ag (eDome d)] = (True, .b (isDome d)) :=
  (show GH 62 _ = r62 [.ag (eDome d)] from rfl).trans (fnG_at (e := fun d => [.ag (eDome d)]) d (dDome_e _))
theorem P41 (d : Dome) : PureCall Try.prog 41 [.ag (eDome d)] (.i (check d)) := by
  refine pure_body okH hmix Try.func41 cb41 cc41 cs41 cn41 ?_
  have g1 := gH62 d
  unfold eDome at g1
  simp only [rc41, rs41, g1, gH63, ru_skip, ru_reg, ru_seq, ru_cond, ru_block, ru_ret, ru_keep, thenQ, blockQ, run_nil, run_cons, Fam.step, stepQ, evO, opv, qv, pickV, ldV, callV, V.cells, solid, hasRef, hasRefL, flat, upd_some, lkp_cons, lkp_nil, ↓reduceIte, Nat.reduceEqDiff, Nat.reduceAdd, Nat.reduceLT, Nat.reduceLeDiff, List.map_cons, List.map_nil, List.length_cons, List.length_nil, List.drop_zero, List.take_succ_cons, List.take_nil, List.headD_cons, List.append_nil, endQ, rvs, rv1, resV, vw_i, vw_sl, vw_ag, vw_fn, zipA, Nat.zero_add, V.i.injEq, Bool.or_false, Bool.false_eq_true, true_and, and_true, and_self, implies_true, Bool.not_eq_false', Bool.not_eq_true', eDome]
  refine ⟨fun h => by simp [check, h], fun h => ⟨?_, fun h' => by simp [check, h, h'], fun h' => by simp [check, h, h']⟩⟩
  simp [isDome, headOk, within] at h
  omega
end Go.C02
