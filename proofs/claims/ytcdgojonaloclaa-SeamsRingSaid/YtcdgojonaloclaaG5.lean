import Derived.Test.YtcdgojonaloclaaG4
import Derived.Test.YtcdgojonaloclaaG3
set_option linter.all false
open List renaming map_cons → Qb, length_cons → Qc, length_nil → Qd, map_nil → Qe, getElem?_cons_zero → Qf, take_succ_cons → Qg, cons_append → Qh, headD_cons → Qj, nil_append → Qk, drop_succ_cons → Ql, append_nil → Qm, drop_zero → Qn, getElem?_cons_succ → Qo, getD_eq_getElem?_getD → Qp, length_map → Qq, getElem?_eq_getElem → Qr, take_zero → Qu, set_cons_zero → Qv, take_nil → Qw, set_cons_succ → Qy, replicate_zero → Qz, all_cons → Q0, getElem?_map → Q1, all_nil → Q2, flatten_nil → Q3, mem_of_getElem? → Q4, replicate_succ → Q8, flatten_cons → Zb, length_append → Ze, getElem?_nil → Zg, drop_nil → Zh, isEmpty_nil → Zi, contains_nil → Zj, range → Zm, take_length → Zt, contains_cons → Zu, any_nil → Zv, isEmpty_cons → Zx, length_take_le → Zy, mem_range → Z0, take_of_length_le → Z4, isEmpty → Z6, filter_nil → Z7, any_cons → Z9, length_filter_le → Xa, mem_map → Xe, drop_eq_getElem_cons → Xf, flatten_append → Xg, idxOf_lt_length_iff → Xi, map_append → Xj, flatMap_cons → Xl, take_append_drop → Xm, all_eq_true → Xn, any_eq_true → Xo, sum_cons → Xp, take_append_of_le_length → Xq, count_le_length → Xr, getLast?_concat → Xs, range_succ → Xt, getLastD_eq_getLast? → Xw, getLast?_nil → Xy, mem_append → X0, length_singleton → X1, getElem?_eq_none → X2, drop_eq_nil_iff → X3, map_congr_left → X5, append_assoc → X6, drop_append → X8, any_append → X9, mem_filter → Ja, range_zero → Jb, headD_nil → Jc, foldl_nil → Jd
open Nat renaming zero_add → Qi, le_refl → Zn, add_zero → Zr, mul_one → Zw, le_trans → Z5, pow_le_pow_right → Xc, succ_mul → Xd, mul_le_mul_right → X4
open Bool renaming false_eq_true → Qa, or_false → Qs, and_self → Qx, not_eq_true' → Zd, and_true → Zf, not_false → Zk, false_and → Zo, not_true → Zp, and_eq_true → Zs, not_eq_true → Zz, or_eq_false_iff → Z1, decide_eq_true → Z3, false_or → Z8, and_false → Xb, true_and → Xh, not_eq_false → Xk, not_not → X7
open Option renaming getD_some → Qt, map_some → Q6, getD_none → Zl, some → Xx
open Int renaming natCast_add → Q5, natCast_nonneg → Q7, natCast_zero → Q9, natCast_one → Za, toNat_natCast → Zc, lt_irrefl → Zq, add_assoc → Z2, mul_nonneg → Xu, mul_le_mul → Xv, add_zero → Xz
set_option linter.unusedSimpArgs false
set_option linter.unusedVariables false
namespace Go.C02
open Go.Fam Go.Proofs
theorem P71 (d : Dome) (n : Int) (h : d.bolts.length < 1000000) : PureCall Try.prog 107 [.i n, .pa (eDome d)] (.b (goreOk d n)) := by
 refine pure_body okC hmix Try.func107 cb107 cc107 cs107 cn107 ?_
 have h1 : inI ((d.bolts.length : Int) - 1) := by unfold inI; omega
 simp only [rc107, rs107, gC67, h1, ru_reg, ru_seq, ru_ret, ru_keep, thenQ, run_nil, run_cons, Fam.step, stepQ, evO, opv, qv, binV, ldV, lenV, callV, hasRef, hasRefL, flat, upd_some, lkp_cons, lkp_nil, ↓reduceIte, Nat.reduceEqDiff, Nat.reduceAdd, Nat.reduceLT, Nat.reduceLeDiff, Qb, Qe, Qc, Qd, Qn, Qj, Qm, endQ, rvs, rv1, resV, vw_i, vw_b, zipA, Qi, V.b.injEq, Qs, Qa, true_and, and_self, implies_true, reduceCtorEq, Qq, eDome]
 rfl
theorem P74 (d : Dome) (n : Int) (h : inI (2 * d.loss)) : PureCall Try.prog 110 [.i n, .pa (eDome d)] (.b (widthOk d n)) := by
 refine pure_body okC hmix Try.func110 cb110 cc110 cs110 cn110 ?_
 simp only [rc110, rs110, gC67, h, ru_reg, ru_seq, ru_ret, ru_keep, thenQ, run_nil, run_cons, Fam.step, stepQ, evO, opv, qv, binV, ldV, callV, hasRef, hasRefL, flat, upd_some, lkp_cons, lkp_nil, ↓reduceIte, Nat.reduceEqDiff, Nat.reduceAdd, Nat.reduceLT, Nat.reduceLeDiff, Qb, Qe, Qc, Qd, Ql, Qn, Qj, Qm, endQ, rvs, rv1, resV, vw_i, vw_b, zipA, Qi, V.b.injEq, Qs, Qa, true_and, and_self, implies_true, reduceCtorEq, eDome]
 rfl
theorem P72 (s : Span) : PureCall Try.prog 108 [.ag (eSpan s)] (.b (roundOk s)) := by
 refine pure_body okC hmix Try.func108 cb108 cc108 cs108 cn108 ?_
 simp only [rc108, rs108, gC73, ru_reg, ru_seq, ru_ret, ru_keep, thenQ, run_nil, run_cons, Fam.step, stepQ, evO, opv, qv, ldV, callV, V.cells, solid, hasRef, hasRefL, flat, upd_some, lkp_cons, lkp_nil, ↓reduceIte, Nat.reduceEqDiff, Nat.reduceAdd, Nat.reduceLT, Nat.reduceLeDiff, Qb, Qe, Qc, Qd, Qg, Qw, Qm, endQ, rvs, rv1, resV, vw_i, vw_b, vw_ag, zipA, Qi, V.b.injEq, Qs, Qa, true_and, and_self, implies_true, spanE, eSpan]
 rfl
def eND (a : Int × Dome) : List V := [.i a.1, .pa (eDome a.2)]
def dND : List V → Int × Dome | [.i n, .pa cs] => (n, dDome cs) | _ => (0, D0)
theorem dND_e (a : Int × Dome) : dND (eND a) = a := by simp [dND, eND, dDome_e]
def r71 : List V → Prop × V := fnG eND dND (fun a => a.2.bolts.length < 1000000) (fun a => goreOk a.2 a.1) .b
def r74 : List V → Prop × V := fnG eND dND (fun a => inI (2 * a.2.loss)) (fun a => widthOk a.2 a.1) .b
def r72 : List V → Prop × V := fnG (fun s => [.ag (eSpan s)]) (fun vs => dSpan (aC (vs.headD .u))) (fun _ => True) roundOk .b
def GD : Gam := ((GC.ext 107 r71).ext 110 r74).ext 108 r72
theorem okD : GOk Try.prog GD :=
 ((okC.ext (fun a w => Try.call107 a w) (fnG_ok fun a h => P71 a.2 a.1 h)).ext (fun a w => Try.call110 a w) (fnG_ok fun a h => P74 a.2 a.1 h)).ext (fun a w => Try.call108 a w) (fnG_ok fun a _ => P72 a)
theorem bStrip (k : Unit) (x : Strip) (h : okStrip k) : GD 116 (V.ag (eStrip x) :: capStrip k) = (True, .b (prStrip k x)) := rfl
theorem bSpan (Γ : Gam) (hΓ : Γ 108 = r72) (k : Unit) (x : Span) (h : okSpan k) : Γ 108 (V.ag (eSpan x) :: capSpan k) = (True, .b (prSpan k x)) := by
 rw [hΓ]
 exact (show r72 _ = r72 [.ag (eSpan x)] from rfl).trans ((fnG_at (e := fun s => [.ag (eSpan s)]) x rfl).trans (by rfl))
theorem bInt (Γ : Gam) (h1 : Γ 107 = r71) (h2 : Γ 110 = r74) (k : Dome × Bool) (x : Int) (h : okInt k) : Γ (if k.2 then 107 else 110) (V.i x :: capInt k) = (True, .b (prInt k x)) := by
 obtain ⟨d, b⟩ := k
 cases b
 ·exact (show Γ 110 _ = r74 (eND (x, d)) from by rw [h2]; rfl).trans ((fnG_at (x, d) (dND_e _)).trans (by rw [eq_true (show inI (2 * d.loss) from h)]; rfl))
 ·exact (show Γ 107 _ = r71 (eND (x, d)) from by rw [h1]; rfl).trans ((fnG_at (x, d) (dND_e _)).trans (by rw [eq_true (show d.bolts.length < 1000000 from h)]; rfl))
def GE : Gam := famInt (famSpan (famStrip GD))
theorem okE : GOk Try.prog GE := famInt_ok (famSpan_ok (famStrip_ok okD bStrip) (bSpan _ rfl)) (bInt _ rfl rfl)
theorem gE67 (n lo hi : Int) : GE 102 [.i n, .i lo, .i hi] = (True, .b (within n lo hi)) := rfl
theorem gE73 (a b m : Int) : GE 109 [.ag [.i a, .i b], .i m] = (True, .b (isSpan ⟨a, b⟩ m)) := rfl
theorem gE79 (l : List Strip) : GE 115 [.sl 3 (l.map eStrip), .fn 116 []] = (l.length < 10000000, .b (l.all isStrip)) :=
 (show GE 115 _ = famStrip GD 115 [.sl 3 (l.map eStrip), cvStrip ()] from rfl).trans ((famStrip_all GD l ()).trans (by simp [okLStrip, okStrip]; rfl))
theorem P64 (b : Bolt) : PureCall Try.prog 96 [.ag (eBolt b)] (.b (isBolt b)) := by
 refine pure_body okE hmix Try.func96 cb96 cc96 cs96 cn96 ?_
 simp only [rc96, rs96, gE67, gE73, gE79, ru_reg, ru_seq, ru_ret, ru_keep, thenQ, run_nil, run_cons, Fam.step, stepQ, needQ, condB, ug, evO, opv, qv, pickV_bb, binV, ldV, lenV, callV, V.cells, solid, hasRef, hasRefL, flat, upd_some, lkp_cons, lkp_nil, ↓reduceIte, Nat.reduceEqDiff, Nat.reduceAdd, Nat.reduceLT, Nat.reduceLeDiff, Qb, Qe, Q0, Q2, Qc, Qd, Ql, Qn, Qg, Qu, Qj, Qm, endQ, rvs, rv1, resV, vw_i, vw_b, vw_sl, vw_ag, vw_fn, zipA, Qi, V.b.injEq, Qx, Zf, Qs, Qa, true_and, and_true, and_self, implies_true, beq_true, ite_f, Z3, imp_self, Qq, spanE, eBolt]
 have e : isBolt b = (isSpan b.stretch 60 && decide ((b.strips.length : Int) ≤ 8) && b.strips.all isStrip && within b.wrong 0 2) := by
  unfold isBolt
  have : decide ((b.strips.length : Int) ≤ 8) = decide (b.strips.length ≤ 8) := by congr 1; simp; omega
  rw [this]
  cases isSpan b.stretch 60 <;> cases within b.wrong 0 2 <;> cases b.strips.all isStrip <;> simp
 refine ⟨fun h => ⟨h, ?_⟩, e.symm⟩
 have : b.strips.length ≤ 8 := by cases h1 : isSpan b.stretch 60 <;> simp [h1] at h; omega
 omega
def r64 : List V → Prop × V := fnG (fun b => [.ag (eBolt b)]) dB (fun _ => True) isBolt .b
def GF : Gam := GE.ext 96 r64
theorem okF : GOk Try.prog GF := okE.ext (fun a w => Try.call96 a w) (fnG_ok fun a _ => P64 a)
theorem bBolt (Γ : Gam) (h1 : Γ 96 = r64) (k : Unit) (x : Bolt) (h : okBolt k) : Γ 96 (V.ag (eBolt x) :: capBolt k) = (True, .b (prBolt k x)) := by
 rw [h1]
 exact (show r64 _ = r64 [.ag (eBolt x)] from rfl).trans ((fnG_at (e := fun b => [.ag (eBolt b)]) x (dBolt_e _)).trans (by rfl))
def GG : Gam := famBolt GF
theorem okG : GOk Try.prog GG := famBolt_ok okF (bBolt _ rfl)
theorem gG67 (n lo hi : Int) : GG 102 [.i n, .i lo, .i hi] = (True, .b (within n lo hi)) := rfl
theorem gG75 (l : List Int) (d : Dome) : GG 111 [.sl 1 (l.map eI), .fn 107 [.pa (eDome d)]] = (l.length < 10000000 ∧ d.bolts.length < 1000000, .b (l.all (goreOk d))) :=
 (show GG 111 _ = famInt (famSpan (famStrip GD)) 111 [.sl 1 (l.map eI), cvInt (d, true)] from rfl).trans ((famInt_all _ l (d, true)).trans (by rfl))
theorem gG75' (l : List Int) (d : Dome) : GG 111 [.sl 1 (l.map eI), .fn 110 [.pa (eDome d)]] = (l.length < 10000000 ∧ inI (2 * d.loss), .b (l.all (widthOk d))) :=
 (show GG 111 _ = famInt (famSpan (famStrip GD)) 111 [.sl 1 (l.map eI), cvInt (d, false)] from rfl).trans ((famInt_all _ l (d, false)).trans (by rfl))
theorem gG76 (l : List Span) : GG 112 [.sl 2 (l.map eSpan), .fn 108 []] = (l.length < 10000000, .b (l.all roundOk)) :=
 (show GG 112 _ = famSpan (famStrip GD) 112 [.sl 2 (l.map eSpan), cvSpan ()] from rfl).trans ((famSpan_all _ l ()).trans (by simp [okLSpan, okSpan]; rfl))
theorem gG63 (l : List Bolt) : GG 95 [.sl 4 (l.map eBolt), .fn 96 []] = (l.length < 10000000, .b (l.all isBolt)) :=
 (show GG 95 _ = famBolt GF 95 [.sl 4 (l.map eBolt), cvBolt ()] from rfl).trans ((famBolt_all _ l ()).trans (by simp [okLBolt, okBolt]; rfl))
theorem P62 (d : Dome) : PureCall Try.prog 94 [.ag (eDome d)] (.b (isDome d)) := by
 refine pure_body okG hmix Try.func94 cb94 cc94 cs94 cn94 ?_
 have g1 := gG75 d.gores d
 have g2 := gG75' d.widths d
 unfold eDome at g1 g2
 simp only [rc94, rs94, gG67, g1, g2, gG76, ru_reg, ru_seq, ru_ret, ru_keep, thenQ, run_nil, run_cons, Fam.step, stepQ, needQ, condB, ug, evO, opv, qv, pickV_bb, binV, ldV, lenV, callV, V.cells, solid, hasRef, hasRefL, flat, upd_some, lkp_cons, lkp_nil, ↓reduceIte, Nat.reduceEqDiff, Nat.reduceAdd, Nat.reduceLT, Nat.reduceLeDiff, Qb, Qe, Q0, Q2, Qc, Qd, Ql, Qn, Qj, Qm, endQ, rvs, rv1, resV, vw_i, vw_b, vw_sl, vw_pa, vw_ag, vw_fn, zipA, Qi, V.b.injEq, Qx, Zf, Qs, Qa, true_and, and_true, and_self, implies_true, beq_true, ite_f, Z3, imp_self, Qq, eDome]
 have e : isDome d = (within (↑d.bolts.length) 1 4 && within (↑d.gores.length) 3 16 && d.gores.all (goreOk d) && within d.loss 0 20 && within (↑d.rounds.length) 1 12 && d.rounds.all roundOk &&
   decide ((d.widths.length : Int) = d.rounds.length) && d.widths.all (widthOk d) && within d.slope 0 500) := by
  have : decide ((d.widths.length : Int) = d.rounds.length) = decide (d.widths.length = d.rounds.length) := by congr 1; simp; omega
  rw [this]
  unfold isDome headOk
  ac_rfl
 refine ⟨fun h => ⟨h, ?_⟩, fun h => ⟨h, ?_⟩, fun h => ⟨h, ?_⟩, e.symm⟩
 ·simp [within] at h; omega
 ·simp [within] at h; omega
 ·simp [within] at h; unfold inI; omega
def r62 : List V → Prop × V := fnG (fun d => [.ag (eDome d)]) dD (fun _ => True) isDome .b
def GH : Gam := GG.ext 94 r62
theorem okH : GOk Try.prog GH := okG.ext (fun a w => Try.call94 a w) (fnG_ok fun a _ => P62 a)
theorem gH63 (l : List Bolt) : GH 95 [.sl 4 (l.map eBolt), .fn 96 []] = (l.length < 10000000, .b (l.all isBolt)) := gG63 l
theorem gH62 (d : Dome) : GH 94 [.ag (eDome d)] = (True, .b (isDome d)) :=
 (show GH 94 _ = r62 [.ag (eDome d)] from rfl).trans (fnG_at (e := fun d => [.ag (eDome d)]) d (dDome_e _))
theorem P41 (d : Dome) : PureCall Try.prog 74 [.ag (eDome d)] (.i (check d)) := by
 refine pure_body okH hmix Try.func74 cb74 cc74 cs74 cn74 ?_
 have g1 := gH62 d
 unfold eDome at g1
 simp only [rc74, rs74, g1, gH63, ru_skip, ru_reg, ru_seq, ru_cnd, ite_P, ru_block, ru_ret, ru_keep, thenQ, blockQ, run_nil, run_cons, Fam.step, stepQ, evO, opv, qv, ldV, callV, V.cells, solid, hasRef, hasRefL, flat, upd_some, lkp_cons, lkp_nil, ↓reduceIte, Nat.reduceEqDiff, Nat.reduceAdd, Nat.reduceLT, Nat.reduceLeDiff, Qb, Qe, Qc, Qd, Qn, Qg, Qw, Qj, Qm, endQ, rvs, rv1, resV, vw_i, vw_sl, vw_ag, vw_fn, zipA, Qi, V.i.injEq, Qs, Qa, true_and, and_true, and_self, implies_true, Zd, Xk, eDome]
 refine ⟨fun h => by simp [check, h], fun h => ⟨?_, fun h' => by simp [check, h, h'], fun h' => by simp [check, h, h']⟩⟩
 simp [isDome, headOk, within] at h
 omega
end Go.C02
set_option linter.unusedSimpArgs false
set_option linter.unusedVariables false
namespace Go.C02
open Go.Fam Go.Proofs
theorem flat_len {α : Type} {e : α → List V} {k : Nat} (h : ∀ x, (e x).length = k) : ∀ l : List α, ((l.map e).flatten).length = l.length * k
 | [] => by simp
 | x :: l => by rw [Qb, Zb, Ze, h, flat_len h l, Qc, Xd]; omega
mutual
theorem cutV_noref (hp : List Blk) (n : Nat) : ∀ v : V, hasRef v = false → cutV hp n v = v
 | .u, _ | .b _, _ | .i _, _ | .z _, _ | .sl _ _, _ | .sx _ _, _ | .pa _, _ | .pn, _ | .yl _, _ => by simp [cutV]
 | .ag cs, h | .tp cs, h => by simp only [hasRef] at h; simp only [cutV, cutL_noref hp n cs h]
 | .fn f cs, h => by simp only [hasRef] at h; simp only [cutV, cutL_noref hp n cs h]
 | .gv q v, h => by simp only [hasRef] at h; simp only [cutV, cutV_noref hp n v h]
 | .ad _ _ _, h | .rf _ _ _ _ _, h | .mp _ _, h | .it _ _, h => by simp [hasRef] at h
theorem cutL_noref (hp : List Blk) (n : Nat) : ∀ vs : List V, hasRefL vs = false → cutL hp n vs = vs
 | [], _ => rfl
 | v :: vs, h => by
  simp only [hasRefL, Z1] at h
  simp only [cutL, cutV_noref hp n v h.1, cutL_noref hp n vs h.2]
end
theorem cutL_append (hp : List Blk) (n : Nat) : ∀ (a b : List V), cutL hp n (a ++ b) = cutL hp n a ++ cutL hp n b
 | [], b => rfl
 | v :: a, b => by simp only [Qh, cutL, cutL_append hp n a b]
theorem hasRefL_append : ∀ (a b : List V), hasRefL (a ++ b) = (hasRefL a || hasRefL b)
 | [], b => by simp [hasRefL]
 | v :: a, b => by simp only [Qh, hasRefL, hasRefL_append a b, Bool.or_assoc]
mutual
theorem upV_noref (n : Nat) : ∀ v : V, hasRef v = false → upV n v = v
 | .u, _ | .b _, _ | .i _, _ | .z _, _ | .sl _ _, _ | .sx _ _, _ | .pa _, _ | .pn, _ | .yl _, _ => by simp [upV]
 | .ag cs, h | .tp cs, h => by simp only [hasRef] at h; simp only [upV, upL_noref n cs h]
 | .fn f cs, h => by simp only [hasRef] at h; simp only [upV, upL_noref n cs h]
 | .gv q v, h => by simp only [hasRef] at h; simp only [upV, upV_noref n v h]
 | .ad _ _ _, h | .rf _ _ _ _ _, h | .mp _ _, h | .it _ _, h => by simp [hasRef] at h
theorem upL_noref (n : Nat) : ∀ vs : List V, hasRefL vs = false → upL n vs = vs
 | [], _ => rfl
 | v :: vs, h => by
  simp only [hasRefL, Z1] at h
  simp only [upL, upV_noref n v h.1, upL_noref n vs h.2]
end
theorem hasRefL_flat {α : Type} {e : α → List V} (h : ∀ x, hasRefL (e x) = false) : ∀ l : List α, hasRefL (l.map e).flatten = false
 | [] => rfl
 | x :: l => by simp only [Qb, Zb, hasRefL_append, h, hasRefL_flat h l, Qs]
theorem hasRefL_take (vs : List V) (n : Nat) (h : hasRefL vs = false) : hasRefL (vs.take n) = false := by
 have := hasRefL_append (vs.take n) (vs.drop n)
 rw [Xm, h] at this
 exact (Z1.1 this.symm).1
theorem hasRefL_drop (vs : List V) (n : Nat) (h : hasRefL vs = false) : hasRefL (vs.drop n) = false := by
 have := hasRefL_append (vs.take n) (vs.drop n)
 rw [Xm, h] at this
 exact (Z1.1 this.symm).2
theorem put_same {vs : List V} {k : Nat} {v : V} (h : vs[k]? = some v) : vs.take k ++ [v] ++ vs.drop (k + 1) = vs := by
 have hl := getElemLt h
 have e : vs[k] = v := by rw [Qr hl] at h; exact Xx.inj h
 rw [← e, X6, List.singleton_append, ← Xf hl, Xm]
theorem flat_get {α : Type} {e : α → List V} {k : Nat} (h : ∀ x, (e x).length = k) : ∀ (l : List α) (i j : Nat) (x : α), l[i]? = some x → j < k → ((l.map e).flatten)[i * k + j]? = (e x)[j]?
 | [], i, j, x, hx, _ => by simp at hx
 | y :: l, 0, j, x, hx, hj => by
  simp at hx; subst hx
  rw [Qb, Zb, List.getElem?_append_left (by rw [h]; omega)]
  congr 1; omega
 | y :: l, i + 1, j, x, hx, hj => by
  rw [Qb, Zb, List.getElem?_append_right (by rw [h, Xd]; omega), h]
  have := flat_get h l i j x (by simpa using hx) hj
  rw [← this]; congr 1; rw [Xd]; omega
theorem chunk_flat {α : Type} {e : α → List V} {k : Nat} (h : ∀ x, (e x).length = k) : ∀ (l : List α), chunk k ((l.map e).flatten) 0 l.length = l.map e
 | [] => by simp [chunk]
 | x :: l => by
  rw [Qc, chunk_succ, Qb, Zb, Qi, Qn]
  have e1 : (e x ++ (l.map e).flatten).take k = e x := by rw [Xq (by rw [h]; exact Zn _), Z4 (by rw [h]; exact Zn _)]
  rw [e1]
  congr 1
  have ih := chunk_flat h l
  unfold chunk at ih ⊢
  conv => rhs; rw [← ih]
  apply X5
  intro j _
  congr 1
  have e2 : k + j * k = (e x).length + j * k := by rw [h]
  rw [e2, X8, Qi]
  simp
theorem map_vw_rows {α : Type} {e : α → List V} (hp : List Blk) (n : Nat) (h : ∀ x, (e x).map (vw hp n) = e x) (l : List α) : (l.map e).map (fun r => r.map (vw hp n)) = l.map e := by
 rw [List.map_map]
 exact X5 fun x _ => h x
theorem P22 (d : Dome) (h : d.bolts.length < 1000000 ∧ d.gores.length < 1000000 ∧ d.rounds.length < 1000000 ∧ d.widths.length < 1000000 ∧ ∀ b ∈ d.bolts, b.strips.length < 1000000) : PureCall Try.prog 55 [.ag (eDome d)] (.ag (eDome d)) := by
 refine pure_body okH hmix Try.func55 cb55 cc55 cs55 cn55 ?_
 simp only [rc55, rs55, Q3, ru_reg, ru_seq, ru_block, ru_keep, putB, thenQ, run_nil, run_cons, Fam.step, stepQ, stepW, needW, putB, nv, sv, newsV, evO, opv, qv, ldV, curG, foldParts, putAt, partsOk, partsOne, V.cells, solid, cellOk, hasRef, hasRefL, upd_some, upd_none, lkp_cons, lkp_nil, ↓reduceIte, Nat.reduceEqDiff, Nat.reduceAdd, Nat.reduceMul, Nat.reduceLeDiff, Qb, Qe, Q0, Q2, Qc, Qd, Ql, Qn, Zh, Qg, Qu, Qw, Qj, Qh, Qk, Qm, Qf, Qo, Qv, Qy, Qz, vw_i, vw_sl, vw_ag, zipA, beq_self_eq_true, Qi, Zr, Qx, Qs, Qa, true_and, and_self, Qq, eDome]
 refine ⟨by unfold fitsLen; omega, ?_⟩
 refine ru_count d.bolts.length (fun i => ⟨lkp [(1, .pa (eDome d)), (2, .ad 0 0 0), (3, .ad 1 0 0), (4, .i i)], [.cells 0 [.z 4, .z 1, .i 0, .z 2, .z 1, .i 0], .cells 0 [.rf 2 1 0 d.bolts.length 4, .sl 1 (d.gores.map eI), .i d.loss, .sl 2 (d.rounds.map eSpan), .sl 1 (d.widths.map eI), .i d.slope], .cells 1 (d.bolts.map eBolt).flatten]⟩) ?_ ?_ ?_
 ·simp only [Q9, cutL_noref _ _ _ (hasRefL_flat (e := eBolt) (fun _ => rfl) d.bolts), cutH, kp, cutV, cutL, cutB, lkp_cons, lkp_nil, ↓reduceIte, Nat.reduceEqDiff, Nat.reduceLT, Qb, Qe, Qg, Qw, eDome]
 ·intro i hi
  obtain ⟨x, hx⟩ : ∃ x, d.bolts[i]? = some x := ⟨_, Qr hi⟩
  have hlt : (i : Int) < d.bolts.length := by omega
  have h3 : inI ((i : Int) + 1) := by unfold inI; omega
  have hfl := flat_len (e := eBolt) (k := 4) (fun _ => rfl) d.bolts
  have hst : fitsLen x.strips.length := by have := h.2.2.2.2 x (Q4 hx); unfold fitsLen; omega
  have hoff : i * 4 + 2 + 1 ≤ d.bolts.length * 4 := by omega
  have hnr := hasRefL_flat (e := eBolt) (fun _ => rfl) d.bolts
  have hns := hasRefL_flat (e := eStrip) (fun _ => rfl) x.strips
  have hsl := flat_len (e := eStrip) (k := 3) (fun _ => rfl) x.strips
  have hvw : ∀ hp, (x.strips.map eStrip).map (fun r => r.map (vw hp 7)) = x.strips.map eStrip := fun hp => map_vw_rows (e := eStrip) hp 7 (fun _ => rfl) _
  have hput : List.take (i * 4 + 2) (d.bolts.map eBolt).flatten ++ [V.sl 3 (x.strips.map eStrip)] ++ List.drop (i * 4 + 2 + 1) (d.bolts.map eBolt).flatten = (d.bolts.map eBolt).flatten :=
   put_same (flat_get (k := 4) (fun _ => rfl) d.bolts i 2 x hx (by decide))
  simp only [hx, hlt, Q5, Za, h3, Q3, hfl, hst, hoff, cutL_append, cutL_noref _ _ _ (hasRefL_take _ _ hnr), cutL_noref _ _ _ (hasRefL_drop _ _ hnr), cutL_noref _ _ _ hnr, hpF, upB, upL_noref _ _ hns, chunk_flat (e := eStrip) (k := 3) (fun _ => rfl), hsl, hvw, Zn, hput, ru_skip, ru_reg, ru_any, ru_seq, ru_cnd, ru_block, ru_keep, ru_drp, ↓cut_lkp, putBs, optL, cutH, thenQ, blockQ, run_nil, run_cons, Fam.step, stepQ, needW, runX, eff, nextD, fpR, fpQ, fpV, disjB, hits, nv, sv, newsV, evO, opv, qv, binV, ldV, iadV, lenV, curG, foldParts, putAt, partsOk, partsOne, V.cells, solid, cellOk, kp, cutV, cutL, cutB, upd_some, upd_none, lkp_cons, lkp_nil, ↓reduceIte, Nat.reduceEqDiff, Nat.reduceAdd, Nat.reduceMul, Nat.reduceLT, Nat.reduceLeDiff, Nat.reduceBEq, Qb, Qe, Q0, Q2, Qc, Qd, Ql, Qn, Qg, Qu, Qw, Qj, Qh, Qk, Qf, Qo, Zg, Qt, Zl, Qv, Qy, Qz, Q8, Zi, Zx, vw_rf, Q7, beq_self_eq_true, Qi, Zr, Qx, Zf, Xh, Zo, Xb, Qs, Z8, Zp, Zk, Qa, decide_true, and_self, false_and, reduceCtorEq, Q6, Z9, Zv, Zu, Zj, Qq, Zc, Qp, Q1, eBolt, eDome]
 ·have v1 : ∀ hp, (d.bolts.map eBolt).map (fun r => r.map (vw hp 6)) = d.bolts.map eBolt := fun hp => map_vw_rows (e := eBolt) hp 6 (fun _ => rfl) _
  have v2 : ∀ hp, (d.gores.map eI).map (fun r => r.map (vw hp 6)) = d.gores.map eI := fun hp => map_vw_rows (e := eI) hp 6 (fun _ => rfl) _
  have v3 : ∀ hp, (d.rounds.map eSpan).map (fun r => r.map (vw hp 6)) = d.rounds.map eSpan := fun hp => map_vw_rows (e := eSpan) hp 6 (fun _ => rfl) _
  have v4 : ∀ hp, (d.widths.map eI).map (fun r => r.map (vw hp 6)) = d.widths.map eI := fun hp => map_vw_rows (e := eI) hp 6 (fun _ => rfl) _
  simp only [Q3, flat_len (e := eBolt) (k := 4) (fun _ => rfl), flat_len (e := eI) (k := 1) (fun _ => rfl), flat_len (e := eSpan) (k := 2) (fun _ => rfl), chunk_flat (e := eBolt) (k := 4) (fun _ => rfl), chunk_flat (e := eI) (k := 1) (fun _ => rfl), chunk_flat (e := eSpan) (k := 2) (fun _ => rfl), v1, v2, v3, v4, Zn, ru_reg, ru_any, ru_seq, ru_cnd, ru_exit, ru_ret, ru_keep, putBs, optL, putB, thenQ, blockQ, run_nil, run_cons, Fam.step, stepQ, stepW, needW, runX, eff, nextD, fpR, fpQ, fpV, disjB, hits, putB, nv, sv, newsV, evO, opv, qv, binV, ldV, lenV, curG, foldParts, putAt, partsOk, partsOne, V.cells, solid, cellOk, upd_some, upd_none, lkp_cons, lkp_nil, ↓reduceIte, Nat.reduceEqDiff, Nat.reduceAdd, Nat.reduceMul, Nat.reduceLeDiff, Nat.reduceBEq, Qb, Qe, Q0, Q2, Qc, Qd, Ql, Qn, Zh, Qg, Qu, Qw, Qj, Qh, Qk, Qm, Qf, Qo, Zg, Qt, Zl, Qv, Qy, Qz, Q8, Zi, Zx, endQ, rvs, rv1, resV, vw_i, vw_ag, vw_rf, Zq, beq_self_eq_true, Qi, Zr, Qx, Zf, Xh, Zo, Xb, Qs, Z8, Zp, Zk, Qa, decide_false, true_and, and_true, and_self, Z9, Zv, Zu, Zj, Qq, Qp, eDome]
  unfold fitsLen
  omega
end Go.C02
set_option linter.unusedSimpArgs false
set_option linter.unusedVariables false
namespace Go.C02
open Go.Fam Go.Proofs
def ints (lo hi : Int) : List Int := (Zm (hi + 1 - lo).toNat).map fun (k : Nat) => lo + k
theorem ints_len (lo hi : Int) : (ints lo hi).length = (hi + 1 - lo).toNat := by simp [ints]
theorem ints_get {lo hi : Int} {k : Nat} (h : k < (hi + 1 - lo).toNat) : (ints lo hi)[k]? = some (lo + k) := by simp [ints, h]
theorem ints_get' {lo hi : Int} {k : Nat} {x : Int} (h : (ints lo hi)[k]? = some x) : x = lo + k ∧ k < (hi + 1 - lo).toNat := by
 have hl := getElemLt h
 rw [ints_len] at hl
 rw [ints_get hl] at h
 exact ⟨(Xx.inj h).symm, hl⟩
theorem mem_ints {lo hi n : Int} : n ∈ ints lo hi ↔ lo ≤ n ∧ n ≤ hi := by
 simp only [ints, Xe, Z0]
 constructor
 ·rintro ⟨k, hk, rfl⟩; omega
 ·rintro ⟨h1, h2⟩; exact ⟨(n - lo).toNat, by omega, by omega⟩
theorem drop_cons {α : Type} {l : List α} {k : Nat} {x : α} (h : l[k]? = some x) : l.drop k = x :: l.drop (k + 1) := by
 have hl := getElemLt h
 rw [Xf hl]
 rw [Qr hl] at h
 rw [Xx.inj h]
def ysB (b : Bolt) : List (List V) := (ints b.stretch.low b.stretch.high).map fun n => [.i n]
theorem I70 (b : Bolt) (h1 : tame 1000 b.stretch.low) (h2 : tame 1000 b.stretch.high) : IterCall Try.prog 118 [.pa (eBolt b)] (ysB b) := by
 refine iter_body okH hmix Try.func118 cb118 (md := 2) rfl cc118 cs118 cn118 ?_
 intro l
 simp only [rc118, ru_reg, ru_seq, ru_block, ru_keep, thenQ, run_nil, run_cons, Fam.step, stepQ, evO, opv, qv, ldV, upd_some, lkp_cons, lkp_nil, ↓reduceIte, Nat.reduceEqDiff, Nat.reduceAdd, Nat.reduceLeDiff, Qb, Qe, Qc, Qd, Qn, Qj, zipA, Qi, Qa, true_and, reduceCtorEq, eBolt]
 have hN : ∀ i, i < (b.stretch.high + 1 - b.stretch.low).toNat → (ysB b)[i]? = some [.i (b.stretch.low + i)] := fun i hi => by simp only [ysB, Q1, ints_get hi, Q6]
 refine ru_count (b.stretch.high + 1 - b.stretch.low).toNat (fun i => ⟨lkp [(0, .yl l), (1, .pa (eBolt b)), (3, .i (b.stretch.low + i))], [.gh [.yl l, .pa (eBolt b)] (some ((ysB b).drop i))]⟩) ?_ ?_ ?_
 ·simp only [Q9, Xz, kp, lkp_cons, lkp_nil, ↓reduceIte, Nat.reduceEqDiff, Qb, Qe, Qn, reduceCtorEq, eBolt]
 ·intro i hi
  have hy := drop_cons (hN i hi)
  have hlt : b.stretch.low + (i : Int) ≤ b.stretch.high := by omega
  have h3 : inI (b.stretch.low + (i : Int) + 1) := by unfold inI; unfold tame at *; omega
  simp only [hy, hlt, Q5, Za, Z2, ru_skip, ru_reg, ru_seq, ru_cnd, ite_P, ru_block, ru_ret, ru_keep, ru_yrg, sfree, yres, slots, endI, thenQ, blockQ, run_nil, run_cons, Fam.step, stepQ, needW, condB, evO, opv, qv, binV, ldV, flat, flatL, kp, upd_some, lkp_cons, lkp_nil, ↓reduceIte, Nat.reduceEqDiff, Nat.reduceAdd, Nat.reduceLeDiff, Qb, Qe, Qc, Qd, Ql, Qn, Qj, Qf, Qi, Qx, Qa, decide_true, true_and, reduceCtorEq, Zd, Xk, eBolt]
  refine ⟨?_, ?_⟩
  ·simp [flat]
  ·intro bb
   cases bb <;> simp only [↓reduceIte, Qa, Bool.true_eq_false, true_and, and_true, and_self, forall_const, false_implies]
   rw [Z2] at h3
   exact h3
 ·have hgt : ¬ (b.stretch.low + ((b.stretch.high + 1 - b.stretch.low).toNat : Int) ≤ b.stretch.high) := by omega
  have hnil : (ysB b).drop (b.stretch.high + 1 - b.stretch.low).toNat = [] := by rw [X3]; simp [ysB, ints_len]
  simp only [hgt, hnil, ru_reg, ru_seq, ru_cnd, ru_exit, ru_keep, endI, thenQ, blockQ, run_nil, run_cons, Fam.step, stepQ, evO, opv, qv, binV, ldV, upd_some, lkp_cons, lkp_nil, ↓reduceIte, Nat.reduceEqDiff, Nat.reduceAdd, Nat.reduceLeDiff, Qb, Qe, Qc, Qd, Ql, Qn, Qj, Qf, Qi, Qa, decide_false, and_self, reduceCtorEq, eBolt]
structure ValidB (b : Bolt) : Prop where
 st : 0 ≤ b.stretch.low ∧ b.stretch.low ≤ b.stretch.high ∧ b.stretch.high ≤ 60
 n : b.strips.length ≤ 8
 wr : 0 ≤ b.wrong ∧ b.wrong ≤ 2
 sp : ∀ x ∈ b.strips, 1 ≤ x.long ∧ x.long ≤ 2000 ∧ 0 ≤ x.pulled.low ∧ x.pulled.low ≤ x.pulled.high ∧ x.pulled.high ≤ 4000
structure Valid (d : Dome) : Prop where
 nb : 1 ≤ d.bolts.length ∧ d.bolts.length ≤ 4
 ng : 3 ≤ d.gores.length ∧ d.gores.length ≤ 16
 nr : 1 ≤ d.rounds.length ∧ d.rounds.length ≤ 12
 nw : d.widths.length = d.rounds.length
 loss : 0 ≤ d.loss ∧ d.loss ≤ 20
 slope : 0 ≤ d.slope ∧ d.slope ≤ 500
 gores : ∀ g ∈ d.gores, 0 ≤ g ∧ g < d.bolts.length
 rounds : ∀ s ∈ d.rounds, 0 ≤ s.low ∧ s.low ≤ s.high ∧ s.high ≤ 40000
 widths : ∀ n ∈ d.widths, 2 * d.loss ≤ n ∧ n ≤ 2000
 bolts : ∀ b ∈ d.bolts, ValidB b
theorem validB_of {b : Bolt} (h : isBolt b = true) : ValidB b := by
 simp only [isBolt, isSpan, within, Zs, decide_eq_true_eq, Xn, isStrip] at h
 refine ⟨by omega, by omega, by omega, fun x hx => ?_⟩
 have := h.2 x hx
 omega
theorem isDome_of {d : Dome} (h : check d = 0) : isDome d = true ∧ d.bolts.all isBolt = true := by
 unfold check at h
 cases h1 : isDome d <;> cases h2 : d.bolts.all isBolt <;> simp [h1, h2] at h ⊢
theorem valid_of {d : Dome} (h : check d = 0) : Valid d := by
 obtain ⟨h1, h2⟩ := isDome_of h
 simp only [isDome, headOk, within, Zs, decide_eq_true_eq, Xn, goreOk, roundOk, isSpan, widthOk] at h1
 rw [Xn] at h2
 refine ⟨by omega, by omega, by omega, by omega, by omega, by omega, fun g hg => ?_, fun s hs => ?_, fun n hn => ?_, fun b hb => validB_of (h2 b hb)⟩
 ·have := h1.1.1.2 g hg; omega
 ·have := h1.1.2 s hs; omega
 ·have := h1.2 n hn; omega
theorem ValidB.ok66 {b : Bolt} (h : ValidB b) {s : Int} (hs : 0 ≤ s ∧ s ≤ 60) : ok66 b.strips s := by
 refine ⟨by unfold tame; omega, fun x hx => ?_, by have := h.n; omega⟩
 have := h.sp x hx
 unfold tame; omega
theorem P60 (b : Bolt) : PureCall Try.prog 99 [.ag (eBolt b)] (.fn 118 [.pa (eBolt b)]) := by
 refine pure_body okH hmix Try.func99 cb99 cc99 cs99 cn99 ?_
 simp only [rc99, rs99, eBolt, ru_reg, ru_seq, ru_ret, ru_keep, thenQ, run_nil, run_cons, Fam.step, stepQ, evO, opv, qv, V.cells, solid, hasRef, hasRefL, upd_some, lkp_cons, lkp_nil, ↓reduceIte, Nat.reduceEqDiff, Qb, Qe, endQ, rvs, rv1, resV, vw_i, vw_sl, vw_pa, vw_ag, vw_fn, zipA, Qs, and_self, eBolt]
def rI70 : List V → Prop × V := fnG (fun b => [.pa (eBolt b)]) (fun vs => dBolt (pC (vs.headD .u))) (fun b => tame 1000 b.stretch.low ∧ tame 1000 b.stretch.high) ysB (.sl 0)
def r60 : List V → Prop × V := fnG (fun b => [.ag (eBolt b)]) dB (fun _ => True) (fun b => b) (fun b => .fn 118 [.pa (eBolt b)])
def r41 : List V → Prop × V := fnG (fun d => [.ag (eDome d)]) dD (fun _ => True) check .i
def eDN (a : Dome × Int) : List V := [.ag (eDome a.1), .i a.2]
def dDN : List V → Dome × Int | [.ag cs, .i n] => (dDome cs, n) | _ => (D0, 0)
theorem dDN_e (a : Dome × Int) : dDN (eDN a) = a := by simp [dDN, eDN, dDome_e]
def r46 : List V → Prop × V := fnG eDN dDN (fun a => a.1.rounds.length < 1000) (fun a => within a.2 0 (a.1.rounds.length - 1)) .b
def r56 : List V → Prop × V := fnG eDN dDN (fun a => a.1.bolts.length < 1000) (fun a => within a.2 0 (a.1.bolts.length - 1)) .b
def r61 : List V → Prop × V := fnG eBI dBI (fun a => ok66 a.1.strips a.2) (fun a => (falses a.1.strips a.2 : Int)) .i
def GJ : Gam := ((((((GH.ext 74 r41).ext 97 r46).ext 103 r56).ext 100 r61).ext 58 r39).ext 99 r60).ext 2000118 rI70
theorem okJ : GOk Try.prog GJ := by
 have k1 := okH.ext (f := 74) (r := r41) (fun a w => Try.call74 a w) (fnG_ok fun a _ => P41 a)
 have k2 := k1.ext (f := 97) (r := r46) (fun a w => Try.call97 a w) (fnG_ok fun a h => P46 a.1 a.2 h)
 have k3 := k2.ext (f := 103) (r := r56) (fun a w => Try.call103 a w) (fnG_ok fun a h => P56 a.1 a.2 h)
 have k4 := k3.ext (f := 100) (r := r61) (fun a w => Try.call100 a w) (fnG_ok fun a h => P61 a.1 a.2 h)
 have k5 := k4.ext (f := 58) (r := r39) (fun a w => Try.call58 a w) (fnG_ok fun a _ => P39 a)
 have k6 := k5.ext (f := 99) (r := r60) (fun a w => Try.call99 a w) (fnG_ok fun a _ => P60 a)
 refine k6.extI (f := 118) (r := rI70) (fun a w => Try.call118 a w) fun vs ys h1 h2 => ?_
 simp only [rI70, fnG, V.sl.injEq, true_and] at h1 h2
 rw [← h1.1, ← h2]
 exact I70 _ h1.2.1 h1.2.2
theorem gJ54 (n lo hi : Int) : GJ 88 [.i n, .i lo, .i hi] = (True, .b (within n lo hi)) := rfl
theorem gJ66 (a b : Int) (l : List Strip) (w s : Int) : GJ 93 [.ag [.i a, .i b, .sl 3 (l.map eStrip), .i w], .i s] = (ok66 l s, .i (falses l s)) :=
 (show GJ 93 _ = r66 (eBI (⟨⟨a, b⟩, l, w⟩, s)) from rfl).trans (fnG_at _ (dBI_e _))
theorem gJ61 (a b : Int) (l : List Strip) (w s : Int) : GJ 100 [.ag [.i a, .i b, .sl 3 (l.map eStrip), .i w], .i s] = (ok66 l s, .i (falses l s)) :=
 (show GJ 100 _ = r61 (eBI (⟨⟨a, b⟩, l, w⟩, s)) from rfl).trans (fnG_at _ (dBI_e _))
theorem gJ49 (a b : Int) (l : List Strip) (w s : Int) : GJ 69 [.ag [.i a, .i b, .sl 3 (l.map eStrip), .i w], .i s] = (ok66 l s, .b (can ⟨⟨a, b⟩, l, w⟩ s)) :=
 (show GJ 69 _ = r49 (eBI (⟨⟨a, b⟩, l, w⟩, s)) from rfl).trans (fnG_at _ (dBI_e _))
theorem gJ41 (d : Dome) : GJ 74 [.ag (eDome d)] = (True, .i (check d)) := (show GJ 74 _ = r41 [.ag (eDome d)] from rfl).trans (fnG_at (e := fun d => [.ag (eDome d)]) d (dDome_e _))
theorem gJ39 (d : Dome) : GJ 58 [.ag (eDome d)] = (True, .i (check d)) := (show GJ 58 _ = r39 [.ag (eDome d)] from rfl).trans (fnG_at (e := fun d => [.ag (eDome d)]) d (dDome_e _))
theorem gJ46 (d : Dome) (n : Int) : GJ 97 [.ag (eDome d), .i n] = (d.rounds.length < 1000, .b (within n 0 (d.rounds.length - 1))) := (show GJ 97 _ = r46 (eDN (d, n)) from rfl).trans (fnG_at _ (dDN_e _))
theorem gJ56 (d : Dome) (n : Int) : GJ 103 [.ag (eDome d), .i n] = (d.bolts.length < 1000, .b (within n 0 (d.bolts.length - 1))) := (show GJ 103 _ = r56 (eDN (d, n)) from rfl).trans (fnG_at _ (dDN_e _))
theorem gJ60 (b : Bolt) : GJ 99 [.ag (eBolt b)] = (True, .fn 118 [.pa (eBolt b)]) := (show GJ 99 _ = r60 [.ag (eBolt b)] from rfl).trans (fnG_at (e := fun b => [.ag (eBolt b)]) b (dBolt_e _))
theorem gJ70 (b : Bolt) : GJ 2000118 [.pa (eBolt b)] = (tame 1000 b.stretch.low ∧ tame 1000 b.stretch.high, .sl 0 (ysB b)) := (show GJ 2000118 _ = rI70 [.pa (eBolt b)] from rfl).trans (fnG_at (e := fun b => [.pa (eBolt b)]) b (dBolt_e _))
theorem ysB_get {b : Bolt} {k : Nat} {x : List V} (h : (ysB b)[k]? = some x) : x = [.i (b.stretch.low + k)] ∧ k < (b.stretch.high + 1 - b.stretch.low).toNat := by
 simp only [ysB, Q1, Option.map_eq_some_iff] at h
 obtain ⟨n, hn, rfl⟩ := h
 obtain ⟨rfl, h2⟩ := ints_get' hn
 exact ⟨rfl, h2⟩
theorem ysB_len (b : Bolt) : (ysB b).length = (b.stretch.high + 1 - b.stretch.low).toNat := by simp [ysB, ints_len]
def boltAt (d : Dome) (n : Int) : Bolt := (d.bolts[n.toNat]?).getD ⟨⟨0, 0⟩, [], 0⟩
theorem within_nat {n : Int} {k : Nat} (h : within n 0 ((k : Int) - 1) = true) : 0 ≤ n ∧ n < k := by simp only [within, Zs, decide_eq_true_eq] at h; omega
end Go.C02
set_option linter.unusedSimpArgs false
set_option linter.unusedVariables false
namespace Go.C02
open Go.Fam Go.Proofs
theorem flat_snoc {α : Type} (e : α → List V) (l : List α) (x : α) : ((l ++ [x]).map e).flatten = (l.map e).flatten ++ e x := by simp
theorem filter_snoc {α : Type} (p : α → Bool) {l : List α} {k : Nat} {x : α} (h : l[k]? = some x) : (l.take (k + 1)).filter p = (l.take k).filter p ++ (if p x then [x] else []) := by
 rw [take_succ_of h, List.filter_append]
 congr 1
 by_cases hp : p x <;> simp [hp]
theorem chunk_I (l : List Int) : chunk 1 ((l.map eI).flatten) 0 l.length = l.map eI := chunk_flat (e := eI) (k := 1) (fun _ => rfl) l
theorem len_I (l : List Int) : ((l.map eI).flatten).length = l.length * 1 := flat_len (e := eI) (k := 1) (fun _ => rfl) l
theorem vw_I (hp : List Blk) (n : Nat) (l : List Int) : (l.map eI).map (fun r => r.map (vw hp (n + 1))) = l.map eI := map_vw_rows (e := eI) hp (n + 1) (fun _ => rfl) l
theorem noref_I (l : List Int) : hasRefL ((l.map eI).flatten) = false := hasRefL_flat (e := eI) (fun _ => rfl) l
def numbersOf (b : Bolt) : List Int := (ints b.stretch.low b.stretch.high).filter (can b)
def numbersTo (b : Bolt) (k : Nat) : List Int := ((ints b.stretch.low b.stretch.high).take k).filter (can b)
theorem numbersTo_succ {b : Bolt} {k : Nat} (h : k < (b.stretch.high + 1 - b.stretch.low).toNat) : numbersTo b (k + 1) = numbersTo b k ++ (if can b (b.stretch.low + k) then [b.stretch.low + k] else []) :=
 filter_snoc _ (ints_get h)
theorem numbersTo_all (b : Bolt) : numbersTo b (b.stretch.high + 1 - b.stretch.low).toNat = numbersOf b := by
 unfold numbersTo numbersOf
 rw [← ints_len, Zt]
theorem numbersTo_len (b : Bolt) (k : Nat) : (numbersTo b k).length ≤ k := by
 unfold numbersTo
 exact Z5 (Xa _ _) (Zy _ _)
theorem P65 (b : Bolt) (hv : ValidB b) : PureCall Try.prog 106 [.ag (eBolt b)] (eIs (numbersOf b)) := by
 refine pure_body okJ hmix Try.func106 cb106 cc106 cs106 cn106 ?_
 have hst := hv.st
 simp only [rc106, rs106, ru_reg, ru_seq, ru_block, ru_keep, ru_own, thenQ, run_nil, run_cons, Fam.step, stepQ, evO, opv, qv, ldV, V.cells, solid, hasRef, hasRefL, upd_some, lkp_cons, lkp_nil, ↓reduceIte, Nat.reduceEqDiff, Nat.reduceAdd, Nat.reduceLeDiff, Qb, Qe, Qc, Qd, Qn, Qj, Qk, vw_i, vw_sl, vw_ag, zipA, Qi, Qs, Qa, true_and, and_self, eBolt, eIs]
 refine ru_count (b.stretch.high + 1 - b.stretch.low).toNat (fun i => ⟨lkp [(1, .pa (eBolt b)), (3, .rf 0 (numbersTo b i).length 0 (numbersTo b i).length 1), (4, .i (b.stretch.low + i))], [.cells (numbersTo b i).length ((numbersTo b i).map eI).flatten]⟩) ?_ ?_ ?_
 ·simp only [Q9, Xz, numbersTo, Z7, Q3, kp, lkp_cons, lkp_nil, ↓reduceIte, Nat.reduceEqDiff, Qb, Qe, Qd, Qu, eBolt]
 ·intro i hi
  have hlt : b.stretch.low + (i : Int) ≤ b.stretch.high := by omega
  have h3 : inI (b.stretch.low + (i : Int) + 1) := by unfold inI; omega
  have h4 := hv.ok66 (s := b.stretch.low + i) (by omega)
  have h5 := numbersTo_len b i
  simp only [hlt, h4, gJ49, numbersTo_succ hi, Q5, Za, Z2, boltE, spanE, ru_skip, ru_reg, ru_seq, ru_cnd, ite_P, ru_block, ru_keep, chunk1, putB, thenQ, blockQ, run_nil, run_cons, Fam.step, stepQ, stepW, needW, putB, nv, sv, newsV, evO, opv, qv, binV, ldV, callV, foldParts, putAt, partsOk, partsOne, V.cells, solid, cellOk, hasRef, hasRefL, flat, kp, upd_some, lkp_cons, lkp_nil, ↓reduceIte, Nat.reduceEqDiff, Nat.reduceAdd, Nat.reduceMul, Nat.reduceLT, Nat.reduceLeDiff, Qb, Qe, Q0, Q2, Qc, Qd, Ql, Qn, Qg, Qu, Qw, Qj, Qh, Qk, Qm, Qf, Qv, Qz, Q8, vw_i, vw_sl, vw_ag, Qi, Qx, Qs, Qa, decide_true, true_and, and_self, implies_true, reduceCtorEq, not_false_eq_true, ne_eq, Zz, spanE, boltE, eBolt]
  rw [Z2] at h3
  refine ⟨fun h => ?_, fun h => ?_⟩
  ·simp only [h, h3, len_I, Zw, Ze, Xj, Xg, Zb, Q3, ↓reduceIte, Qb, Qe, Qc, Qd, Qm, Qi, true_and, and_true, and_self, eI]
   unfold fitsLen; omega
  ·simp only [h, h3, ↓reduceIte, Qm, Qa, and_self]
 ·have hgt : ¬ (b.stretch.low + ((b.stretch.high + 1 - b.stretch.low).toNat : Int) ≤ b.stretch.high) := by omega
  simp only [hgt, len_I, Zw, Zn, chunk_I, vw_I, numbersTo_all, ru_reg, ru_seq, ru_cnd, ru_exit, ru_ret, ru_keep, thenQ, blockQ, run_nil, run_cons, Fam.step, stepQ, evO, opv, qv, binV, ldV, upd_some, lkp_cons, lkp_nil, ↓reduceIte, Nat.reduceEqDiff, Nat.reduceAdd, Nat.reduceLeDiff, Qb, Qe, Qc, Qd, Ql, Qn, Qj, Qf, endQ, rvs, rv1, resV, vw_rf, Qi, Qa, decide_false, and_self, eBolt]
def cansOf (d : Dome) : List (List Int) := d.bolts.map numbersOf
theorem chunk_C (l : List (List Int)) : chunk 1 ((l.map eCan).flatten) 0 l.length = l.map eCan := chunk_flat (e := eCan) (k := 1) (fun _ => rfl) l
theorem len_C (l : List (List Int)) : ((l.map eCan).flatten).length = l.length * 1 := flat_len (e := eCan) (k := 1) (fun _ => rfl) l
theorem vw_C (hp : List Blk) (n : Nat) (l : List (List Int)) : (l.map eCan).map (fun r => r.map (vw hp (n + 1))) = l.map eCan := map_vw_rows (e := eCan) hp (n + 1) (fun _ => rfl) l
theorem noref_C (l : List (List Int)) : hasRefL ((l.map eCan).flatten) = false := hasRefL_flat (e := eCan) (fun _ => rfl) l
def pitchE (d : Dome) (is : Bool) : Int := if check d ≠ 0 then check d else if is then (if (cansOf d).any Z6 then 3 else 0) else 1
def pitchV (d : Dome) (is : Bool) : V := .tp [if pitchE d is = 0 then .pa (eTent ⟨d, cansOf d⟩) else .pn, .i (pitchE d is)]
theorem filter_can (b : Bolt) {s : Int} (h1 : b.stretch.low ≤ s) (h2 : s ≤ b.stretch.high) : can b s = decide ((falses b.strips s : Int) ≤ b.wrong) := by
 simp [can, within, h1, h2]
theorem P45 (d : Dome) (is : Bool) : PureCall Try.prog 79 [.ag (eDome d), .b is] (pitchV d is) := by
 refine pure_body okJ hmix Try.func79 cb79 cc79 cs79 cn79 ?_
 have g1 := gJ41 d
 unfold eDome at g1
 simp only [rc79, rs79, g1, pitchV, ru_skip, ru_reg, ru_seq, ru_cnd, ite_P, ru_block, ru_ret, ru_keep, ru_ownc, thenQ, run_nil, run_cons, Fam.step, stepQ, stepW, needW, nv, evO, opv, qv, binV, ldV, lenV, callV, foldParts, putAt, partsOk, V.cells, solid, cellOk, hasRef, hasRefL, flat, upd_some, lkp_cons, lkp_nil, ↓reduceIte, Nat.reduceEqDiff, Nat.reduceAdd, Nat.reduceLT, Nat.reduceLeDiff, Qb, Qe, Q0, Q2, Qc, Qd, Ql, Qn, Qg, Qu, Qw, Qj, Qh, Qk, Qm, Qf, Qo, Zg, Qv, Qy, endQ, rvs, rv1, resV, vw_i, vw_pn, vw_sl, vw_ag, vw_tp, zipA, Qi, Qx, Qs, Qa, decide_eq_false_iff_not, true_and, and_self, implies_true, reduceCtorEq, Zd, Qq, Xk, Classical.not_not, eDome, eTent]
 refine ⟨fun h => ?_, fun h => ⟨fun h2 => ?_, fun h2 => ?_⟩⟩
 ·have e : pitchE d is = check d := by simp [pitchE, h]
  rw [e, if_neg h]
 ·have e : pitchE d is = 1 := by simp [pitchE, h, h2]
  rw [e]; rfl
 have hv := valid_of h
 have hnb := hv.nb
 refine ru_countC d.bolts.length (fun i => ⟨lkp [(7, .ad 0 0 0), (23, .sl 4 (d.bolts.map eBolt)), (24, .i d.bolts.length), (25, .i i), (31, .u)],
  [.cells 0 (eDome d ++ [.rf 1 i 0 i 1]), .cells i (((cansOf d).take i).map eCan).flatten]⟩) (fun i => ((cansOf d).take i).any Z6 = false) ?_ ?_ ?_ ?_
 ·simp only [Q9, Q3, cutH, kp, cutV, cutL, cutB, lkp_cons, lkp_nil, ↓reduceIte, Nat.reduceEqDiff, Nat.reduceLT, Qb, Qe, Qg, Qu, Qw, Qh, Qk, eDome]
 ·rfl
 ·intro i hi hC
  obtain ⟨b, hb⟩ : ∃ b, d.bolts[i]? = some b := ⟨_, Qr hi⟩
  have hvb := hv.bolts b (Q4 hb)
  have hst := hvb.st
  have hlt : (i : Int) < d.bolts.length := by omega
  have h3 : inI ((i : Int) + 1) := by unfold inI; omega
  have hcan : (cansOf d)[i]? = some (numbersOf b) := by simp [cansOf, hb]
  have hti := take_succ_of hcan
  have hlen : ((cansOf d).take i).length = i := by simp [cansOf]; omega
  have g3 := gJ60 b
  unfold eBolt at g3
  have g4 := gJ70 b
  unfold eBolt at g4
  simp only [hb, hlt, g3, ru_skip, ru_reg, ru_seq, ru_cnd, ru_block, ru_keep, ru_ownc, cutH, putB, thenQ, run_nil, run_cons, Fam.step, stepQ, stepW, needW, putB, nv, sv, evO, opv, qv, binV, ldV, iadV, callV, putAt, V.cells, solid, cellOk, hasRef, hasRefL, flat, kp, upd_some, upd_none, lkp_cons, lkp_nil, ↓reduceIte, Nat.reduceEqDiff, Nat.reduceAdd, Nat.reduceLT, Nat.reduceLeDiff, Qb, Qe, Q0, Q2, Qc, Qd, Ql, Qn, Zh, Qg, Qu, Qw, Qh, Qk, Qm, Qf, Qo, Qt, Qv, Qy, vw_i, vw_sl, vw_ag, Q7, Qi, Zr, Qx, Qs, Qa, decide_true, true_and, and_self, Q6, imp_self, Qq, Zc, Qp, Q1, eBolt, eDome]
  refine ru_rfnC (gf := 118) (caps := [.pa (eBolt b)]) (ok := tame 1000 b.stretch.low ∧ tame 1000 b.stretch.high) (ys := ysB b)
   (fun k => [.cells 0 (eDome d ++ [.rf 1 i 0 i 1]), .cells i (((cansOf d).take i).map eCan).flatten, .cells 0 (eBolt b), .cells 0 [.rf 4 (numbersTo b k).length 0 (numbersTo b k).length 1], .cells (numbersTo b k).length ((numbersTo b k).map eI).flatten]) (fun _ => True) ?_ ?_ (by decide) ?_ rfl ?_ ?_ trivial ?_ ?_
  ·simp only [evO, lkp_cons, ↓reduceIte, Nat.reduceEqDiff, eBolt]
  ·simp only [g4, Nat.reduceAdd, Qb, Qe, vw_pa, eBolt]
  ·unfold tame; omega
  ·intro x hx
   obtain ⟨k, hk⟩ := List.getElem?_of_mem hx
   rw [(ysB_get hk).1]; rfl
  ·simp only [numbersTo, Z7, Q3, cutL_noref _ _ _ (noref_C ((cansOf d).take i)), cutH, cutV, cutL, cutB, ↓reduceIte, Nat.reduceLT, Qb, Qe, Qd, Qg, Qu, Qw, Qh, Qk, eBolt, eDome]
  ·intro k x hx _
   obtain ⟨rfl, hk⟩ := ysB_get hx
   have h4 := hvb.ok66 (s := b.stretch.low + k) (by omega)
   have h5 := numbersTo_len b k
   simp only [gJ61, h4, numbersTo_succ hk, filter_can b (s := b.stretch.low + k) (by omega) (by omega), ru_skip, ru_reg, ru_any, ru_seq, ru_cnd, ite_P, ru_block, ru_keep, chunk1, ↓cut_lkp, rnQ, rndQ, updL, putBs, cutH, putB, thenQ, blockQ, run_nil, run_cons, Fam.step, stepQ, stepW, needW, runX, eff, nextD, fpR, fpQ, fpV, disjB, hits, putB, nv, sv, newsV, evO, opv, qv, binV, ldV, curG, callV, foldParts, putAt, partsOk, partsOne, V.cells, solid, cellOk, hasRef, hasRefL, flat, cutV, cutL, cutB, upd_some, upd_none, lkp_cons, lkp_nil, ↓reduceIte, Nat.reduceEqDiff, Nat.reduceAdd, Nat.reduceMul, Nat.reduceLT, Nat.reduceLeDiff, Qb, Qe, Q0, Q2, Qc, Qd, Ql, Qn, Zh, Qg, Qu, Qw, Qj, Qh, Qk, Qm, Qf, Qo, Zg, Zl, Qv, Qy, Qz, Q8, Zi, vw_i, vw_sl, vw_ag, beq_self_eq_true, Qi, Qx, Zf, Zo, Qs, Zp, Zk, Qa, decide_eq_true_eq, true_and, and_self, implies_true, reduceCtorEq, not_false_eq_true, ne_eq, Zv, Zu, Zj, Qp, eBolt, eDome]
   refine ⟨fun h => ?_, fun h => ?_⟩
   ·simp only [h, len_I, Zw, Ze, Xj, Xg, Zb, Q3, cutL_noref _ _ _ (noref_C ((cansOf d).take i)), cutL_append, cutL_noref _ _ _ (noref_I (numbersTo b k)), cutV, cutL, ↓reduceIte, Qb, Qe, Qc, Qd, Qm, Qi, true_and, and_true, eI]
    unfold fitsLen; omega
   ·simp only [h, cutL_noref _ _ _ (noref_C ((cansOf d).take i)), cutL_noref _ _ _ (noref_I (numbersTo b k)), ↓reduceIte, Qm]
  ·intro _
   have hdrop : ∀ hp : List Blk, True := fun _ => trivial
   simp only [ysB_len, numbersTo_all, cutL_noref _ _ _ (noref_C ((cansOf d).take i)), hpF, upB, upL, upV, upL_noref _ _ (noref_I (numbersOf b)), len_I, Zw, Zn, chunk_I, vw_I, vw8, ru_skip, ru_reg, ru_any, ru_seq, ru_cnd, ite_P, ru_ret, ru_keep, ru_drp, chunk1, ↓cut_lkp, putBs, optL, cutH, thenQ, blockQ, run_nil, run_cons, Fam.step, stepQ, needW, runX, eff, nextD, fpR, fpQ, fpV, disjB, hits, nv, sv, newsV, evO, opv, qv, binV, ldV, lenV, curG, foldParts, putAt, partsOk, partsOne, V.cells, solid, cellOk, hasRef, hasRefL, cutV, cutL, cutB, upd_some, upd_none, lkp_cons, lkp_nil, ↓reduceIte, Nat.reduceEqDiff, Nat.reduceAdd, Nat.reduceLT, Qb, Qe, Q0, Q2, Qc, Qd, Ql, Qn, Zh, Qg, Qu, Qw, Qj, Qh, Qk, Qm, Qf, Qo, Zg, Qt, Zl, Qv, Qy, Qz, Q8, Zi, Zx, endQ, rvs, rv1, resV, vw_i, vw_pn, vw_sl, vw_tp, vw_ad, vw_rf, beq_self_eq_true, Qi, Qx, Zf, Xh, Zo, Qs, Z8, Zp, Zk, Qa, decide_eq_true_eq, true_and, and_self, reduceCtorEq, not_false_eq_true, ne_eq, Z9, Zv, Zu, Zj, Qp, eBolt, eDome]
   refine ⟨fun h => ?_, fun h => ?_⟩
   ·have e : pitchE d is = 3 := by
     have : (cansOf d).any Z6 = true := Xo.2 ⟨_, Q4 hcan, by simpa using h⟩
     simp [pitchE, h2, this, ‹check d = 0›]
    rw [e]; rfl
   ·refine ⟨⟨by rw [len_C, hlen, Zw], by unfold fitsLen; omega⟩, h3, ?_, ?_⟩
    ·rw [hti, X9, hC]
     simpa using h
    ·simp only [cutL_append, cutL_noref _ _ _ (noref_C ((cansOf d).take i)), hti, flat_snoc, Q5, Za, Zb, Q3, cutV, cutL, Qm, eCan]
 ·intro hC
  have e : pitchE d is = 0 := by
   have hl : (cansOf d).take d.bolts.length = cansOf d := by rw [show d.bolts.length = (cansOf d).length from by simp [cansOf], Zt]
   rw [hl] at hC
   simp [pitchE, h2, hC, ‹check d = 0›]
  have hl : (cansOf d).take d.bolts.length = cansOf d := by rw [show d.bolts.length = (cansOf d).length from by simp [cansOf], Zt]
  have hl2 : d.bolts.length = (cansOf d).length := by simp [cansOf]
  simp only [e, len_C, Zw, hl2, Zt, Zn, chunk_C, vw_C, ru_reg, ru_seq, ru_cnd, ru_exit, ru_ret, ru_keep, thenQ, blockQ, run_nil, run_cons, Fam.step, stepQ, evO, opv, qv, binV, ldV, upd_some, lkp_cons, lkp_nil, ↓reduceIte, Nat.reduceEqDiff, Qb, Qe, Qn, Qh, Qk, Qf, Qo, endQ, rvs, rv1, resV, vw_i, vw_sl, vw_tp, vw_ad, vw_rf, Zq, Qi, Qa, decide_false, and_self, eDome]
end Go.C02
set_option linter.unusedSimpArgs false
set_option linter.unusedVariables false
namespace Go.C02
open Go.Fam Go.Proofs
def dTN : List V → Tent × Int | [.pa cs, .i n] => (dTent cs, n) | _ => (⟨D0, []⟩, 0)
def eTN (a : Tent × Int) : List V := [.pa (eTent a.1), .i a.2]
theorem dTN_e (a : Tent × Int) : dTN (eTN a) = a := by simp [dTN, eTN, dTent_e]
def eDB (a : Dome × Bool) : List V := [.ag (eDome a.1), .b a.2]
def dDB : List V → Dome × Bool | [.ag cs, .b n] => (dDome cs, n) | _ => (D0, false)
theorem dDB_e (a : Dome × Bool) : dDB (eDB a) = a := by simp [dDB, eDB, dDome_e]
def r50 : List V → Prop × V := fnG eTN dTN (fun a => ok50 a.1 a.2) (fun a => roundOf a.1 a.2) (fun s => .ag (eSpan s))
def r45 : List V → Prop × V := fnG eDB dDB (fun _ => True) (fun a => a) (fun a => pitchV a.1 a.2)
def GL : Gam := (GJ.ext 98 r50).ext 79 r45
theorem okL : GOk Try.prog GL := by
 have k1 := okJ.ext (f := 98) (r := r50) (fun a w => Try.call98 a w) (fnG_ok fun a h => P50 a.1 a.2 h)
 have k2 := k1.ext (f := 79) (r := r45) (fun a w => Try.call79 a w) (fnG_ok fun a _ => P45 a.1 a.2)
 exact k2
theorem gL50 (b : List Bolt) (g : List Int) (l : Int) (r : List Span) (w : List Int) (s : Int) (c : List (List Int)) (n : Int) :
  GL 98 [.pa [.sl 4 (b.map eBolt), .sl 1 (g.map eI), .i l, .sl 2 (r.map eSpan), .sl 1 (w.map eI), .i s, .sl 1 (c.map eCan)], .i n] = (ok50 ⟨⟨b, g, l, r, w, s⟩, c⟩ n, .ag (eSpan (roundOf ⟨⟨b, g, l, r, w, s⟩, c⟩ n))) :=
 (show GL 98 _ = r50 (eTN (⟨⟨b, g, l, r, w, s⟩, c⟩, n)) from rfl).trans (fnG_at _ (dTN_e _))
theorem gL45 (b : List Bolt) (g : List Int) (l : Int) (r : List Span) (w : List Int) (s : Int) (x : Bool) :
  GL 79 [.ag [.sl 4 (b.map eBolt), .sl 1 (g.map eI), .i l, .sl 2 (r.map eSpan), .sl 1 (w.map eI), .i s], .b x] = (True, pitchV ⟨b, g, l, r, w, s⟩ x) :=
 (show GL 79 _ = r45 (eDB (⟨b, g, l, r, w, s⟩, x)) from rfl).trans (fnG_at _ (dDB_e _))
def isRow (d : Dome) (n : Int) : Bool := within n 0 (d.rounds.length - 1)
def isBoltOf (d : Dome) (n : Int) : Bool := within n 0 (d.bolts.length - 1)
theorem gL46 (b : List Bolt) (g : List Int) (l : Int) (r : List Span) (w : List Int) (s : Int) (n : Int) :
  GL 97 [.ag [.sl 4 (b.map eBolt), .sl 1 (g.map eI), .i l, .sl 2 (r.map eSpan), .sl 1 (w.map eI), .i s], .i n] = (r.length < 1000, .b (isRow ⟨b, g, l, r, w, s⟩ n)) := gJ46 ⟨b, g, l, r, w, s⟩ n
theorem gL56 (b : List Bolt) (g : List Int) (l : Int) (r : List Span) (w : List Int) (s : Int) (n : Int) :
  GL 103 [.ag [.sl 4 (b.map eBolt), .sl 1 (g.map eI), .i l, .sl 2 (r.map eSpan), .sl 1 (w.map eI), .i s], .i n] = (b.length < 1000, .b (isBoltOf ⟨b, g, l, r, w, s⟩ n)) := gJ56 ⟨b, g, l, r, w, s⟩ n
structure Good (d : Dome) : Prop where
 v : Valid d
 c : check d = 0
 ne : ∀ b ∈ d.bolts, numbersOf b ≠ []
theorem pitchE_zero {d : Dome} {is : Bool} (h : pitchE d is = 0) : Good d ∧ is = true := by
 unfold pitchE at h
 by_cases h1 : check d = 0
 ·rw [if_neg (by simp [h1])] at h
  cases is
  ·simp at h
  ·refine ⟨⟨valid_of h1, h1, fun b hb hn => ?_⟩, rfl⟩
   by_cases h2 : (cansOf d).any Z6 = true
   ·simp [h2] at h
   ·apply h2
    rw [Xo]
    exact ⟨numbersOf b, List.mem_map_of_mem hb, by simp [hn]⟩
 ·rw [if_pos h1] at h
  exact absurd h h1
theorem Good.pitch {d : Dome} (h : Good d) (is : Bool) : pitchE d is = if is then 0 else 1 := by
 have : ¬ (cansOf d).any Z6 = true := by
  rw [Xo]
  rintro ⟨l, hl, he⟩
  obtain ⟨b, hb, rfl⟩ := Xe.1 hl
  exact h.ne b hb (by simpa using he)
 simp [pitchE, h.c, this]
def tentOf (d : Dome) : Tent := ⟨d, cansOf d⟩
theorem mem_numbersOf {b : Bolt} {s : Int} : s ∈ numbersOf b ↔ can b s = true := by
 simp only [numbersOf, Ja, mem_ints]
 constructor
 ·exact fun h => h.2
 ·intro h
  refine ⟨?_, h⟩
  simp only [can, within, Zs, decide_eq_true_eq] at h
  omega
theorem numbersOf_range {b : Bolt} (hv : ValidB b) {s : Int} (h : s ∈ numbersOf b) : 0 ≤ s ∧ s ≤ 60 := by
 have := mem_numbersOf.1 h
 simp only [can, within, Zs, decide_eq_true_eq] at this
 have := hv.st
 omega
theorem numbersOf_len {b : Bolt} (hv : ValidB b) : (numbersOf b).length ≤ 61 := by
 have h1 : (numbersOf b).length ≤ (ints b.stretch.low b.stretch.high).length := Xa _ _
 rw [ints_len] at h1
 have := hv.st
 omega
theorem Good.ok50 {d : Dome} (h : Good d) {w : Int} (hw : tame 100000 w) : ok50 (tentOf d) w := by
 have := h.v.loss
 have := h.v.ng
 refine ⟨hw, by unfold tame tentOf; dsimp only; omega, fun g hg => ?_, fun l hl => ?_, by unfold tentOf; dsimp only; omega⟩
 ·have := h.v.gores g hg
  simp only [tentOf, cansOf, Qq]
  omega
 ·obtain ⟨b, hb, rfl⟩ := Xe.1 hl
  have hvb := h.v.bolts b hb
  refine ⟨h.ne b hb, by have := numbersOf_len hvb; omega, fun s hs => ?_⟩
  have := numbersOf_range hvb hs
  unfold tame; omega
def widthAt (d : Dome) (n : Int) : Int := d.widths[n.toNat]?.getD 0
def wantAt (d : Dome) (n : Int) : Span := d.rounds[n.toNat]?.getD ⟨0, 0⟩
def roundR (d : Dome) (row : Int) : Span × Int := if pitchE d (isRow d row) = 0 then (roundOf (tentOf d) (widthAt d row), 0) else (⟨0, 0⟩, pitchE d (isRow d row))
def eSE (a : Span × Int) : V := .tp [.ag (eSpan a.1), .i a.2]
theorem row_of {d : Dome} (hv : Valid d) {n : Int} (h : isRow d n = true) : 0 ≤ n ∧ n < d.rounds.length ∧ n < d.widths.length ∧ d.widths[n.toNat]? = some (widthAt d n) ∧ d.rounds[n.toNat]? = some (wantAt d n) ∧ 2 * d.loss ≤ widthAt d n ∧ widthAt d n ≤ 2000 := by
 obtain ⟨k1, k2⟩ := within_nat h
 have := hv.nw
 have e1 : d.widths[n.toNat]? = some (widthAt d n) := by rw [widthAt, Qr (by omega)]; rfl
 have e2 : d.rounds[n.toNat]? = some (wantAt d n) := by rw [wantAt, Qr (by omega)]; rfl
 have := hv.widths _ (Q4 e1)
 exact ⟨k1, k2, by omega, e1, e2, this⟩
theorem P23 (d : Dome) (n : Int) (hb : d.rounds.length < 1000) : PureCall Try.prog 77 [.ag (eDome d), .i n] (eSE (roundR d n)) := by
 refine pure_body okL hmix Try.func77 cb77 cc77 cs77 cn77 ?_
 simp only [rc77, rs77, gL46, gL45, pitchV, eSE, roundR, ru_skip, ru_reg, ru_any, ru_seq, ru_cnd, ite_P, ru_ret, ru_keep, putBs, putB, thenQ, run_nil, run_cons, Fam.step, stepQ, stepW, needW, runX, eff, nextD, fpR, fpQ, fpV, disjB, hits, putB, nv, sv, evO, opv, qv, binV, ldV, iadV, callV, foldParts, putAt, partsOk, V.cells, solid, cellOk, hasRef, hasRefL, flat, flatL, upd_some, upd_none, lkp_cons, lkp_nil, ↓reduceIte, Nat.reduceEqDiff, Nat.reduceAdd, Nat.reduceLT, Nat.reduceLeDiff, Qb, Qe, Q0, Q2, Qc, Qd, Ql, Qn, Zh, Qg, Qu, Qw, Qj, Qh, Qk, Qm, Qf, Qo, Zg, Qt, Zl, Qv, Qz, Zi, endQ, rvs, rv1, resV, vw_i, vw_b, vw_sl, vw_ag, vw_tp, zipA, Qi, Qx, Zf, Zo, Qs, Zp, Zk, Qa, decide_eq_false_iff_not, true_and, and_true, and_self, false_implies, implies_true, reduceCtorEq, Zv, Zj, Zd, Qq, Qp, Q1, Classical.not_not, domeE, eSpan, eDome, eTent]
 refine ⟨by omega, fun h => ?_, fun h => ?_⟩
 ·simp [h]
 ·obtain ⟨hg, hr⟩ := pitchE_zero h
  obtain ⟨k1, k2, k3, k4, k5, k6⟩ := row_of hg.v hr
  have hl := hg.v.loss
  have h3 := hg.ok50 (w := widthAt d n) (by unfold tame; omega)
  unfold tentOf at *
  simp only [h, k1, k3, k4, gL50, h3, cellOk, hasRef, flat, flatL, ↓reduceIte, Nat.reduceAdd, Nat.reduceLeDiff, Qb, Qe, Q0, Q2, Qc, Qd, Ql, Zh, Qg, Qw, Qj, Qm, Qt, vw_i, vw_pa, Qi, Qx, Qs, Qa, and_self, implies_true, Q6, domeE, eSpan, eI]
  all_goals skip
def fits (t : Tent) (row w : Int) : Bool := !(decide ((roundOf t w).low < (wantAt t.dome row).low) || decide ((wantAt t.dome row).high < (roundOf t w).high))
theorem headD_snoc {l : List Int} {x y : Int} : (l ++ [x]).headD y = if l.isEmpty then x else l.headD y := by cases l <;> simp
theorem getLastD_snoc {l : List Int} {x y : Int} : (l ++ [x]).getLastD y = x := by simp [Xw]
theorem isEmpty_snoc {l : List Int} {x : Int} : (l ++ [x]).isEmpty = false := by cases l <;> rfl
def goods (t : Tent) (row : Int) : List Int := (ints (2 * t.dome.loss) 2000).filter (fits t row)
def goodsTo (t : Tent) (row : Int) (k : Nat) : List Int := ((ints (2 * t.dome.loss) 2000).take k).filter (fits t row)
def cutSp (l : List Int) : Span := ⟨l.headD 0, l.getLastD 0⟩
def cutOf (t : Tent) (row : Int) : Span × Bool := (cutSp (goods t row), !(goods t row).isEmpty)
def eSB (a : Span × Bool) : V := .tp [.ag (eSpan a.1), .b a.2]
def ok48 (t : Tent) (row : Int) : Prop := 0 ≤ t.dome.loss ∧ t.dome.loss ≤ 20 ∧ 0 ≤ row ∧ row < t.dome.rounds.length ∧ ∀ w, 0 ≤ w → w ≤ 2000 → ok50 t w
theorem P48 (t : Tent) (row : Int) (h : ok48 t row) : PureCall Try.prog 81 [.pa (eTent t), .i row] (eSB (cutOf t row)) := by
 refine pure_body okL hmix Try.func81 cb81 cc81 cs81 cn81 ?_
 obtain ⟨h1, h2, h3, h4, h5⟩ := h
 have e2 : t.dome.rounds[row.toNat]? = some (wantAt t.dome row) := by rw [wantAt, Qr (by omega)]; rfl
 have i1 : inI (2 * t.dome.loss) := by unfold inI; omega
 simp only [rc81, rs81, eTent, h3, h4, e2, i1, eSB, ru_reg, ru_seq, ru_block, ru_keep, putB, thenQ, run_nil, run_cons, Fam.step, stepQ, stepW, needW, putB, nv, sv, evO, opv, qv, binV, ldV, iadV, putAt, V.cells, solid, cellOk, upd_some, upd_none, lkp_cons, lkp_nil, ↓reduceIte, Nat.reduceEqDiff, Nat.reduceAdd, Nat.reduceLeDiff, Qb, Qe, Q0, Q2, Qc, Qd, Ql, Qn, Zh, Qg, Qu, Qw, Qj, Qh, Qk, Qm, Qf, Qo, Qt, Qv, Qy, zipA, Qi, Qx, Qa, true_and, and_self, reduceCtorEq, Q6, Qq, Qp, Q1, eSpan, eDome, eTent]
 refine ru_count (2001 - 2 * t.dome.loss).toNat (fun k => ⟨lkp [(0, .pa (eTent t)), (4, .ad 0 0 0), (5, .b (!(goodsTo t row k).isEmpty)), (6, .ad 1 0 0), (7, .i (2 * t.dome.loss + k))],
  [.cells 0 [.i ((goodsTo t row k).headD 0), .i ((goodsTo t row k).getLastD 0)], .cells 0 (eSpan (wantAt t.dome row))]⟩) ?_ ?_ ?_
 ·simp only [Q9, Xz, goodsTo, Z7, Zi, Jc, List.getLastD_nil, cutH, kp, cutV, cutL, cutB, lkp_cons, lkp_nil, ↓reduceIte, Nat.reduceEqDiff, Nat.reduceLT, Qb, Qe, Qg, Qu, Qw, Jc, Qh, Qk, Zi, Zp, reduceCtorEq, eSpan, eDome, eTent]
 ·intro k hk
  have hget : (ints (2 * t.dome.loss) 2000)[k]? = some (2 * t.dome.loss + k) := ints_get (by omega)
  have hs : goodsTo t row (k + 1) = goodsTo t row k ++ (if fits t row (2 * t.dome.loss + k) then [2 * t.dome.loss + k] else []) := filter_snoc _ hget
  have hlt : 2 * t.dome.loss + (k : Int) ≤ 2000 := by omega
  have i2 : inI (2 * t.dome.loss + (k : Int) + 1) := by unfold inI; omega
  have o3 := h5 (2 * t.dome.loss + k) (by omega) (by omega)
  simp only [hlt, eTent, gL50, o3, hs, Q5, Za, Z2, ru_skip, ru_reg, ru_seq, ru_cnd, ite_P, ru_block, ru_exit, ru_keep, ru_drp, ↓cut_lkp, cutH, putB, thenQ, blockQ, run_nil, run_cons, Fam.step, stepQ, stepW, needQ, needW, condB, ug, putB, nv, sv, evO, opv, qv, pickV_bb, binV, ldV, curG, callV, putAt, V.cells, solid, cellOk, hasRef, hasRefL, flat, flatL, kp, cutV, cutL, cutB, upd_some, upd_none, lkp_cons, lkp_nil, ↓reduceIte, Nat.reduceEqDiff, Nat.reduceAdd, Nat.reduceLT, Nat.reduceLeDiff, Qb, Qe, Q0, Q2, Qc, Qd, Ql, Qn, Zh, Qg, Qu, Qw, Qj, Qh, Qk, Qm, Qf, Qo, Qv, Qy, vw_i, vw_pa, beq_self_eq_true, Qi, Zr, Qx, Zf, Qs, Qa, decide_true, decide_eq_true_eq, decide_eq_false_iff_not, true_and, and_true, and_self, implies_true, reduceCtorEq, beq_false, X7, Zd, ite_t, imp_self, Zz, domeE, tentE, eSpan, eDome, eTent]
  rw [Z2] at i2
  refine ⟨fun h => ?_, fun h => ⟨fun he => ?_, fun he => ?_⟩⟩
  ·have hf : fits t row (2 * t.dome.loss + k) = false := by unfold fits; rw [h]; rfl
   simp only [hf, i2, ↓reduceIte, Qm, Qa, and_self]
  ·have hf : fits t row (2 * t.dome.loss + k) = true := by unfold fits; rw [h]; rfl
   simp only [hf, i2, he, headD_snoc, getLastD_snoc, isEmpty_snoc, ↓reduceIte, Zk, and_self]
  ·have hf : fits t row (2 * t.dome.loss + k) = true := by unfold fits; rw [h]; rfl
   simp only [hf, i2, he, headD_snoc, getLastD_snoc, isEmpty_snoc, ↓reduceIte, Zk, Qa, and_self]
 ·have hgt : ¬ (2 * t.dome.loss + ((2001 - 2 * t.dome.loss).toNat : Int) ≤ 2000) := by omega
  simp only [hgt, ru_reg, ru_seq, ru_cnd, ru_exit, ru_ret, ru_keep, putB, thenQ, blockQ, run_nil, run_cons, Fam.step, stepQ, stepW, needW, putB, nv, sv, evO, opv, qv, binV, ldV, putAt, V.cells, solid, cellOk, upd_some, upd_none, lkp_cons, lkp_nil, ↓reduceIte, Nat.reduceEqDiff, Nat.reduceAdd, Nat.reduceLeDiff, Qb, Qe, Q0, Q2, Qc, Qd, Ql, Qn, Zh, Qg, Qu, Qw, Qh, Qk, Qm, Qf, Qv, endQ, rvs, rv1, resV, vw_i, vw_b, vw_ag, vw_tp, Qi, Qx, Qa, decide_false, true_and, and_self, reduceCtorEq, eSpan, eDome, eTent]
  have e : goodsTo t row (2001 - 2 * t.dome.loss).toNat = goods t row := by
   unfold goodsTo goods
   rw [show (2001 - 2 * t.dome.loss).toNat = (ints (2 * t.dome.loss) 2000).length from by rw [ints_len]; rfl, Zt]
  rw [e]; rfl
theorem Good.ok48 {d : Dome} (h : Good d) {row : Int} (hr : isRow d row = true) : ok48 (tentOf d) row := by
 obtain ⟨k1, k2, k3, k4, k5, k6⟩ := row_of h.v hr
 have hl := h.v.loss
 exact ⟨hl.1, hl.2, k1, k2, fun w h1 h2 => h.ok50 (by unfold tame; omega)⟩
def r48 : List V → Prop × V := fnG eTN dTN (fun a => ok48 a.1 a.2) (fun a => cutOf a.1 a.2) eSB
def GM : Gam := GL.ext 81 r48
theorem okM : GOk Try.prog GM := okL.ext (f := 81) (r := r48) (fun a w => Try.call81 a w) (fnG_ok fun a h => P48 a.1 a.2 h)
theorem gM48 (b : List Bolt) (g : List Int) (l : Int) (r : List Span) (w : List Int) (s : Int) (c : List (List Int)) (n : Int) :
  GM 81 [.pa [.sl 4 (b.map eBolt), .sl 1 (g.map eI), .i l, .sl 2 (r.map eSpan), .sl 1 (w.map eI), .i s, .sl 1 (c.map eCan)], .i n] = (ok48 ⟨⟨b, g, l, r, w, s⟩, c⟩ n, eSB (cutOf ⟨⟨b, g, l, r, w, s⟩, c⟩ n)) :=
 (show GM 81 _ = r48 (eTN (⟨⟨b, g, l, r, w, s⟩, c⟩, n)) from rfl).trans (fnG_at _ (dTN_e _))
theorem gM45 (b : List Bolt) (g : List Int) (l : Int) (r : List Span) (w : List Int) (s : Int) (x : Bool) :
  GM 79 [.ag [.sl 4 (b.map eBolt), .sl 1 (g.map eI), .i l, .sl 2 (r.map eSpan), .sl 1 (w.map eI), .i s], .b x] = (True, pitchV ⟨b, g, l, r, w, s⟩ x) := gL45 b g l r w s x
theorem gM56 (b : List Bolt) (g : List Int) (l : Int) (r : List Span) (w : List Int) (s : Int) (n : Int) :
  GM 103 [.ag [.sl 4 (b.map eBolt), .sl 1 (g.map eI), .i l, .sl 2 (r.map eSpan), .sl 1 (w.map eI), .i s], .i n] = (b.length < 1000, .b (isBoltOf ⟨b, g, l, r, w, s⟩ n)) := gL56 b g l r w s n
def stretchesR (d : Dome) (n : Int) : List Int × Int := if pitchE d (isBoltOf d n) = 0 then (numbersOf (boltAt d n), 0) else ([], pitchE d (isBoltOf d n))
def eLE (a : List Int × Int) : V := .tp [.sl 1 (a.1.map eI), .i a.2]
theorem P36 (d : Dome) (n : Int) (hb : d.bolts.length < 1000) : PureCall Try.prog 82 [.ag (eDome d), .i n] (eLE (stretchesR d n)) := by
 refine pure_body okM hmix Try.func82 cb82 cc82 cs82 cn82 ?_
 simp only [rc82, rs82, gM56, gM45, pitchV, eLE, stretchesR, ru_skip, ru_reg, ru_any, ru_seq, ru_cnd, ite_P, ru_ret, ru_keep, putBs, thenQ, run_nil, run_cons, Fam.step, stepQ, runX, eff, nextD, fpR, fpQ, fpV, disjB, hits, evO, opv, qv, binV, ldV, iadV, curG, callV, V.cells, solid, hasRef, hasRefL, flat, flatL, upd_some, lkp_cons, lkp_nil, ↓reduceIte, Nat.reduceEqDiff, Nat.reduceAdd, Nat.reduceLT, Nat.reduceLeDiff, Qb, Qe, Q2, Qc, Qd, Qg, Qw, Qh, Qk, Qm, Qf, Qo, Zg, Qt, Zl, Qz, Zi, endQ, rvs, rv1, resV, vw_i, vw_b, vw_z, vw_sl, vw_ag, vw_tp, zipA, Qi, Qx, Zf, Zo, Qs, Zp, Zk, Qa, decide_eq_false_iff_not, true_and, and_true, and_self, false_implies, implies_true, reduceCtorEq, Zv, Zj, Zd, Qp, Classical.not_not, domeE, eDome, eTent]
 refine ⟨by omega, fun h => ?_, fun h => ?_⟩
 ·simp [h]
 ·obtain ⟨hg, hr⟩ := pitchE_zero h
  obtain ⟨k1, k2⟩ := within_nat hr
  obtain ⟨b, hbo⟩ : ∃ b, d.bolts[n.toNat]? = some b := ⟨_, Qr (by omega)⟩
  have e1 : (cansOf d)[n.toNat]? = some (numbersOf b) := by simp [cansOf, hbo]
  have e2 : (cansOf d).length = d.bolts.length := by simp [cansOf]
  have e3 : boltAt d n = b := by simp [boltAt, hbo]
  simp only [h, e1, e2, e3, k1, k2, ↓reduceIte, Nat.reduceLeDiff, Qc, Qd, Ql, Qn, Qj, Qt, vw_sl, Qi, and_self, Q6, Qq, Q1, eCan]
end Go.C02
set_option linter.unusedSimpArgs false
set_option linter.unusedVariables false
namespace Go.C02
open Go.Fam Go.Proofs
theorem flat_at {α : Type} {e : α → List V} {k : Nat} (h : ∀ x, (e x).length = k) : ∀ {l : List α} {i : Nat} {x : α}, l[i]? = some x → (((l.map e).flatten).drop (i * k)).take k = e x
 | [], i, x, hx => by simp at hx
 | y :: l, 0, x, hx => by
  simp at hx; subst hx
  rw [Qb, Zb, Nat.zero_mul, Qn, Xq (by rw [h]; exact Zn _), Z4 (by rw [h]; exact Zn _)]
 | y :: l, i + 1, x, hx => by
  simp at hx
  have e1 : (e y).drop ((i + 1) * k) = [] := by rw [X3, h, Xd]; omega
  rw [Qb, Zb, X8, e1, Qk, h, show (i + 1) * k - k = i * k from by rw [Xd]; omega]
  exact flat_at h hx
theorem noref_S (l : List Span) : hasRefL ((l.map eSpan).flatten) = false := hasRefL_flat (e := eSpan) (fun _ => rfl) l
theorem len_S (l : List Span) : ((l.map eSpan).flatten).length = l.length * 2 := flat_len (e := eSpan) (k := 2) (fun _ => rfl) l
theorem mem_goods {t : Tent} {r w : Int} : w ∈ goods t r ↔ (2 * t.dome.loss ≤ w ∧ w ≤ 2000) ∧ fits t r w = true := by
 simp only [goods, Ja, mem_ints]
def lowAt (d : Dome) (r : Int) : Int := (goods (tentOf d) r).headD 0
def highAt (d : Dome) (r : Int) : Int := (goods (tentOf d) r).getLastD 0
theorem headD_mem {l : List Int} (h : l ≠ []) : l.headD 0 ∈ l := by cases l <;> simp at *
theorem getLastD_mem {l : List Int} (h : l ≠ []) : l.getLastD 0 ∈ l := by
 rw [Xw, List.getLast?_eq_some_getLast h]
 exact List.getLast_mem h
theorem lowAt_range (d : Dome) (r : Int) (h : 0 ≤ d.loss) : 0 ≤ lowAt d r ∧ lowAt d r ≤ 2000 := by
 unfold lowAt
 by_cases he : goods (tentOf d) r = []
 ·rw [he]; simp
 ·have := (mem_goods.1 (headD_mem he)).1
  have e : (tentOf d).dome.loss = d.loss := rfl
  rw [e] at this
  omega
theorem highAt_range (d : Dome) (r : Int) (h : 0 ≤ d.loss) : 0 ≤ highAt d r ∧ highAt d r ≤ 2000 := by
 unfold highAt
 by_cases he : goods (tentOf d) r = []
 ·rw [he]; simp
 ·have := (mem_goods.1 (getLastD_mem he)).1
  have e : (tentOf d).dome.loss = d.loss := rfl
  rw [e] at this
  omega
def spanAt (d : Dome) (r : Nat) : Span := ⟨lowAt d r, highAt d r⟩
def cutsTo (d : Dome) (k : Nat) : List Span := (Zm k).map (spanAt d)
theorem cutsTo_get {d : Dome} {n k : Nat} (h : k < n) : (cutsTo d n)[k]? = some (spanAt d k) := by simp [cutsTo, h]
theorem cutsTo_succ (d : Dome) (k : Nat) : cutsTo d (k + 1) = cutsTo d k ++ [spanAt d k] := by simp [cutsTo, Xt]
theorem cutsTo_len (d : Dome) (k : Nat) : (cutsTo d k).length = k := by simp [cutsTo]
def needTo (d : Dome) (row : Nat) (k : Nat) : Int := (Zm k).foldl (fun (m : Int) (j : Nat) => max m (lowAt d j - d.slope * max ((row : Int) - j) ((j : Int) - row))) (lowAt d row)
theorem needTo_succ (d : Dome) (row k : Nat) : needTo d row (k + 1) = max (needTo d row k) (lowAt d k - d.slope * max ((row : Int) - k) ((k : Int) - row)) := by
 simp [needTo, Xt]
theorem slope_mul {s a : Int} (h : 0 ≤ s ∧ s ≤ 500) (ha : 0 ≤ a ∧ a ≤ 1000) : 0 ≤ s * a ∧ s * a ≤ 500000 := by
 refine ⟨Xu h.1 ha.1, ?_⟩
 have := Xv h.2 ha.2 ha.1 (by decide)
 omega
theorem needTo_range {d : Dome} (hv : Valid d) {row : Nat} (hr : row ≤ 12) : ∀ k : Nat, k ≤ 12 → 0 ≤ needTo d row k ∧ needTo d row k ≤ 2000
 | 0, _ => by simpa [needTo] using lowAt_range d row hv.loss.1
 | k + 1, hk => by
  have h1 := needTo_range hv hr k (by omega)
  have h2 := lowAt_range d k hv.loss.1
  have h3 := slope_mul (a := max ((row : Int) - k) ((k : Int) - row)) hv.slope (by omega)
  rw [needTo_succ]
  omega
def outsTo (d : Dome) (n k : Nat) : List Int := (Zm k).map fun r => needTo d r n
theorem outsTo_succ (d : Dome) (n k : Nat) : outsTo d n (k + 1) = outsTo d n k ++ [needTo d k n] := by simp [outsTo, Xt]
theorem outsTo_len (d : Dome) (n k : Nat) : (outsTo d n k).length = k := by simp [outsTo]
def hasCuts (d : Dome) (k : Nat) : Bool := (Zm k).all fun r => !(goods (tentOf d) r).isEmpty
def fitsAll (d : Dome) (n k : Nat) : Bool := (Zm k).all fun r => decide (needTo d r n ≤ highAt d r)
def curveR (d : Dome) : List Int × Int :=
 if pitchE d true = 0 then
  (if hasCuts d d.rounds.length && fitsAll d d.rounds.length d.rounds.length then (outsTo d d.rounds.length d.rounds.length, 0) else ([], 3))
 else ([], pitchE d true)
theorem all_range_false {p : Nat → Bool} {n i : Nat} (hi : i < n) (h : p i = false) : (Zm n).all p = false := by
 rw [List.all_eq_false]
 exact ⟨i, Z0.2 hi, by simp [h]⟩
theorem all_range_succ {p : Nat → Bool} {n : Nat} (h : (Zm n).all p = true) (h2 : p n = true) : (Zm (n + 1)).all p = true := by
 rw [Xt, List.all_append, h]; simp [h2]
theorem P33 (d : Dome) : PureCall Try.prog 47 [.ag (eDome d)] (eLE (curveR d)) := by
 refine pure_body okM hmix Try.func47 cb47 cc47 cs47 cn47 ?_
 simp only [rc47, rs47, gM45, pitchV, eLE, curveR, ru_skip, ru_reg, ru_seq, ru_cnd, ite_P, ru_block, ru_ret, ru_keep, ru_own, thenQ, run_nil, run_cons, Fam.step, stepQ, evO, opv, qv, binV, ldV, lenV, callV, V.cells, solid, hasRef, hasRefL, flat, flatL, upd_some, lkp_cons, lkp_nil, ↓reduceIte, Nat.reduceEqDiff, Nat.reduceAdd, Nat.reduceLT, Nat.reduceLeDiff, Qb, Qe, Qc, Qd, Ql, Qn, Qg, Qw, Qj, Qh, Qk, Qm, Qf, Qo, Zg, Qt, endQ, rvs, rv1, resV, vw_i, vw_b, vw_z, vw_sl, vw_ag, vw_tp, zipA, Qi, Qx, Zf, Qs, Qa, decide_eq_false_iff_not, true_and, and_self, false_implies, Zd, Qq, Classical.not_not, domeE, eDome, eTent]
 refine ⟨fun h => by simp [h], fun h => ?_⟩
 obtain ⟨hg, _⟩ := pitchE_zero h
 have hnr := hg.v.nr
 simp only [h, ↓reduceIte]
 refine ru_countC d.rounds.length (fun i => ⟨lkp [(1, .pa (eDome d)), (4, .pa (eTent (tentOf d))), (6, .rf 0 i 0 i 2), (26, .i d.rounds.length), (27, .i i)], [.cells i ((cutsTo d i).map eSpan).flatten]⟩) (fun i => hasCuts d i = true) ?_ ?_ ?_ ?_
 ·simp only [Q9, tentOf, eTent, cutsTo, Jb, Q3, cutH, kp, cutV, cutL, cutB, lkp_cons, lkp_nil, ↓reduceIte, Nat.reduceEqDiff, Nat.reduceLT, Qb, Qe, Qg, Qw, Qh, Qk, eDome, eTent]
 ·rfl
 ·intro i hi hC
  have hrow : isRow d i = true := by simp only [isRow, within, Zs, decide_eq_true_eq]; omega
  have h48 := hg.ok48 hrow
  have hlt : (i : Int) < d.rounds.length := by omega
  have h3 : inI ((i : Int) + 1) := by unfold inI; omega
  unfold tentOf at h48
  simp only [hlt, h3, eTent, tentOf, gM48, h48, eSB, cutOf, Q5, Za, cutsTo_succ, ru_skip, ru_reg, ru_seq, ru_cnd, ite_P, ru_block, ru_ret, ru_keep, ru_drp, chunk1, ↓cut_lkp, cutH, putB, thenQ, blockQ, run_nil, run_cons, Fam.step, stepQ, stepW, needW, putB, nv, sv, newsV, evO, opv, qv, binV, ldV, callV, foldParts, putAt, partsOk, partsOne, V.cells, solid, cellOk, hasRef, hasRefL, flat, flatL, kp, cutV, cutL, cutB, upd_some, upd_none, lkp_cons, lkp_nil, ↓reduceIte, Nat.reduceEqDiff, Nat.reduceAdd, Nat.reduceMul, Nat.reduceLT, Nat.reduceLeDiff, Qb, Qe, Q0, Q2, Qc, Qd, Ql, Qn, Zh, Qg, Qu, Qw, Qh, Qk, Qm, Qf, Qo, Qt, Qv, Qy, Qz, Q8, endQ, rvs, rv1, resV, vw_i, vw_z, vw_pa, vw_ag, vw_tp, vw_ad, Qi, Qx, Qs, Qa, decide_true, true_and, and_self, implies_true, reduceCtorEq, not_false_eq_true, ne_eq, X7, Zz, domeE, eSpan, eDome, eTent]
  refine ⟨fun he => ?_, fun he => ?_⟩
  ·have e : hasCuts d d.rounds.length = false := all_range_false hi (by simp only [tentOf, he]; rfl)
   simp only [e, ↓reduceIte, Qe, Zo, Qa]
  ·have hsp : cutSp (goods ⟨d, cansOf d⟩ i) = spanAt d i := rfl
   refine ⟨⟨by rw [len_S, cutsTo_len], by unfold fitsLen; omega⟩, all_range_succ hC (by simp only [tentOf, he]; rfl), ?_⟩
   simp only [hsp, cutL_append, cutL_noref _ _ _ (noref_S (cutsTo d i)), Zb, Q3, flat_snoc, cutV, cutL, Qm, eSpan]
 ·intro hC
  simp only [ru_reg, ru_seq, ru_cnd, ru_block, ru_exit, ru_keep, ru_own, thenQ, blockQ, run_nil, run_cons, Fam.step, stepQ, evO, opv, qv, binV, lenV, upd_some, lkp_cons, lkp_nil, ↓reduceIte, Nat.reduceEqDiff, Qb, Qe, Qc, Qd, Qh, Qk, Qf, Zq, Qi, Qa, decide_false, true_and, eDome, eTent]
  refine ru_countC d.rounds.length (fun i => ⟨lkp [(1, .pa (eDome d)), (6, .rf 0 d.rounds.length 0 d.rounds.length 2), (10, .rf 1 i 0 i 1), (43, .rf 0 d.rounds.length 0 d.rounds.length 2), (44, .i d.rounds.length), (45, .i i)],
   [.cells d.rounds.length ((cutsTo d d.rounds.length).map eSpan).flatten, .cells i ((outsTo d d.rounds.length i).map eI).flatten]⟩) (fun i => fitsAll d d.rounds.length i = true) ?_ ?_ ?_ ?_
  ·simp only [Q9, outsTo, Jb, Q3, cutL_noref _ _ _ (noref_S _), cutH, kp, cutV, cutL, cutB, lkp_cons, lkp_nil, ↓reduceIte, Nat.reduceEqDiff, Nat.reduceLT, Qb, Qe, Qg, Qw, eDome]
  ·rfl
  ·intro i hi hC2
   have hlt : (i : Int) < d.rounds.length := by omega
   have h3 : inI ((i : Int) + 1) := by unfold inI; omega
   have hat := flat_at (e := eSpan) (k := 2) (fun _ => rfl) (cutsTo_get (d := d) hi)
   have hli := len_S (cutsTo d d.rounds.length)
   rw [cutsTo_len] at hli
   have h5 : i * 2 + 2 ≤ d.rounds.length * 2 := by omega
   simp only [hlt, hat, hli, h5, ru_skip, ru_reg, ru_seq, ru_cnd, ru_block, ru_keep, cutH, putB, thenQ, run_nil, run_cons, Fam.step, stepQ, stepW, needW, putB, nv, sv, evO, opv, qv, binV, ldV, iadV, lenV, curG, putAt, V.cells, solid, cellOk, kp, upd_some, upd_none, lkp_cons, lkp_nil, ↓reduceIte, Nat.reduceEqDiff, Nat.reduceAdd, Nat.reduceLeDiff, Qb, Qe, Q0, Q2, Qc, Qd, Ql, Qn, Zh, Qu, Qj, Qh, Qk, Qm, Qf, Qo, Qv, Qy, Q7, beq_self_eq_true, Qi, Zr, Qx, Qa, decide_true, true_and, and_self, Zc, eSpan, eDome]
   refine ru_count d.rounds.length (fun k => ⟨lkp [(1, .pa (eDome d)), (6, .rf 0 d.rounds.length 0 d.rounds.length 2), (10, .rf 1 i 0 i 1), (11, .i i), (12, .ad 2 0 0), (13, .i (needTo d i k)), (43, .rf 0 d.rounds.length 0 d.rounds.length 2), (44, .i d.rounds.length), (45, .i i), (52, .rf 0 d.rounds.length 0 d.rounds.length 2), (53, .i d.rounds.length), (54, .i k)],
    [.cells d.rounds.length ((cutsTo d d.rounds.length).map eSpan).flatten, .cells i ((outsTo d d.rounds.length i).map eI).flatten, .cells 0 (eSpan (spanAt d i))]⟩) ?_ ?_ ?_
   ·simp only [Q9, cutL_noref _ _ _ (noref_S _), cutL_noref _ _ _ (noref_I _), cutH, kp, cutV, cutL, cutB, lkp_cons, lkp_nil, ↓reduceIte, Nat.reduceEqDiff, Nat.reduceLT, Qb, Qe, Qg, Qw, eSpan, eDome]
    rfl
   ·intro k hk
    have hat2 := flat_at (e := eSpan) (k := 2) (fun _ => rfl) (cutsTo_get (d := d) hk)
    have hlt2 : (k : Int) < d.rounds.length := by omega
    have h4 : inI ((k : Int) + 1) := by unfold inI; omega
    have l1 := lowAt_range d k hg.v.loss.1
    have l2 := needTo_range hg.v (row := i) (by omega) k (by omega)
    have l3 := slope_mul (a := max ((i : Int) - k) ((k : Int) - i)) hg.v.slope (by omega)
    have i5 : inI ((i : Int) - k) := by unfold inI; omega
    have i6 : inI ((k : Int) - i) := by unfold inI; omega
    have i7 : inI (d.slope * max ((i : Int) - k) ((k : Int) - i)) := by unfold inI; omega
    have i8 : inI (lowAt d k - d.slope * max ((i : Int) - k) ((k : Int) - i)) := by unfold inI; omega
    have h6 : k * 2 + 2 ≤ d.rounds.length * 2 := by omega
    simp only [hlt2, h4, h6, hat2, hli, Q5, Za, needTo_succ, spanAt, i5, i6, i7, i8, cutL_noref _ _ _ (noref_S _), cutL_noref _ _ _ (noref_I _), ru_skip, ru_reg, ru_seq, ru_cnd, ru_block, ru_keep, ru_drp, ↓cut_lkp, cutH, putB, thenQ, blockQ, run_nil, run_cons, Fam.step, stepQ, stepW, needW, putB, nv, sv, evO, opv, qv, binV, ldV, iadV, curG, putAt, V.cells, solid, cellOk, kp, cutV, cutL, cutB, upd_some, upd_none, lkp_cons, lkp_nil, ↓reduceIte, Nat.reduceEqDiff, Nat.reduceAdd, Nat.reduceLT, Nat.reduceLeDiff, Qb, Qe, Q0, Q2, Qc, Qd, Ql, Qn, Zh, Qg, Qu, Qw, Qj, Qh, Qk, Qm, Qf, Qo, Qv, Qy, vw_ad, Q7, beq_self_eq_true, Qi, Zr, Qx, Qa, decide_true, and_self, Zc, eSpan, eDome]
   ·have hsp : spanAt d i = ⟨lowAt d i, highAt d i⟩ := rfl
    have hn := needTo_range hg.v (row := i) (by omega) d.rounds.length (by omega)
    simp only [hsp, cutL_noref _ _ _ (noref_S _), ru_skip, ru_reg, ru_seq, ru_cnd, ite_P, ru_exit, ru_ret, ru_keep, ru_drp, chunk1, ↓cut_lkp, cutH, putB, thenQ, blockQ, run_nil, run_cons, Fam.step, stepQ, stepW, needW, putB, nv, sv, newsV, evO, opv, qv, binV, ldV, curG, foldParts, putAt, partsOk, partsOne, V.cells, solid, cellOk, hasRef, hasRefL, cutV, cutB, upd_some, lkp_cons, lkp_nil, ↓reduceIte, Nat.reduceEqDiff, Nat.reduceAdd, Nat.reduceMul, Nat.reduceLT, Nat.reduceLeDiff, Qb, Qe, Q0, Q2, Qc, Qd, Ql, Qn, Qg, Qu, Qw, Qj, Qh, Qk, Qf, Qo, Qv, Qy, Qz, Q8, endQ, rvs, rv1, resV, vw_i, vw_z, vw_tp, Zq, beq_self_eq_true, Qi, Qx, Qs, Qa, decide_false, decide_eq_true_eq, true_and, and_self, reduceCtorEq, not_false_eq_true, ne_eq, eSpan, eDome]
    refine ⟨fun hgt => ?_, fun hle => ?_⟩
    ·have e : fitsAll d d.rounds.length d.rounds.length = false := all_range_false hi (by simp; omega)
     simp only [e, ↓reduceIte, Qe, Xb, Qa]
    ·have e : decide (needTo d i d.rounds.length ≤ highAt d i) = true := by simp; omega
     refine ⟨⟨by rw [len_I, outsTo_len], by unfold fitsLen; omega⟩, h3, all_range_succ hC2 e, ?_⟩
     simp only [outsTo_succ, cutL_append, cutL_noref _ _ _ (noref_I _), Zb, Q3, flat_snoc, Q5, Za, cutV, cutL, Qm, eI]
  ·intro hC2
   have hch := chunk_I (outsTo d d.rounds.length d.rounds.length)
   rw [outsTo_len] at hch
   simp only [hC, hC2, hch, outsTo_len, len_I, vw_I, Zw, Zn, ru_reg, ru_seq, ru_cnd, ru_exit, ru_ret, ru_keep, thenQ, blockQ, run_nil, run_cons, Fam.step, stepQ, evO, opv, qv, binV, ldV, upd_some, lkp_cons, lkp_nil, ↓reduceIte, Nat.reduceEqDiff, Qb, Qe, Qf, Qo, endQ, rvs, rv1, resV, vw_i, vw_tp, vw_rf, Zq, Qi, Qx, Qa, decide_false, and_self, eDome]
def r33 : List V → Prop × V := fnG (fun d => [.ag (eDome d)]) dD (fun _ => True) curveR eLE
def GN : Gam := GM.ext 47 r33
theorem okN : GOk Try.prog GN := okM.ext (f := 47) (r := r33) (fun a w => Try.call47 a w) (fnG_ok fun a _ => P33 a)
end Go.C02
set_option linter.unusedSimpArgs false
set_option linter.unusedVariables false
namespace Go.C02
open Go.Fam Go.Proofs
theorem gN69 (l s : Int) : GN 117 [.i l, .i s] = (tame 1000000 l ∧ tame 1000000 s, .i (pull l s)) := rfl
def canAt (t : Tent) (b : Int) : List Int := (t.can[b.toNat]?).getD []
structure Ok68 (t : Tent) (w : Int) : Prop where
 w : 0 ≤ w - 2 * t.dome.loss ∧ w - 2 * t.dome.loss ≤ 2000
 loss : 0 ≤ t.dome.loss ∧ t.dome.loss ≤ 20
 ng : t.dome.gores.length ≤ 16
 gores : ∀ g ∈ t.dome.gores, 0 ≤ g ∧ g < t.can.length
 nc : t.can.length ≤ 4
 can : ∀ l ∈ t.can, l.length ≤ 61 ∧ ∀ s ∈ l, 0 ≤ s ∧ s ≤ 60
theorem pull_range {l s : Int} (hl : 0 ≤ l ∧ l ≤ 2000) (hs : 0 ≤ s ∧ s ≤ 60) : 0 ≤ pull l s ∧ pull l s ≤ 2120 := by
 have h1 : 0 ≤ l * (1000 + s) := Xu hl.1 (by omega)
 have h2 : l * (1000 + s) ≤ 2000 * 1060 := Xv hl.2 (by omega) (by omega) (by decide)
 unfold pull
 rw [Int.tdiv_eq_ediv_of_nonneg h1]
 omega
def part (t : Tent) (w b s : Int) : Int := (t.dome.gores.count b : Int) * pull (w - 2 * t.dome.loss) s
def gk (t : Tent) (j : Nat) : Int := ((cmKs t.dome.gores)[j]?.getD []).headD 0
def psum (t : Tent) (w : Int) (c : Int → Int) (pre : List Nat) : Int := (pre.map fun j => part t w (gk t j) (c (gk t j))).sum
structure Inv68 (t : Tent) (w : Int) (pre : List Nat) (xs : List Int) : Prop where
 len : xs.length ≤ 61 ^ pre.length
 rng : ∀ x ∈ xs, 0 ≤ x ∧ x ≤ 33920 * (pre.length : Int)
 mem : ∀ x, x ∈ xs ↔ ∃ c : Int → Int, (∀ j ∈ pre, c (gk t j) ∈ canAt t (gk t j)) ∧ x = psum t w c pre
def ys68 (t : Tent) (w b : Int) (xs : List Int) (pre2 : List Nat) : List Int :=
 pre2.flatMap fun j => (canAt t b).map fun s => ((cmKs xs)[j]?.getD []).headD 0 + part t w b s
def R68 (t : Tent) (w : Int) (r : V) (hp : List Blk) : Prop := ∃ xs : List Int, r = .mp 0 0 ∧ hp = [cm xs] ∧ Inv68 t w (Zm (cmKs t.dome.gores).length) xs
theorem inv68_nil (t : Tent) (w : Int) : Inv68 t w [] [0] :=
 ⟨by simp, by simp, fun x => by simp [psum]⟩
theorem psum_congr {t : Tent} {w : Int} {c c' : Int → Int} : ∀ {pre : List Nat}, (∀ j ∈ pre, c (gk t j) = c' (gk t j)) → psum t w c pre = psum t w c' pre
 | [], _ => rfl
 | j :: pre, h => by
  have h1 := psum_congr (t := t) (w := w) (pre := pre) fun i hi => h i (by simp [hi])
  have h2 := h j (by simp)
  simp only [psum, Qb, Xp] at h1 ⊢
  rw [h1, h2]
theorem psum_snoc (t : Tent) (w : Int) (c : Int → Int) (pre : List Nat) (j : Nat) : psum t w c (pre ++ [j]) = psum t w c pre + part t w (gk t j) (c (gk t j)) := by simp [psum]
theorem gk_inj {t : Tent} {i j : Nat} (hi : i < (cmKs t.dome.gores).length) (hj : j < (cmKs t.dome.gores).length) (h : gk t i = gk t j) : i = j := by
 obtain ⟨x, _, hx, _⟩ := cmKs_get hi
 obtain ⟨y, _, hy, _⟩ := cmKs_get hj
 simp only [gk, hx, hy, Qt, Qj] at h
 subst h
 have h1 := (cmKs_nodup t.dome.gores).idxOf_getElem i hi
 have h2 := (cmKs_nodup t.dome.gores).idxOf_getElem j hj
 rw [Qr hi] at hx
 rw [Qr hj] at hy
 rw [Xx.inj hx] at h1
 rw [Xx.inj hy] at h2
 rw [← h1, h2]
theorem perm_sum {l l' : List Int} (h : l.Perm l') : l.sum = l'.sum := by
 induction h with
 | nil => rfl
 | cons x _ ih => rw [Xp, Xp, ih]
 | swap x y l => simp only [Xp]; omega
 | trans _ _ h1 h2 => rw [h1, h2]
theorem nodup_map_on {α β : Type} {f : α → β} {l : List α} (h : ∀ a ∈ l, ∀ b ∈ l, f a = f b → a = b) (hn : l.Nodup) : (l.map f).Nodup := by
 unfold List.Nodup at *
 rw [List.pairwise_map]
 exact hn.imp_of_mem fun ha hb hab e => hab (h _ ha _ hb e)
theorem part_range {t : Tent} {w : Int} (h : Ok68 t w) {b s : Int} (hs : 0 ≤ s ∧ s ≤ 60) : 0 ≤ part t w b s ∧ part t w b s ≤ 33920 := by
 have h1 := pull_range h.w hs
 have h2 : t.dome.gores.count b ≤ 16 := Z5 Xr h.ng
 unfold part
 refine ⟨Xu (by omega) h1.1, ?_⟩
 have := Xv (show (t.dome.gores.count b : Int) ≤ 16 by omega) h1.2 h1.1 (by decide)
 omega
theorem canAt_range {t : Tent} {w : Int} (h : Ok68 t w) {b s : Int} (hs : s ∈ canAt t b) : 0 ≤ s ∧ s ≤ 60 := by
 unfold canAt at hs
 cases hc : t.can[b.toNat]? with
 | none => rw [hc] at hs; simp at hs
 | some l => rw [hc] at hs; exact (h.can l (Q4 hc)).2 s hs
theorem canAt_len {t : Tent} {w : Int} (h : Ok68 t w) (b : Int) : (canAt t b).length ≤ 61 := by
 unfold canAt
 cases hc : t.can[b.toNat]? with
 | none => simp
 | some l => exact (h.can l (Q4 hc)).1
theorem ys68_len {t : Tent} {w : Int} (h : Ok68 t w) (b : Int) (xs : List Int) : ∀ pre2 : List Nat, (ys68 t w b xs pre2).length ≤ pre2.length * 61
 | [] => by simp [ys68]
 | j :: l => by
  have h1 := ys68_len h b xs l
  have h2 := canAt_len h b
  simp only [ys68, Xl, Ze, Qq, Qc] at *
  omega
theorem ys68_snoc (t : Tent) (w b : Int) (xs : List Int) (pre2 : List Nat) (j : Nat) : ys68 t w b xs (pre2 ++ [j]) = ys68 t w b xs pre2 ++ (canAt t b).map fun s => ((cmKs xs)[j]?.getD []).headD 0 + part t w b s := by simp [ys68]
theorem mem_ys68 {t : Tent} {w b : Int} {xs : List Int} {pre2 : List Nat} (hp : pre2.Perm (Zm (cmKs xs).length)) (y : Int) : y ∈ ys68 t w b xs pre2 ↔ ∃ x ∈ xs, ∃ s ∈ canAt t b, y = x + part t w b s := by
 simp only [ys68, List.mem_flatMap, Xe]
 constructor
 ·rintro ⟨j, hj, s, hs, rfl⟩
  have hj := Z0.1 (hp.mem_iff.1 hj)
  obtain ⟨x, hx, e, _⟩ := cmKs_get hj
  exact ⟨x, hx, s, hs, by simp [e]⟩
 ·rintro ⟨x, hx, s, hs, rfl⟩
  have hm := (mem_cmKs xs [x]).2 ⟨x, hx, rfl⟩
  refine ⟨(cmKs xs).idxOf [x], hp.mem_iff.2 (Z0.2 (Xi.2 hm)), s, hs, ?_⟩
  rw [idxOf_get hm]; rfl
theorem inv68_snoc {t : Tent} {w : Int} (h : Ok68 t w) {pre : List Nat} {xs : List Int} {j : Nat} (hC : Inv68 t w pre xs) (hlt : ∀ i ∈ pre, i < (cmKs t.dome.gores).length) (hj : j < (cmKs t.dome.gores).length) (hjp : j ∉ pre)
  {pre2 : List Nat} (hp : pre2.Perm (Zm (cmKs xs).length)) : Inv68 t w (pre ++ [j]) (ys68 t w (gk t j) xs pre2) := by
 refine ⟨?_, fun y hy => ?_, fun y => ?_⟩
 ·have h1 := ys68_len h (gk t j) xs pre2
  have h2 : pre2.length ≤ xs.length := by rw [hp.length_eq, List.length_range]; exact cmKs_len xs
  have h3 := hC.len
  rw [Ze, X1, Nat.pow_succ]
  calc _ ≤ pre2.length * 61 := h1
   _ ≤ 61 ^ pre.length * 61 := Nat.mul_le_mul (Z5 h2 h3) (Zn _)
 ·obtain ⟨x, hx, s, hs, rfl⟩ := (mem_ys68 hp y).1 hy
  have h1 := hC.rng x hx
  have h2 := part_range h (b := gk t j) (canAt_range h hs)
  simp only [Ze, X1]
  omega
 ·rw [mem_ys68 hp]
  have hne : ∀ i ∈ pre, gk t i ≠ gk t j := fun i hi e => hjp (gk_inj (hlt i hi) hj e ▸ hi)
  constructor
  ·rintro ⟨x, hx, s, hs, rfl⟩
   obtain ⟨c, hc, rfl⟩ := (hC.mem x).1 hx
   refine ⟨fun b => if b = gk t j then s else c b, fun i hi => ?_, ?_⟩
   ·rcases X0.1 hi with hi | hi
    ·simp only [if_neg (hne i hi)]; exact hc i hi
    ·simp at hi; subst hi; simpa using hs
   ·rw [psum_snoc, if_pos rfl]
    congr 1
    exact psum_congr fun i hi => by simp only [if_neg (hne i hi)]
  ·rintro ⟨c, hc, rfl⟩
   exact ⟨psum t w c pre, (hC.mem _).2 ⟨c, fun i hi => hc i (by simp [hi]), rfl⟩, c (gk t j), hc j (by simp), psum_snoc t w c pre j⟩
theorem inv68_perm {t : Tent} {w : Int} {pre pre' : List Nat} {xs : List Int} (hC : Inv68 t w pre xs) (hp : pre.Perm pre') : Inv68 t w pre' xs := by
 refine ⟨hp.length_eq ▸ hC.len, hp.length_eq ▸ hC.rng, fun x => (hC.mem x).trans ?_⟩
 have e : ∀ c, psum t w c pre = psum t w c pre' := fun c => perm_sum (hp.map _)
 simp only [e, hp.mem_iff]
theorem few_bolts {t : Tent} {w : Int} (h : Ok68 t w) : (cmKs t.dome.gores).length ≤ 4 := by
 have := nodup_len (n := 4) (pre := (cmKs t.dome.gores).map fun k => (k.headD 0).toNat) ?_ ?_
 ·simpa using this
 ·apply nodup_map_on ?_ (cmKs_nodup _)
  intro a ha b hb e
  obtain ⟨x, hx, rfl⟩ := (mem_cmKs _ _).1 ha
  obtain ⟨y, hy, rfl⟩ := (mem_cmKs _ _).1 hb
  have := h.gores x hx
  have := h.gores y hy
  simp at e
  rw [show x = y by omega]
 ·intro i hi
  obtain ⟨k, hk, rfl⟩ := Xe.1 hi
  obtain ⟨x, hx, rfl⟩ := (mem_cmKs _ _).1 hk
  have := h.gores x hx
  have := h.nc
  simp; omega
theorem P68 (t : Tent) (w : Int) (h : Ok68 t w) : RelCall Try.prog 101 [.pa (eTent t), .i w] (R68 t w) := by
 refine relo_body okN hmix Try.func101 cb101 cc101 cs101 cn101 ?_
 simp only [rc101, rs101, ru_reg, ru_seq, ru_block, ru_keep, thenQ, run_nil, run_cons, Fam.step, stepQ, stepW, needW, nv, evO, opv, qv, ldV, lenV, upd_some, lkp_cons, lkp_nil, ↓reduceIte, Nat.reduceEqDiff, Nat.reduceAdd, Nat.reduceLeDiff, Qb, Qe, Qc, Qd, Ql, Qn, Qj, Qh, Qk, rv1, resV, zipA, Qi, Qa, true_and, and_self, reduceCtorEq, Qq, eDome, eTent]
 refine ru_count t.dome.gores.length (fun i => ⟨lkp [(0, .pa (eTent t)), (1, .i w), (5, .mp 0 0), (20, .sl 1 (t.dome.gores.map eI)), (21, .i t.dome.gores.length), (22, .i i)], [cm (t.dome.gores.take i)]⟩) ?_ ?_ ?_
 ·simp only [Q9, eTent, cm_nil, kp, lkp_cons, lkp_nil, ↓reduceIte, Nat.reduceEqDiff, Qb, Qe, Qu, Qh, Qk, reduceCtorEq, eDome, eTent]
 ·intro i hi
  obtain ⟨g, hg⟩ : ∃ g, t.dome.gores[i]? = some g := ⟨_, Qr hi⟩
  have hng := h.ng
  have hlt : (i : Int) < t.dome.gores.length := by omega
  have h3 : inI ((i : Int) + 1) := by unfold inI; omega
  have hc : (t.dome.gores.take i).count g ≤ i := Z5 Xr (Zy _ _)
  have h4 : inI (((t.dome.gores.take i).count g : Int) + 1) := by unfold inI; omega
  simp only [hlt, hg, h3, cm, cm_get, h4, cm_put, ← cmKs_snoc, Q5, Za, take_succ_of hg, ru_skip, ru_reg, ru_seq, ru_cnd, ru_block, ru_keep, putB, lkpV, keyL, keyFits, thenQ, blockQ, run_nil, run_cons, Fam.step, stepQ, stepW, needW, putB, nv, sv, evO, opv, qv, binV, ldV, iadV, kp, upd_some, upd_none, lkp_cons, lkp_nil, ↓reduceIte, Nat.reduceEqDiff, Nat.reduceLeDiff, Qb, Qe, Qc, Qd, Qj, Qh, Qk, Qf, Qt, Qv, Q7, Qi, Qa, decide_true, and_self, false_implies, reduceCtorEq, Q6, Qq, Zc, Qp, Q1, eDome, eI, eTent]
 ·simp only [Zt, cm, ru_reg, ru_seq, ru_cnd, ru_block, ru_exit, ru_keep, putB, keyL, keyFits, thenQ, blockQ, run_nil, run_cons, Fam.step, stepQ, stepW, needW, putB, nv, sv, evO, opv, qv, binV, upd_some, upd_none, lkp_cons, lkp_nil, ↓reduceIte, Nat.reduceEqDiff, Nat.reduceAdd, Qb, Qe, Qc, Qd, Qh, Qk, Qf, Qo, Qv, Qy, Zq, Qi, Qa, decide_false, true_and, and_self, false_implies, reduceCtorEq, eDome, eTent]
  refine ru_rangeE (cmKs t.dome.gores).length (fun pre xs => ⟨lkp [(0, .pa (eTent t)), (1, .i w), (8, .mp 1 0), (34, .it 2 0)], [cm t.dome.gores, cm xs, .iter 0 (cmKs t.dome.gores).length (leftN (cmKs t.dome.gores).length pre) pre.getLast?]⟩) (Inv68 t w) [0] ?_ ?_ ?_
  ·simp only [eTent, cm, leftN_nil, Xy, cutL_noref _ _ _ (noref_cm _), cutH, kp, cutV, cutB, lkp_cons, lkp_nil, ↓reduceIte, Nat.reduceEqDiff, Nat.reduceLT, Qb, Qe, Qg, Qw, Qh, Qk, reduceCtorEq, eDome, eTent]
   rfl
  ·exact inv68_nil t w
  ·intro pre xs hnd hlt hC
   simp only [eTent, cm, ru_skip, ru_reg, ru_seq, ru_cnd, ru_block, ru_exit, ru_ret, ru_keep, ru_drp, ru_swp, ru_nxt, ↓cut_lkp, ↓ren_lkp, swH, sw, renV, renB, cutH, entV, keyV, endK, thenQ, blockQ, run_nil, run_cons, Fam.step, stepQ, stepW, needW, nv, evO, opv, qv, kp, cutV, cutB, upd_some, lkp_cons, lkp_nil, ↓reduceIte, Nat.reduceEqDiff, Nat.reduceAdd, Nat.reduceLT, Qb, Qe, Qc, Qd, Qg, Qu, Qh, Qk, Qf, Qo, Qt, Qv, Qy, rvs, rv1, Qi, Qa, true_and, and_self, reduceCtorEq, Qp, eDome, eTent]
   refine ⟨fun hnil => ?_, fun j hj => ?_⟩
   ·refine ⟨xs, rfl, ?_, inv68_perm hC (perm_leftN hnd hlt hnil)⟩
    simp only [renL_noref _ _ (noref_cm _), cutL_noref _ _ _ (noref_cm _), cm]
   obtain ⟨hjn, hjp⟩ := mem_leftN.1 hj
   obtain ⟨b, hb, hk1, hk2⟩ := cmKs_get hjn
   obtain ⟨hb0, hbl⟩ := h.gores b hb
   have hgk : gk t j = b := by simp [gk, hk1]
   simp only [hk1, hk2, leftN_erase hj, Qj, Qt]
   refine ru_range (cmKs xs).length (fun pre2 => ⟨lkp [(0, .pa (eTent t)), (1, .i w), (9, .i b), (10, .i (t.dome.gores.count b)), (11, .mp 3 0), (34, .it 2 0), (42, .it 4 0)],
    [cm t.dome.gores, cm xs, .iter 0 (cmKs t.dome.gores).length (leftN (cmKs t.dome.gores).length (pre ++ [j])) (some j), cm (ys68 t w b xs pre2), .iter 1 (cmKs xs).length (leftN (cmKs xs).length pre2) pre2.getLast?]⟩) (fun _ => True) ?_ trivial ?_
   ·simp only [eTent, cm, leftN_nil, Xy, kp, lkp_cons, lkp_nil, ↓reduceIte, Nat.reduceEqDiff, Qb, Qe, Qh, Qk, reduceCtorEq, eDome, eTent]
    rfl
   ·intro pre2 hnd2 hlt2 _
    simp only [eTent, cm, ru_skip, ru_reg, ru_seq, ru_cnd, ru_block, ru_exit, ru_keep, ru_swp, ru_nxt, ↓ren_lkp, swH, sw, renV, renB, entV, keyV, thenQ, blockQ, run_nil, run_cons, Fam.step, stepQ, evO, opv, qv, ldV, iadV, lenV, kp, cutV, cutB, upd_some, lkp_cons, lkp_nil, ↓reduceIte, Nat.reduceEqDiff, Nat.reduceAdd, Nat.reduceLT, Nat.reduceLeDiff, Qb, Qe, Qc, Qd, Ql, Qn, Qg, Qu, Qj, Qh, Qk, Qf, Qo, Qt, Qv, Qy, Qi, Qa, true_and, and_self, reduceCtorEq, Qq, Qp, Q1, eDome, eTent]
    refine ⟨fun hnil2 => ?_, fun j2 hj2 => ?_⟩
    ·refine ⟨j, ys68 t w b xs pre2, hj, hgk ▸ inv68_snoc h hC hlt hjn hjp (perm_leftN hnd2 hlt2 hnil2), ?_⟩
     simp only [renL_noref _ _ (noref_cm _), cutL_noref _ _ _ (noref_cm _), Xs]
    ·obtain ⟨hjn2, hjp2⟩ := mem_leftN.1 hj2
     obtain ⟨x, hx, hk3, hk4⟩ := cmKs_get hjn2
     have hcan : t.can[b.toNat]? = some (canAt t b) := by rw [canAt, Qr (by omega)]; rfl
     have hx2 := hC.rng x hx
     have hpl : pre.length < 4 := by
      have := few_bolts h
      have := nodup_len (pre := pre ++ [j]) (n := (cmKs t.dome.gores).length) (by
       rw [List.nodup_append]
       exact ⟨hnd, by simp, fun a ha b hb => by simp at hb; subst hb; rintro rfl; exact hjp ha⟩) (by
       intro i hi
       rcases X0.1 hi with hi | hi
       ·exact hlt i hi
       ·simp at hi; omega)
      simp at this; omega
     have hys := ys68_len h b xs pre2
     have hp2 : pre2.length ≤ 226981 := by
      have := nodup_len hnd2 hlt2
      have := cmKs_len xs
      have := hC.len
      have : 61 ^ pre.length ≤ 61 ^ 3 := Xc (by decide) (by omega)
      omega
     have hcl := canAt_len h b
     simp only [hk3, leftN_erase hj2, hb0, hbl, hcan, Nat.reduceLeDiff, Qc, Qd, Qj, Qt, Qi, true_and, and_self, Q6, Qq, eCan]
     refine ru_count (canAt t b).length (fun k => ⟨lkp [(0, .pa (eTent t)), (1, .i w), (9, .i b), (10, .i (t.dome.gores.count b)), (11, .mp 3 0), (12, .i x), (34, .it 2 0), (42, .it 4 0), (53, .sl 1 ((canAt t b).map eI)), (54, .i (canAt t b).length), (55, .i k)],
      [cm t.dome.gores, cm xs, .iter 0 (cmKs t.dome.gores).length (leftN (cmKs t.dome.gores).length (pre ++ [j])) (some j), cm (ys68 t w b xs pre2 ++ ((canAt t b).take k).map fun s => x + part t w b s), .iter 1 (cmKs xs).length (leftN (cmKs xs).length (pre2 ++ [j2])) (some j2)]⟩) ?_ ?_ ?_
     ·simp only [Q9, eTent, cm, kp, lkp_cons, lkp_nil, ↓reduceIte, Nat.reduceEqDiff, Qb, Qe, Qu, Qh, Qk, Qm, reduceCtorEq, eDome, eTent]
     ·intro k hk
      obtain ⟨s, hs⟩ : ∃ s, (canAt t b)[k]? = some s := ⟨_, Qr hk⟩
      have hsm := Q4 hs
      have hsr := canAt_range h hsm
      have hlt3 : (k : Int) < (canAt t b).length := by omega
      have i1 : inI ((k : Int) + 1) := by unfold inI; omega
      have hl := h.loss
      have i2 : inI (2 * t.dome.loss) := by unfold inI; omega
      have i3 : inI (w - 2 * t.dome.loss) := by have := h.w; unfold inI; omega
      have i4 : tame 1000000 (w - 2 * t.dome.loss) ∧ tame 1000000 s := by have := h.w; unfold tame; omega
      have i5 : inI ((t.dome.gores.count b : Int) * pull (w - 2 * t.dome.loss) s) := by have := part_range h (b := b) hsr; unfold part at this; unfold inI; omega
      have i6 : inI (x + (t.dome.gores.count b : Int) * pull (w - 2 * t.dome.loss) s) := by have := part_range h (b := b) hsr; unfold part at this; unfold inI; omega
      have i7 : ∀ y, inI (((ys68 t w b xs pre2 ++ ((canAt t b).take k).map fun s => x + part t w b s).count y : Int) + 1) := by
       intro y
       have h1 := Xr (a := y) (l := ys68 t w b xs pre2 ++ ((canAt t b).take k).map fun s => x + part t w b s)
       have h2 := Zy k (canAt t b)
       rw [Ze, Qq] at h1
       unfold inI; omega
      simp only [hlt3, hs, i1, i2, i3, i4, i5, i6, i7, eTent, cm, gN69, cm_get, cm_put, ← cmKs_snoc, take_succ_of hs, Q5, Za, ru_skip, ru_reg, ru_seq, ru_cnd, ru_block, ru_keep, putB, lkpV, keyL, keyFits, thenQ, blockQ, run_nil, run_cons, Fam.step, stepQ, stepW, needW, putB, nv, sv, evO, opv, qv, binV, ldV, iadV, callV, hasRef, hasRefL, flat, kp, upd_some, upd_none, lkp_cons, lkp_nil, ↓reduceIte, Nat.reduceEqDiff, Nat.reduceAdd, Nat.reduceLT, Nat.reduceLeDiff, Qb, Qe, Qc, Qd, Ql, Qn, Qj, Qh, Qk, Qm, Qf, Qo, Qt, Qv, Qy, vw_i, Q7, Qi, Qs, Qa, decide_true, true_and, and_self, false_implies, implies_true, reduceCtorEq, Q6, Qq, Zc, Qp, Q1, eDome, eI, eTent]
      simp only [Xj, part, X6, Qb, Qe]
     ·simp only [eTent, cm, Zt, ru_reg, ru_seq, ru_cnd, ru_exit, ru_keep, thenQ, blockQ, run_nil, run_cons, Fam.step, stepQ, evO, opv, qv, binV, upd_some, lkp_cons, lkp_nil, ↓reduceIte, Nat.reduceEqDiff, Qb, Qe, Qh, Qk, Zq, Qa, decide_false, true_and, reduceCtorEq, eDome, eTent]
      refine ⟨j2, hj2, ?_⟩
      simp only [ys68_snoc, hk3, Xs, Qj, Qt]
end Go.C02
set_option linter.unusedSimpArgs false
set_option linter.unusedVariables false
namespace Go.C02
open Go.Fam Go.Proofs
theorem range_map_get (ks : List (List Int)) (f : List Int → Int) : ((Zm ks.length).map fun j => f (ks[j]?.getD [])).sum = (ks.map f).sum := by
 congr 1
 apply List.ext_getElem?
 intro i
 rw [Q1, Q1]
 by_cases h : i < ks.length
 ·rw [List.getElem?_range h, Qr h]; simp [h]
 ·rw [X2 (by simp; omega), X2 (by omega)]; rfl
theorem psum_all (t : Tent) (w : Int) (c : Int → Int) : psum t w c (Zm (cmKs t.dome.gores).length) = sumBy t.dome.gores fun g => pull (w - 2 * t.dome.loss) (c g) := by
 unfold psum sumBy
 rw [← cm_sum (fun g => pull (w - 2 * t.dome.loss) (c g)) t.dome.gores]
 exact range_map_get (cmKs t.dome.gores) fun k => part t w (k.headD 0) (c (k.headD 0))
def inSums (t : Tent) (w x : Int) : Prop := ∃ c : Int → Int, (∀ g ∈ t.dome.gores, c g ∈ canAt t g) ∧ x = sumBy t.dome.gores fun g => pull (w - 2 * t.dome.loss) (c g)
theorem inv68_mem {t : Tent} {w : Int} {xs : List Int} (h : Inv68 t w (Zm (cmKs t.dome.gores).length) xs) (x : Int) : x ∈ xs ↔ inSums t w x := by
 rw [h.mem]
 have : ∀ c : Int → Int, (∀ j ∈ Zm (cmKs t.dome.gores).length, c (gk t j) ∈ canAt t (gk t j)) ↔ ∀ g ∈ t.dome.gores, c g ∈ canAt t g := by
  intro c
  constructor
  ·intro hj g hg
   have hm := (mem_cmKs t.dome.gores [g]).2 ⟨g, hg, rfl⟩
   have := hj ((cmKs t.dome.gores).idxOf [g]) (Z0.2 (Xi.2 hm))
   have e : gk t ((cmKs t.dome.gores).idxOf [g]) = g := by unfold gk; rw [idxOf_get hm]; rfl
   rwa [e] at this
  ·intro hg j hj
   obtain ⟨x, hx, e, _⟩ := cmKs_get (Z0.1 hj)
   have e : gk t j = x := by unfold gk; rw [e]; rfl
   rw [e]; exact hg x hx
 simp only [this, psum_all]; rfl
def p68 (vs : List V) : Prop := eTN (dTN vs) = vs ∧ Ok68 (dTN vs).1 (dTN vs).2
def q68 : List V → Prop
 | .tp (r :: bs) :: vs => ∃ xs : List Int, r = .mp 0 0 ∧ bs = [bV (cm xs)] ∧ ∀ x, x ∈ xs ↔ inSums (dTN vs).1 (dTN vs).2 x
 | _ => False
def GO : Gam := (GN.ext 3000101 fun vs => (p68 vs, .u)).ext 4000101 fun vs => (q68 vs, .u)
theorem okO : GOk Try.prog GO := by
 refine okN.extR (f := 101) (p := p68) (q := q68) (fun a w => Try.call101 a w) fun vs h => ?_
 have := P68 _ _ h.2
 have e : eTN (dTN vs) = vs := h.1
 unfold eTN at e
 rw [e] at this
 refine this.mono fun r hp hr => ?_
 obtain ⟨xs, rfl, rfl, hi⟩ := hr
 exact ⟨[bV (cm xs)], by simp [cm, vB_map], xs, rfl, rfl, inv68_mem hi⟩
theorem gO68 (b : List Bolt) (g : List Int) (l : Int) (r : List Span) (w : List Int) (s : Int) (c : List (List Int)) (n : Int) :
  GO 3000101 [.pa [.sl 4 (b.map eBolt), .sl 1 (g.map eI), .i l, .sl 2 (r.map eSpan), .sl 1 (w.map eI), .i s, .sl 1 (c.map eCan)], .i n] = (Ok68 ⟨⟨b, g, l, r, w, s⟩, c⟩ n, .u) := by
 have e := dTN_e (⟨⟨b, g, l, r, w, s⟩, c⟩, n)
 refine (show GO 3000101 _ = (p68 (eTN (⟨⟨b, g, l, r, w, s⟩, c⟩, n)), V.u) from rfl).trans ?_
 unfold p68
 rw [e]; simp
theorem gO68' (b : List Bolt) (g : List Int) (l : Int) (r : List Span) (w : List Int) (s : Int) (c : List (List Int)) (n : Int) (x : V) (bs : List V) :
  GO 4000101 [.tp (x :: bs), .pa [.sl 4 (b.map eBolt), .sl 1 (g.map eI), .i l, .sl 2 (r.map eSpan), .sl 1 (w.map eI), .i s, .sl 1 (c.map eCan)], .i n] = (∃ xs : List Int, x = .mp 0 0 ∧ bs = [bV (cm xs)] ∧ ∀ y, y ∈ xs ↔ inSums ⟨⟨b, g, l, r, w, s⟩, c⟩ n y, .u) := by
 have e := dTN_e (⟨⟨b, g, l, r, w, s⟩, c⟩, n)
 refine (show GO 4000101 _ = (∃ xs : List Int, x = .mp 0 0 ∧ bs = [bV (cm xs)] ∧ ∀ y, y ∈ xs ↔ inSums (dTN (eTN (⟨⟨b, g, l, r, w, s⟩, c⟩, n))).1 (dTN (eTN (⟨⟨b, g, l, r, w, s⟩, c⟩, n))).2 y, V.u) from rfl).trans ?_
 rw [e]
theorem gO67 (n lo hi : Int) : GO 102 [.i n, .i lo, .i hi] = (True, .b (within n lo hi)) := rfl
theorem gO50 (b : List Bolt) (g : List Int) (l : Int) (r : List Span) (w : List Int) (s : Int) (c : List (List Int)) (n : Int) :
  GO 98 [.pa [.sl 4 (b.map eBolt), .sl 1 (g.map eI), .i l, .sl 2 (r.map eSpan), .sl 1 (w.map eI), .i s, .sl 1 (c.map eCan)], .i n] = (ok50 ⟨⟨b, g, l, r, w, s⟩, c⟩ n, .ag (eSpan (roundOf ⟨⟨b, g, l, r, w, s⟩, c⟩ n))) := gL50 b g l r w s c n
open Classical in
noncomputable def tightOf (t : Tent) (row w : Int) : Int :=
 if (wantAt t.dome row).low ≤ (roundOf t w).low ∧ (roundOf t w).high ≤ (wantAt t.dome row).high then 1
 else if ∃ x, inSums t w x ∧ within x (wantAt t.dome row).low (wantAt t.dome row).high = true then 3 else 2
structure Ok47 (t : Tent) (row w : Int) : Prop where
 row : 0 ≤ row ∧ row < t.dome.rounds.length
 k50 : ok50 t w
 k68 : Ok68 t w
theorem P47 (t : Tent) (row w : Int) (h : Ok47 t row w) : PureCall Try.prog 80 [.pa (eTent t), .i row, .i w] (.i (tightOf t row w)) := by
 refine pure_body okO hmix Try.func80 cb80 cc80 cs80 cn80 ?_
 obtain ⟨⟨h3, h4⟩, h5, h6⟩ := h
 have e2 : t.dome.rounds[row.toNat]? = some (wantAt t.dome row) := by rw [wantAt, Qr (by omega)]; rfl
 simp only [rc80, rs80, eTent, h3, h4, e2, gO50, h5, gO68, h6, gO68', ru_skip, ru_reg, ru_seq, ru_cnd, ite_P, ru_block, ru_ret, ru_keep, ru_crl, putB, thenQ, run_nil, run_cons, Fam.step, stepQ, stepW, needQ, needW, condB, ug, putB, nv, sv, evO, opv, qv, pickV_bb, binV, ldV, iadV, curG, callV, putAt, V.cells, solid, cellOk, hasRef, hasRefL, flat, flatL, upd_some, upd_none, lkp_cons, lkp_nil, ↓reduceIte, Nat.reduceEqDiff, Nat.reduceAdd, Nat.reduceLT, Nat.reduceLeDiff, Qb, Qe, Q0, Q2, Qc, Qd, Ql, Qn, Zh, Qg, Qu, Qw, Qj, Qh, Qk, Qm, Qf, Qo, Qt, Qv, Qy, endQ, rvs, rv1, resV, vw_i, vw_pa, zipA, beq_self_eq_true, Qi, Zr, V.i.injEq, Qx, Zf, Qs, Qa, decide_eq_true_eq, decide_eq_false_iff_not, true_and, and_true, and_self, and_false, implies_true, reduceCtorEq, Q6, beq_true, ite_f, imp_self, Qq, Qp, Q1, Zz, domeE, tentE, eSpan, eDome, eTent]
 refine ⟨fun hs => ?_, fun hs r bs hr => ?_⟩
 ·rw [Zs, decide_eq_true_eq, decide_eq_true_eq] at hs
  simp [tightOf, hs]
 ·have hs' : ¬ ((wantAt t.dome row).low ≤ (roundOf t w).low ∧ (roundOf t w).high ≤ (wantAt t.dome row).high) := by
   rw [Bool.and_eq_false_iff, decide_eq_false_iff_not, decide_eq_false_iff_not] at hs
   omega
  obtain ⟨xs, rfl, rfl, hm⟩ := hr
  simp only [vB_map, cm, shL_noref _ _ (noref_cm _), shV, shB, vB_map, Nat.reduceAdd, Qb, Qe, Qc, Qd, Qh, Qk, Qf, Qo, Qi, Zr, true_and]
  refine ru_range (cmKs xs).length (fun pre => ⟨lkp [(7, .ad 0 0 0), (36, .it 3 0)], [.cells 0 (eSpan (wantAt t.dome row)), .cells 0 (eSpan (roundOf t w)), cm xs, .iter 2 (cmKs xs).length (leftN (cmKs xs).length pre) pre.getLast?]⟩)
   (fun pre => ∀ j ∈ pre, within (((cmKs xs)[j]?.getD []).headD 0) (wantAt t.dome row).low (wantAt t.dome row).high = false) ?_ (by simp) ?_
  ·simp only [cm, leftN_nil, Xy, kp, lkp_cons, lkp_nil, ↓reduceIte, Nat.reduceEqDiff, Qb, Qe, eSpan]
  ·intro pre hnd hlt hC
   simp only [cm, ru_skip, ru_reg, ru_seq, ru_cnd, ite_P, ru_block, ru_exit, ru_ret, ru_keep, ru_nxt, entV, keyV, thenQ, blockQ, run_nil, run_cons, Fam.step, stepQ, evO, opv, qv, ldV, curG, callV, hasRef, hasRefL, kp, upd_some, lkp_cons, lkp_nil, ↓reduceIte, Nat.reduceEqDiff, Nat.reduceAdd, Nat.reduceLT, Nat.reduceLeDiff, Qb, Qe, Qc, Qd, Ql, Qn, Qj, Qm, Qf, Qo, Qt, Qv, Qy, endQ, rvs, rv1, resV, vw_i, beq_self_eq_true, Qi, Zr, V.i.injEq, Qs, Qa, true_and, and_true, and_self, false_implies, Qp, Zz, eSpan]
   refine ⟨fun hnil => ?_, fun j hj => ?_⟩
   ·have hp := perm_leftN hnd hlt hnil
    have : ¬ ∃ x, inSums t w x ∧ within x (wantAt t.dome row).low (wantAt t.dome row).high = true := by
     rintro ⟨x, hx, hw⟩
     have hk := (mem_cmKs xs [x]).2 ⟨x, (hm x).2 hx, rfl⟩
     have := hC ((cmKs xs).idxOf [x]) (hp.mem_iff.2 (Z0.2 (Xi.2 hk)))
     rw [idxOf_get hk] at this
     simp [hw] at this
    simp [tightOf, hs', this]
   ·obtain ⟨hjn, hjp⟩ := mem_leftN.1 hj
    obtain ⟨x, hx, hk1, hk2⟩ := cmKs_get hjn
    simp only [hk1, leftN_erase hj, gO67, Qj, Qt, true_and]
    refine ⟨fun hw => ?_, fun hw => ⟨j, hj, ?_, ?_⟩⟩
    ·have : ∃ x, inSums t w x ∧ within x (wantAt t.dome row).low (wantAt t.dome row).high = true := ⟨x, (hm x).1 hx, hw⟩
     simp [tightOf, hs', this]
    ·intro i hi
     rcases X0.1 hi with hi | hi
     ·exact hC i hi
     ·simp at hi; subst hi; rw [hk1]; exact hw
    ·simp only [Xs]
theorem Good.ok68 {d : Dome} (h : Good d) {w : Int} (hw : 2 * d.loss ≤ w ∧ w ≤ 2000) : Ok68 (tentOf d) w := by
 have hl := h.v.loss
 refine ⟨⟨?_, ?_⟩, h.v.loss, h.v.ng.2, ?_, ?_, ?_⟩
 ·show 0 ≤ w - 2 * d.loss; omega
 ·show w - 2 * d.loss ≤ 2000; omega
 ·intro g hg
  have := h.v.gores g hg
  simp only [tentOf, cansOf, Qq]
  omega
 ·have := h.v.nb
  simp only [tentOf, cansOf, Qq]
  omega
 ·intro l hl
  obtain ⟨b, hb, rfl⟩ := Xe.1 hl
  have hvb := h.v.bolts b hb
  exact ⟨numbersOf_len hvb, fun s hs => numbersOf_range hvb hs⟩
theorem Good.ok47 {d : Dome} (h : Good d) {row w : Int} (hr : isRow d row = true) (hw : 2 * d.loss ≤ w ∧ w ≤ 2000) : Ok47 (tentOf d) row w := by
 obtain ⟨k1, k2, _⟩ := row_of h.v hr
 have := h.v.loss
 exact ⟨⟨k1, k2⟩, h.ok50 (by unfold tame; omega), h.ok68 hw⟩
def eTNN (a : Tent × Int × Int) : List V := [.pa (eTent a.1), .i a.2.1, .i a.2.2]
def dTNN : List V → Tent × Int × Int | [.pa cs, .i n, .i m] => (dTent cs, n, m) | _ => (⟨D0, []⟩, 0, 0)
theorem dTNN_e (a : Tent × Int × Int) : dTNN (eTNN a) = a := by simp [dTNN, eTNN, dTent_e]
noncomputable def r47 : List V → Prop × V := fnG eTNN dTNN (fun a => Ok47 a.1 a.2.1 a.2.2) (fun a => tightOf a.1 a.2.1 a.2.2) .i
noncomputable def GP : Gam := GO.ext 80 r47
theorem okP : GOk Try.prog GP := okO.ext (f := 80) (r := r47) (fun a w => Try.call80 a w) (fnG_ok fun a h => P47 a.1 a.2.1 a.2.2 h)
theorem gP47 (b : List Bolt) (g : List Int) (l : Int) (r : List Span) (w : List Int) (s : Int) (c : List (List Int)) (n m : Int) :
  GP 80 [.pa [.sl 4 (b.map eBolt), .sl 1 (g.map eI), .i l, .sl 2 (r.map eSpan), .sl 1 (w.map eI), .i s, .sl 1 (c.map eCan)], .i n, .i m] = (Ok47 ⟨⟨b, g, l, r, w, s⟩, c⟩ n m, .i (tightOf ⟨⟨b, g, l, r, w, s⟩, c⟩ n m)) :=
 (show GP 80 _ = r47 (eTNN (⟨⟨b, g, l, r, w, s⟩, c⟩, n, m)) from rfl).trans (fnG_at _ (dTNN_e _))
theorem gP45 (b : List Bolt) (g : List Int) (l : Int) (r : List Span) (w : List Int) (s : Int) (x : Bool) :
  GP 79 [.ag [.sl 4 (b.map eBolt), .sl 1 (g.map eI), .i l, .sl 2 (r.map eSpan), .sl 1 (w.map eI), .i s], .b x] = (True, pitchV ⟨b, g, l, r, w, s⟩ x) := gL45 b g l r w s x
noncomputable def looseTo (d : Dome) (k : Nat) : List Int := ((ints 0 (d.widths.length - 1)).take k).filter fun r => decide (tightOf (tentOf d) r (widthAt d r) ≠ 1)
noncomputable def looseR (d : Dome) : List Int × Int := if pitchE d true = 0 then (looseTo d d.widths.length, 0) else ([], pitchE d true)
theorem P26 (d : Dome) : PureCall Try.prog 45 [.ag (eDome d)] (eLE (looseR d)) := by
 refine pure_body okP hmix Try.func45 cb45 cc45 cs45 cn45 ?_
 simp only [rc45, rs45, gP45, pitchV, eLE, looseR, ru_skip, ru_reg, ru_seq, ru_cnd, ite_P, ru_block, ru_ret, ru_keep, ru_own, thenQ, run_nil, run_cons, Fam.step, stepQ, evO, opv, qv, binV, ldV, lenV, callV, V.cells, solid, hasRef, hasRefL, flat, flatL, upd_some, lkp_cons, lkp_nil, ↓reduceIte, Nat.reduceEqDiff, Nat.reduceAdd, Nat.reduceLT, Nat.reduceLeDiff, Qb, Qe, Qc, Qd, Ql, Qn, Qg, Qw, Qj, Qh, Qk, Qm, Qf, Qo, Zg, Qt, endQ, rvs, rv1, resV, vw_i, vw_b, vw_z, vw_sl, vw_ag, vw_tp, zipA, Qi, Qx, Zf, Qs, Qa, decide_eq_false_iff_not, true_and, and_self, false_implies, Zd, Qq, Classical.not_not, domeE, eDome, eTent]
 refine ⟨fun h => by simp [h], fun h => ?_⟩
 obtain ⟨hg, _⟩ := pitchE_zero h
 have hnr := hg.v.nr
 have hnw := hg.v.nw
 simp only [h, ↓reduceIte]
 refine ru_count d.widths.length (fun i => ⟨lkp [(4, .pa (eTent (tentOf d))), (6, .rf 0 (looseTo d i).length 0 (looseTo d i).length 1), (18, .sl 1 (d.widths.map eI)), (19, .i d.widths.length), (20, .i i)], [.cells (looseTo d i).length ((looseTo d i).map eI).flatten]⟩) ?_ ?_ ?_
 ·simp only [Q9, tentOf, eTent, looseTo, Z7, Q3, kp, lkp_cons, lkp_nil, ↓reduceIte, Nat.reduceEqDiff, Qb, Qe, Qd, Qu, Qh, Qk, ne_eq, eDome, eTent]
 ·intro i hi
  obtain ⟨x, hx⟩ : ∃ x, d.widths[i]? = some x := ⟨_, Qr hi⟩
  have hxw : widthAt d i = x := by simp [widthAt, hx]
  have hrow : isRow d i = true := by simp only [isRow, within, Zs, decide_eq_true_eq]; omega
  have h47 := hg.ok47 hrow (w := x) (hg.v.widths x (Q4 hx))
  have hlt : (i : Int) < d.widths.length := by omega
  have h3 : inI ((i : Int) + 1) := by unfold inI; omega
  have hget : (ints 0 ((d.widths.length : Int) - 1))[i]? = some (i : Int) := by rw [ints_get (by omega)]; simp
  have hs : looseTo d (i + 1) = looseTo d i ++ (if decide (tightOf (tentOf d) i (widthAt d i) ≠ 1) then [(i : Int)] else []) := filter_snoc _ hget
  have hll : (looseTo d i).length ≤ i := Z5 (Xa _ _) (Zy _ _)
  rw [hxw] at hs
  unfold tentOf at hs h47
  simp only [hlt, h3, hx, eTent, tentOf, gP47, h47, hs, Q5, Za, ru_skip, ru_reg, ru_seq, ru_cnd, ite_P, ru_block, ru_keep, chunk1, putB, thenQ, blockQ, run_nil, run_cons, Fam.step, stepQ, stepW, needW, putB, nv, sv, newsV, evO, opv, qv, binV, ldV, iadV, callV, foldParts, putAt, partsOk, partsOne, V.cells, solid, cellOk, hasRef, hasRefL, flat, kp, upd_some, lkp_cons, lkp_nil, ↓reduceIte, Nat.reduceEqDiff, Nat.reduceMul, Nat.reduceLT, Nat.reduceLeDiff, Qb, Qe, Q0, Q2, Qc, Qd, Qg, Qu, Qj, Qh, Qk, Qm, Qf, Qt, Qv, Qz, Q8, vw_i, vw_pa, Q7, Qi, Qx, Qs, Qa, decide_true, decide_eq_true_eq, decide_eq_false_iff_not, true_and, and_self, implies_true, reduceCtorEq, not_false_eq_true, ne_eq, Q6, Zd, Qq, Zc, Qp, Q1, Classical.not_not, domeE, eDome, eI, eTent]
  refine ⟨fun he => ?_, fun he => ?_⟩
  ·simp only [he, len_I, Ze, Xj, Xg, Zb, Q3, Zw, ↓reduceIte, Qb, Qe, Qc, Qd, Qm, Qi, true_and, and_true, not_false_eq_true, eI]
   unfold fitsLen; omega
  ·simp only [he, ↓reduceIte, Qm, not_true_eq_false]
 ·simp only [looseTo, len_I, Zw, Zn, chunk_I, vw_I, ru_reg, ru_seq, ru_cnd, ru_exit, ru_ret, ru_keep, thenQ, blockQ, run_nil, run_cons, Fam.step, stepQ, evO, opv, qv, binV, ldV, upd_some, lkp_cons, lkp_nil, ↓reduceIte, Nat.reduceEqDiff, Qb, Qe, Qh, Qk, Qf, endQ, rvs, rv1, resV, vw_i, vw_tp, vw_rf, Zq, Qi, Qa, decide_false, and_self, ne_eq, eDome, eTent]
end Go.C02
set_option linter.unusedSimpArgs false
set_option linter.unusedVariables false
namespace Go.C02
open Go.Fam Go.Proofs
def copyCs (d : Dome) : List V := [.rf 2 1 0 d.bolts.length 4, .rf 3 1 0 d.gores.length 1, .i d.loss, .rf 5 1 0 d.rounds.length 2, .rf 7 1 0 d.widths.length 1, .i d.slope]
def copyHp (d : Dome) : List Blk :=
 [.cells 0 (copyCs d), .cells 0 (copyCs d), .cells 1 (d.bolts.map eBolt).flatten, .cells 1 (d.gores.map eI).flatten, .hole, .cells 1 (d.rounds.map eSpan).flatten, .hole, .cells 1 (d.widths.map eI).flatten, .hole]
def copyV (d : Dome) : V := .ag (copyCs d)
structure Ok22 (d : Dome) : Prop where
 b : d.bolts.length < 1000000
 g : d.gores.length < 1000000
 r : d.rounds.length < 1000000
 w : d.widths.length < 1000000
 s : ∀ b ∈ d.bolts, b.strips.length < 1000000
theorem O22 (d : Dome) (h : Ok22 d) : OwnCall Try.prog 55 [.ag (eDome d)] (copyV d) (copyHp d) := by
 refine own_body okP hmix Try.func55 cb55 cc55 cs55 cn55 ?_
 simp only [rc55, rs55, Q3, ru_reg, ru_seq, ru_block, ru_keep, putB, thenQ, run_nil, run_cons, Fam.step, stepQ, stepW, needW, putB, nv, sv, newsV, evO, opv, qv, ldV, curG, foldParts, putAt, partsOk, partsOne, V.cells, solid, cellOk, hasRef, hasRefL, upd_some, upd_none, lkp_cons, lkp_nil, ↓reduceIte, Nat.reduceEqDiff, Nat.reduceAdd, Nat.reduceMul, Nat.reduceLeDiff, Qb, Qe, Q0, Q2, Qc, Qd, Ql, Qn, Zh, Qg, Qu, Qw, Qj, Qh, Qk, Qm, Qf, Qo, Qv, Qy, Qz, vw_i, vw_sl, vw_ag, zipA, beq_self_eq_true, Qi, Zr, Qx, Qs, Qa, true_and, and_self, Qq, eDome]
 have hb := h.b
 have hg := h.g
 have hr := h.r
 have hw := h.w
 refine ⟨by unfold fitsLen; omega, ?_⟩
 refine ru_count d.bolts.length (fun i => ⟨lkp [(1, .pa (eDome d)), (2, .ad 0 0 0), (3, .ad 1 0 0), (4, .i i)], [.cells 0 [.z 4, .z 1, .i 0, .z 2, .z 1, .i 0], .cells 0 [.rf 2 1 0 d.bolts.length 4, .sl 1 (d.gores.map eI), .i d.loss, .sl 2 (d.rounds.map eSpan), .sl 1 (d.widths.map eI), .i d.slope], .cells 1 (d.bolts.map eBolt).flatten]⟩) ?_ ?_ ?_
 ·simp only [Q9, cutL_noref _ _ _ (hasRefL_flat (e := eBolt) (fun _ => rfl) d.bolts), cutH, kp, cutV, cutL, cutB, lkp_cons, lkp_nil, ↓reduceIte, Nat.reduceEqDiff, Nat.reduceLT, Qb, Qe, Qg, Qw, eDome]
 ·intro i hi
  obtain ⟨x, hx⟩ : ∃ x, d.bolts[i]? = some x := ⟨_, Qr hi⟩
  have hlt : (i : Int) < d.bolts.length := by omega
  have h3 : inI ((i : Int) + 1) := by unfold inI; omega
  have hfl := flat_len (e := eBolt) (k := 4) (fun _ => rfl) d.bolts
  have hst : fitsLen x.strips.length := by have := h.s x (Q4 hx); unfold fitsLen; omega
  have hoff : i * 4 + 2 + 1 ≤ d.bolts.length * 4 := by omega
  have hnr := hasRefL_flat (e := eBolt) (fun _ => rfl) d.bolts
  have hns := hasRefL_flat (e := eStrip) (fun _ => rfl) x.strips
  have hsl := flat_len (e := eStrip) (k := 3) (fun _ => rfl) x.strips
  have hvw : ∀ hp, (x.strips.map eStrip).map (fun r => r.map (vw hp 7)) = x.strips.map eStrip := fun hp => map_vw_rows (e := eStrip) hp 7 (fun _ => rfl) _
  have hput : List.take (i * 4 + 2) (d.bolts.map eBolt).flatten ++ [V.sl 3 (x.strips.map eStrip)] ++ List.drop (i * 4 + 2 + 1) (d.bolts.map eBolt).flatten = (d.bolts.map eBolt).flatten :=
   put_same (flat_get (k := 4) (fun _ => rfl) d.bolts i 2 x hx (by decide))
  simp only [hx, hlt, Q5, Za, h3, Q3, hfl, hst, hoff, cutL_append, cutL_noref _ _ _ (hasRefL_take _ _ hnr), cutL_noref _ _ _ (hasRefL_drop _ _ hnr), cutL_noref _ _ _ hnr, hpF, upB, upL_noref _ _ hns, chunk_flat (e := eStrip) (k := 3) (fun _ => rfl), hsl, hvw, Zn, hput, ru_skip, ru_reg, ru_any, ru_seq, ru_cnd, ru_block, ru_keep, ru_drp, ↓cut_lkp, putBs, optL, cutH, thenQ, blockQ, run_nil, run_cons, Fam.step, stepQ, needW, runX, eff, nextD, fpR, fpQ, fpV, disjB, hits, nv, sv, newsV, evO, opv, qv, binV, ldV, iadV, lenV, curG, foldParts, putAt, partsOk, partsOne, V.cells, solid, cellOk, kp, cutV, cutL, cutB, upd_some, upd_none, lkp_cons, lkp_nil, ↓reduceIte, Nat.reduceEqDiff, Nat.reduceAdd, Nat.reduceMul, Nat.reduceLT, Nat.reduceLeDiff, Nat.reduceBEq, Qb, Qe, Q0, Q2, Qc, Qd, Ql, Qn, Qg, Qu, Qw, Qj, Qh, Qk, Qf, Qo, Zg, Qt, Zl, Qv, Qy, Qz, Q8, Zi, Zx, vw_rf, Q7, beq_self_eq_true, Qi, Zr, Qx, Zf, Xh, Zo, Xb, Qs, Z8, Zp, Zk, Qa, decide_true, and_self, false_and, reduceCtorEq, Q6, Z9, Zv, Zu, Zj, Qq, Zc, Qp, Q1, eBolt, eDome]
 ·simp only [Q3, Zn, copyV, copyHp, copyCs, ru_reg, ru_any, ru_seq, ru_cnd, ru_exit, ru_ret, ru_keep, putBs, optL, putB, endO, thenQ, blockQ, run_nil, run_cons, Fam.step, stepQ, stepW, needW, runX, eff, nextD, fpR, fpQ, fpV, disjB, hits, putB, nv, sv, newsV, evO, opv, qv, binV, ldV, lenV, curG, foldParts, putAt, partsOk, partsOne, V.cells, solid, cellOk, upd_some, upd_none, lkp_cons, lkp_nil, ↓reduceIte, Nat.reduceEqDiff, Nat.reduceAdd, Nat.reduceMul, Nat.reduceLeDiff, Nat.reduceBEq, Qb, Qe, Q0, Q2, Qc, Qd, Ql, Qn, Zh, Qg, Qu, Qw, Qj, Qh, Qk, Qm, Qf, Qo, Zg, Qt, Zl, Qv, Qy, Qz, Q8, Zi, Zx, rvs, rv1, resV, Zq, beq_self_eq_true, Qi, Zr, Qx, Zf, Xh, Zo, Xb, Qs, Z8, Zp, Zk, Qa, decide_false, true_and, and_true, and_self, Z9, Zv, Zu, Zj, Qq, Qp, eDome]
  unfold fitsLen
  omega
theorem P22' (d : Dome) (h : Ok22 d) : PureCall Try.prog 55 [.ag (eDome d)] (.ag (eDome d)) := P22 d ⟨h.b, h.g, h.r, h.w, h.s⟩
def r22 : List V → Prop × V := fnG (fun d => [.ag (eDome d)]) dD Ok22 (fun d => d) (fun d => .ag (eDome d))
def r22o : List V → Prop × V := fnG (fun d => [.ag (eDome d)]) dD Ok22 (fun d => d) (fun d => .tp [copyV d, .tp ((copyHp d).map bV)])
theorem copy_vB (d : Dome) : ((copyHp d).map bV).map vB = copyHp d := by simp [copyHp, copyCs, bV, vB]
noncomputable def GQ : Gam := (GP.ext 55 r22).ext 1000055 r22o
theorem okQ : GOk Try.prog GQ := by
 have k1 := okP.ext (f := 55) (r := r22) (fun a w => Try.call55 a w) (fnG_ok fun d h => P22' d h)
 refine k1.extO (f := 55) (r := r22o) (fun a w => Try.call55 a w) fun vs r' bs h1 h2 => ?_
 simp only [r22o, fnG, V.tp.injEq, List.cons.injEq, and_true] at h1 h2
 obtain ⟨rfl, rfl⟩ := h2
 rw [← h1.1, copy_vB]
 simp only [dD, dDome_e]
 rw [← h1.1] at h1
 simp only [dD, dDome_e] at h1
 exact O22 _ h1.2
end Go.C02
set_option linter.unusedSimpArgs false
set_option linter.unusedVariables false
namespace Go.C02
open Go.Fam Go.Proofs
theorem fnO_ok {P : Program} {A : Type} {e : A → List V} {d : List V → A} {ok : A → Prop} {v : A → V} {hp : A → List Blk} {f : Nat} (hvB : ∀ a, ((hp a).map bV).map vB = hp a) (h : ∀ a, ok a → OwnCall P f (e a) (v a) (hp a))
  (vs : List V) (r : V) (bs : List V) (h1 : (fnG e d ok (fun a => a) (fun a => .tp [v a, .tp ((hp a).map bV)]) vs).1) (h2 : (fnG e d ok (fun a => a) (fun a => .tp [v a, .tp ((hp a).map bV)]) vs).2 = .tp [r, .tp bs]) : OwnCall P f vs r (bs.map vB) := by
 simp only [fnG, V.tp.injEq, List.cons.injEq, and_true] at h1 h2
 obtain ⟨rfl, rfl⟩ := h2
 have := h (d vs) h1.2
 rw [h1.1] at this
 rwa [hvB]
def exD : Dome := ⟨[⟨⟨0, 20⟩, [⟨1000, ⟨1005, 1010⟩⟩], 0⟩, ⟨⟨0, 10⟩, [], 0⟩], [0, 0, 1, 1], 5, [⟨400, 404⟩, ⟨600, 650⟩, ⟨803, 806⟩], [110, 165, 210], 50⟩
def exCs : List V := [.sl 4 (exD.bolts.map eBolt), .sl 1 (exD.gores.map eI), .i 5, .rf 1 0 0 3 2, .sl 1 (exD.widths.map eI), .i 50]
def exHp : List Blk := [.cells 0 exCs, .cells 0 [.i 400, .i 404, .i 600, .i 650, .i 803, .i 806]]
theorem O44 : OwnCall Try.prog 78 [] (.ag exCs) exHp := by
 refine own_body okQ hmix Try.func78 cb78 cc78 cs78 cn78 ?_
 simp only [rc78, rs78, exCs, exHp, exD, Zb, Q3, ru_reg, ru_seq, ru_ret, ru_keep, chunk1, putB, endO, thenQ, run_nil, run_cons, Fam.step, stepQ, stepW, needW, putB, nv, sv, evO, opv, qv, ldV, foldParts, putAt, partsOk, partsOne, V.cells, solid, cellOk, hasRef, hasRefL, upd_some, upd_none, lkp_cons, lkp_nil, ↓reduceIte, Nat.reduceEqDiff, Nat.reduceAdd, Nat.reduceMul, Nat.reduceLeDiff, Qb, Qe, Q0, Q2, Qc, Qd, Ql, Qn, Zh, Qg, Qu, Qw, Qh, Qk, Qm, Qf, Qv, Qz, Q8, rvs, rv1, resV, vw_i, vw_z, vw_sl, vw_ag, zipA, Qi, Qx, Qs, true_and, and_self, reduceCtorEq, not_false_eq_true, ne_eq, eStrip, eBolt, eI]
 exact ⟨rfl, rfl⟩
theorem O26 (d : Dome) (h : pitchE d true = 0) : OwnCall Try.prog 45 [.ag (eDome d)] (.tp [.rf 0 (looseTo d d.widths.length).length 0 (looseTo d d.widths.length).length 1, .i 0]) [.cells (looseTo d d.widths.length).length ((looseTo d d.widths.length).map eI).flatten] := by
 refine own_body okP hmix Try.func45 cb45 cc45 cs45 cn45 ?_
 simp only [rc45, rs45, gP45, pitchV, h, ru_skip, ru_reg, ru_seq, ru_cnd, ru_block, ru_keep, ru_own, thenQ, run_nil, run_cons, Fam.step, stepQ, evO, opv, qv, binV, ldV, lenV, callV, V.cells, solid, hasRef, hasRefL, flat, flatL, upd_some, lkp_cons, lkp_nil, ↓reduceIte, Nat.reduceEqDiff, Nat.reduceAdd, Nat.reduceLT, Nat.reduceLeDiff, Qb, Qe, Qc, Qd, Ql, Qn, Qg, Qw, Qj, Qh, Qk, Qm, Qf, Qo, Qt, vw_i, vw_b, vw_sl, vw_ag, zipA, Qi, Qx, Zf, Qs, Zp, Qa, decide_true, true_and, and_self, imp_self, Qq, domeE, eDome, eTent]
 obtain ⟨hg, _⟩ := pitchE_zero h
 have hnr := hg.v.nr
 have hnw := hg.v.nw
 refine ru_count d.widths.length (fun i => ⟨lkp [(4, .pa (eTent (tentOf d))), (6, .rf 0 (looseTo d i).length 0 (looseTo d i).length 1), (18, .sl 1 (d.widths.map eI)), (19, .i d.widths.length), (20, .i i)], [.cells (looseTo d i).length ((looseTo d i).map eI).flatten]⟩) ?_ ?_ ?_
 ·simp only [Q9, tentOf, eTent, looseTo, Z7, Q3, kp, lkp_cons, lkp_nil, ↓reduceIte, Nat.reduceEqDiff, Qb, Qe, Qd, Qu, Qh, Qk, ne_eq, eDome, eTent]
 ·intro i hi
  obtain ⟨x, hx⟩ : ∃ x, d.widths[i]? = some x := ⟨_, Qr hi⟩
  have hxw : widthAt d i = x := by simp [widthAt, hx]
  have hrow : isRow d i = true := by simp only [isRow, within, Zs, decide_eq_true_eq]; omega
  have h47 := hg.ok47 hrow (w := x) (hg.v.widths x (Q4 hx))
  have hlt : (i : Int) < d.widths.length := by omega
  have h3 : inI ((i : Int) + 1) := by unfold inI; omega
  have hget : (ints 0 ((d.widths.length : Int) - 1))[i]? = some (i : Int) := by rw [ints_get (by omega)]; simp
  have hs : looseTo d (i + 1) = looseTo d i ++ (if decide (tightOf (tentOf d) i (widthAt d i) ≠ 1) then [(i : Int)] else []) := filter_snoc _ hget
  have hll : (looseTo d i).length ≤ i := Z5 (Xa _ _) (Zy _ _)
  rw [hxw] at hs
  unfold tentOf at hs h47
  simp only [hlt, h3, hx, eTent, tentOf, gP47, h47, hs, Q5, Za, ru_skip, ru_reg, ru_seq, ru_cnd, ite_P, ru_block, ru_keep, chunk1, putB, thenQ, blockQ, run_nil, run_cons, Fam.step, stepQ, stepW, needW, putB, nv, sv, newsV, evO, opv, qv, binV, ldV, iadV, callV, foldParts, putAt, partsOk, partsOne, V.cells, solid, cellOk, hasRef, hasRefL, flat, kp, upd_some, lkp_cons, lkp_nil, ↓reduceIte, Nat.reduceEqDiff, Nat.reduceMul, Nat.reduceLT, Nat.reduceLeDiff, Qb, Qe, Q0, Q2, Qc, Qd, Qg, Qu, Qj, Qh, Qk, Qm, Qf, Qt, Qv, Qz, Q8, vw_i, vw_pa, Q7, Qi, Qx, Qs, Qa, decide_true, decide_eq_true_eq, decide_eq_false_iff_not, true_and, and_self, implies_true, reduceCtorEq, not_false_eq_true, ne_eq, Q6, Zd, Qq, Zc, Qp, Q1, Classical.not_not, domeE, eDome, eI, eTent]
  refine ⟨fun he => ?_, fun he => ?_⟩
  ·simp only [he, len_I, Ze, Xj, Xg, Zb, Q3, Zw, ↓reduceIte, Qb, Qe, Qc, Qd, Qm, Qi, true_and, and_true, not_false_eq_true, eI]
   unfold fitsLen; omega
  ·simp only [he, ↓reduceIte, Qm, not_true_eq_false]
 ·simp only [ru_reg, ru_seq, ru_cnd, ru_exit, ru_ret, ru_keep, endO, thenQ, blockQ, run_nil, run_cons, Fam.step, stepQ, evO, opv, qv, binV, ldV, upd_some, lkp_cons, lkp_nil, ↓reduceIte, Nat.reduceEqDiff, Qb, Qe, Qh, Qk, rvs, rv1, resV, Zq, Qa, decide_false, and_self, eDome, eTent]
noncomputable def v26 (d : Dome) : V := .tp [.rf 0 (looseTo d d.widths.length).length 0 (looseTo d d.widths.length).length 1, .i 0]
noncomputable def h26 (d : Dome) : List Blk := [.cells (looseTo d d.widths.length).length ((looseTo d d.widths.length).map eI).flatten]
theorem h26_vB (d : Dome) : ((h26 d).map bV).map vB = h26 d := by simp [h26, bV, vB]
noncomputable def r26o : List V → Prop × V := fnG (fun d => [.ag (eDome d)]) dD (fun d => pitchE d true = 0) (fun d => d) (fun d => .tp [v26 d, .tp ((h26 d).map bV)])
def r23 : List V → Prop × V := fnG eDN dDN (fun a => a.1.rounds.length < 1000) (fun a => roundR a.1 a.2) eSE
noncomputable def r26 : List V → Prop × V := fnG (fun d => [.ag (eDome d)]) dD (fun _ => True) looseR eLE
def r36 : List V → Prop × V := fnG eDN dDN (fun a => a.1.bolts.length < 1000) (fun a => stretchesR a.1 a.2) eLE
def r44o : List V → Prop × V := fnG (fun _ : Unit => []) (fun _ => ()) (fun _ => True) (fun a => a) (fun _ => .tp [.ag exCs, .tp (exHp.map bV)])
theorem ex_vB : (exHp.map bV).map vB = exHp := by simp [exHp, exCs, bV, vB]
noncomputable def GR : Gam := ((((GQ.ext 77 r23).ext 45 r26).ext 82 r36).ext 1000078 r44o).ext 1000045 r26o
theorem okR : GOk Try.prog GR := by
 have k1 := okQ.ext (f := 77) (r := r23) (fun a w => Try.call77 a w) (fnG_ok fun a h => P23 a.1 a.2 h)
 have k4 := k1.ext (f := 45) (r := r26) (fun a w => Try.call45 a w) (fnG_ok fun a _ => P26 a)
 have k6 := k4.ext (f := 82) (r := r36) (fun a w => Try.call82 a w) (fnG_ok fun a h => P36 a.1 a.2 h)
 have k10 := k6.extO (f := 78) (r := r44o) (fun a w => Try.call78 a w) (fnO_ok (hp := fun _ => exHp) (fun _ => ex_vB) fun _ _ => O44)
 exact k10.extO (f := 45) (r := r26o) (fun a w => Try.call45 a w) (fnO_ok (hp := h26) h26_vB fun d h => O26 d h)
end Go.C02
set_option linter.unusedSimpArgs false
set_option linter.unusedVariables false
namespace Go.C02
open Go.Fam Go.Proofs
def bigs (d : Dome) : Bool := decide ((20 : Int) < d.bolts.length) || decide ((60 : Int) < d.gores.length) || decide ((60 : Int) < d.rounds.length) || decide ((60 : Int) < d.widths.length)
def manyTo (d : Dome) (k : Nat) : Int := (d.bolts.take k).foldl (fun m b => m * (numbersOf b).length) 1
theorem manyTo_succ {d : Dome} {k : Nat} {b : Bolt} (h : d.bolts[k]? = some b) : manyTo d (k + 1) = manyTo d k * (numbersOf b).length := by
 simp [manyTo, take_succ_of h]
def far (d : Dome) : Bool :=
 if bigs d then true else if d.bolts.any (fun b => decide ((60 : Int) < b.strips.length)) then true else if check d ≠ 0 then false
 else decide ((49 : Int) < manyTo d d.bolts.length) || decide ((8 : Int) < d.gores.length) || decide ((4 : Int) < d.rounds.length)
theorem manyTo_range {d : Dome} (hv : Valid d) : ∀ k : Nat, k ≤ 4 → 0 ≤ manyTo d k ∧ manyTo d k ≤ 61 ^ k
 | 0, _ => by simp [manyTo]
 | k + 1, hk => by
  have h1 := manyTo_range hv k (by omega)
  cases hb : d.bolts[k]? with
  | none =>
   have : manyTo d (k + 1) = manyTo d k := by
    have hl := List.getElem?_eq_none_iff.1 hb
    simp [manyTo, Z4 hl, Z4 (Z5 hl (Nat.le_succ k))]
   rw [this]
   refine ⟨h1.1, Int.le_trans h1.2 ?_⟩
   exact_mod_cast Xc (by decide : 0 < 61) (Nat.le_succ k)
  | some b =>
   rw [manyTo_succ hb]
   have h2 := numbersOf_len (hv.bolts b (Q4 hb))
   refine ⟨Xu h1.1 (by omega), ?_⟩
   rw [Int.pow_succ]
   exact Xv h1.2 (by omega) (by omega) (by exact_mod_cast Nat.zero_le (61 ^ k))
theorem gR39 (b : List Bolt) (g : List Int) (l : Int) (r : List Span) (w : List Int) (s : Int) : GR 58 [.ag [.sl 4 (b.map eBolt), .sl 1 (g.map eI), .i l, .sl 2 (r.map eSpan), .sl 1 (w.map eI), .i s]] = (True, .i (check ⟨b, g, l, r, w, s⟩)) := gJ39 ⟨b, g, l, r, w, s⟩
theorem gR49 (a b : Int) (l : List Strip) (w s : Int) : GR 69 [.ag [.i a, .i b, .sl 3 (l.map eStrip), .i w], .i s] = (ok66 l s, .b (can ⟨⟨a, b⟩, l, w⟩ s)) := gJ49 a b l w s
theorem P21 (d : Dome) : PureCall Try.prog 57 [.ag (eDome d)] (.b (far d)) := by
 refine pure_body okR hmix Try.func57 cb57 cc57 cs57 cn57 ?_
 simp only [rc57, rs57, ru_skip, ru_reg, ru_seq, ru_cnd, ite_P, ru_block, ru_ret, ru_keep, thenQ, run_nil, run_cons, Fam.step, stepQ, needQ, condB, ug, evO, opv, qv, pickV_bb, binV, ldV, lenV, V.cells, solid, hasRef, hasRefL, upd_some, lkp_cons, lkp_nil, ↓reduceIte, Nat.reduceEqDiff, Nat.reduceAdd, Nat.reduceLeDiff, Qb, Qe, Q0, Q2, Qc, Qd, Ql, Qn, Qj, endQ, rvs, rv1, resV, vw_i, vw_b, vw_sl, vw_ag, zipA, Qi, V.b.injEq, Qx, Zf, Qs, Qa, decide_eq_true_eq, decide_eq_false_iff_not, true_and, and_true, and_self, implies_true, beq_false, Zd, ite_t, Z3, imp_self, Qq, Zz, eDome]
 refine ⟨fun h => ?_, fun h => ?_⟩
 ·have : bigs d = true := h
  simp [far, this]
 have hbig : bigs d = false := h
 have hlen : d.bolts.length ≤ 20 := by
  simp only [bigs, Z1, decide_eq_false_iff_not] at hbig
  omega
 refine ru_countC d.bolts.length (fun i => ⟨lkp [(1, .pa (eDome d)), (3, .i i)], []⟩) (fun i => (d.bolts.take i).any (fun b => decide ((60 : Int) < b.strips.length)) = false) ?_ ?_ ?_ ?_
 ·simp only [Q9, kp, lkp_cons, lkp_nil, ↓reduceIte, Nat.reduceEqDiff, Qb, Qe, eDome]
 ·rfl
 ·intro i hi hC
  obtain ⟨b, hb⟩ : ∃ b, d.bolts[i]? = some b := ⟨_, Qr hi⟩
  have hlt : (i : Int) < d.bolts.length := by omega
  have h3 : inI ((i : Int) + 1) := by unfold inI; omega
  simp only [hb, hlt, h3, Q5, Za, ru_skip, ru_reg, ru_seq, ru_cnd, ite_P, ru_block, ru_ret, ru_keep, thenQ, blockQ, run_nil, run_cons, Fam.step, stepQ, evO, opv, qv, binV, ldV, iadV, lenV, kp, upd_some, lkp_cons, lkp_nil, ↓reduceIte, Nat.reduceEqDiff, Nat.reduceAdd, Nat.reduceLeDiff, Qb, Qe, Qc, Qd, Ql, Qn, Qj, Qt, endQ, rvs, rv1, resV, vw_b, Q7, Qi, V.b.injEq, Qa, decide_true, decide_eq_true_eq, true_and, and_true, and_self, Q6, Qq, Zc, Qp, Q1, eBolt, eDome]
  refine ⟨fun h60 => ?_, fun h60 => ?_⟩
  ·have : d.bolts.any (fun b => decide ((60 : Int) < b.strips.length)) = true := Xo.2 ⟨b, Q4 hb, by simpa using h60⟩
   simp [far, hbig, this]
  ·rw [take_succ_of hb, X9, hC]
   simp; omega
 ·intro hC
  rw [Zt] at hC
  simp only [gR39, ru_skip, ru_reg, ru_seq, ru_cnd, ite_P, ru_block, ru_exit, ru_ret, ru_keep, thenQ, blockQ, run_nil, run_cons, Fam.step, stepQ, evO, opv, qv, binV, ldV, lenV, callV, hasRef, hasRefL, flat, upd_some, lkp_cons, lkp_nil, ↓reduceIte, Nat.reduceEqDiff, Nat.reduceAdd, Nat.reduceLT, Nat.reduceLeDiff, Qb, Qe, Qc, Qd, Qn, Qg, Qw, Qj, Qm, endQ, rvs, rv1, resV, vw_i, vw_b, vw_sl, vw_ag, Zq, Qi, V.b.injEq, Qs, Qa, decide_false, decide_eq_false_iff_not, true_and, and_self, implies_true, Zd, Qq, Classical.not_not, domeE, eDome]
  refine ⟨fun hc => ?_, fun hc => ?_⟩
  ·simp [far, hbig, hC, hc]
  have hv := valid_of hc
  have hnb := hv.nb
  refine ru_count d.bolts.length (fun i => ⟨lkp [(1, .pa (eDome d)), (4, .i (manyTo d i)), (5, .i i)], []⟩) ?_ ?_ ?_
  ·simp only [Q9, manyTo, Jd, Jd, kp, lkp_cons, lkp_nil, ↓reduceIte, Nat.reduceEqDiff, Qb, Qe, Qu, eDome]
  ·intro i hi
   obtain ⟨b, hb⟩ : ∃ b, d.bolts[i]? = some b := ⟨_, Qr hi⟩
   have hlt : (i : Int) < d.bolts.length := by omega
   have h3 : inI ((i : Int) + 1) := by unfold inI; omega
   have hvb := hv.bolts b (Q4 hb)
   have hst := hvb.st
   simp only [hb, hlt, Q5, Za, ru_skip, ru_reg, ru_seq, ru_cnd, ru_block, ru_keep, thenQ, run_nil, run_cons, Fam.step, stepQ, evO, opv, qv, binV, ldV, iadV, lenV, kp, upd_some, lkp_cons, lkp_nil, ↓reduceIte, Nat.reduceEqDiff, Nat.reduceAdd, Nat.reduceLeDiff, Qb, Qe, Qc, Qd, Qn, Qj, Qt, Q7, Qi, Qa, decide_true, true_and, and_self, Q6, Qq, Zc, Qp, Q1, eBolt, eDome]
   refine ru_count (b.stretch.high + 1 - b.stretch.low).toNat (fun k => ⟨lkp [(1, .pa (eDome d)), (4, .i (manyTo d i)), (5, .i i), (6, .i (numbersTo b k).length), (7, .i (b.stretch.low + k))], []⟩) ?_ ?_ ?_
   ·simp only [Q9, Xz, numbersTo, Z7, kp, lkp_cons, lkp_nil, ↓reduceIte, Nat.reduceEqDiff, Qb, Qe, Qd, Qu, eDome]
   ·intro k hk
    have hlt2 : b.stretch.low + (k : Int) ≤ b.stretch.high := by omega
    have h4 : inI (b.stretch.low + (k : Int) + 1) := by unfold inI; omega
    have h5 := hvb.ok66 (s := b.stretch.low + k) (by omega)
    have h6 := numbersTo_len b k
    have h7 : inI (((numbersTo b k).length : Int) + 1) := by unfold inI; omega
    rw [Z2] at h4
    simp only [hb, hlt, hlt2, h4, h5, h7, gR49, numbersTo_succ hk, Q5, Za, Z2, ru_skip, ru_reg, ru_seq, ru_cnd, ite_P, ru_block, ru_keep, thenQ, blockQ, run_nil, run_cons, Fam.step, stepQ, evO, opv, qv, binV, ldV, iadV, callV, hasRef, hasRefL, flat, kp, upd_some, lkp_cons, lkp_nil, ↓reduceIte, Nat.reduceEqDiff, Nat.reduceAdd, Nat.reduceLT, Nat.reduceLeDiff, Qb, Qe, Qc, Qd, Ql, Qn, Qg, Qw, Qj, Qm, Qt, vw_i, vw_sl, vw_ag, Q7, Qi, Qs, Qa, decide_true, true_and, and_self, implies_true, Q6, Qq, Zc, Qp, Q1, Zz, spanE, boltE, eBolt, eDome]
    refine ⟨fun h => ?_, fun h => ?_⟩
    ·simp only [h, Ze, Q5, Za, ↓reduceIte, Qc, Qd, Qi]
    ·simp only [h, ↓reduceIte, Qm, Qa]
   ·have hgt : ¬ (b.stretch.low + ((b.stretch.high + 1 - b.stretch.low).toNat : Int) ≤ b.stretch.high) := by omega
    have hm := manyTo_range hv (i + 1) (by omega)
    have hp : (61 : Int) ^ (i + 1) ≤ 61 ^ 4 := by exact_mod_cast Xc (by decide : 0 < 61) (show i + 1 ≤ 4 by omega)
    rw [manyTo_succ hb] at hm
    have h8 : inI (manyTo d i * (numbersOf b).length) := by unfold inI; omega
    simp only [hb, hlt, hgt, numbersTo_all, h8, h3, manyTo_succ hb, ru_reg, ru_seq, ru_cnd, ru_exit, ru_keep, thenQ, blockQ, run_nil, run_cons, Fam.step, stepQ, evO, opv, qv, binV, ldV, iadV, upd_some, lkp_cons, lkp_nil, ↓reduceIte, Nat.reduceEqDiff, Nat.reduceAdd, Nat.reduceLeDiff, Qb, Qe, Qc, Qd, Ql, Qn, Qj, Qt, Q7, Qi, Qa, decide_false, and_self, Q6, Qq, Zc, Qp, Q1, eBolt, eDome]
  ·simp only [ru_reg, ru_seq, ru_cnd, ru_exit, ru_ret, ru_keep, thenQ, blockQ, run_nil, run_cons, Fam.step, stepQ, needQ, condB, ug, evO, opv, qv, pickV_bb, binV, ldV, lenV, upd_some, lkp_cons, lkp_nil, ↓reduceIte, Nat.reduceEqDiff, Nat.reduceAdd, Nat.reduceLeDiff, Qb, Qe, Q0, Q2, Qc, Qd, Ql, Qn, Qj, endQ, rvs, rv1, resV, vw_b, Zq, Qi, V.b.injEq, Qx, Zf, Qa, decide_false, decide_eq_true_eq, decide_eq_false_iff_not, true_and, and_true, and_self, implies_true, beq_false, Zd, ite_t, Z3, imp_self, Qq, eDome]
   simp [far, hbig, hC, hc]
def r21 : List V → Prop × V := fnG (fun d => [.ag (eDome d)]) dD (fun _ => True) far .b
noncomputable def GS : Gam := GR.ext 57 r21
theorem okS : GOk Try.prog GS := by
 have k1 := okR.ext (f := 57) (r := r21) (fun a w => Try.call57 a w) (fnG_ok fun a _ => P21 a)
 exact k1
end Go.C02
set_option linter.unusedSimpArgs false
set_option linter.unusedVariables false
namespace Go.C02
open Go.Fam Go.Proofs
def eDNN (a : Dome × Int × Int) : List V := [.ag (eDome a.1), .i a.2.1, .i a.2.2]
def dDNN : List V → Dome × Int × Int | [.ag cs, .i n, .i m] => (dDome cs, n, m) | _ => (D0, 0, 0)
theorem dDNN_e (a : Dome × Int × Int) : dDNN (eDNN a) = a := by simp [dDNN, eDNN, dDome_e]
noncomputable def GT : Gam := GS
theorem okT : GOk Try.prog GT := by
 exact okS
section
variable (b : List Bolt) (g : List Int) (l : Int) (r : List Span) (w : List Int) (s n m : Int)
end
end Go.C02
set_option linter.unusedSimpArgs false
set_option linter.unusedVariables false
namespace Go.C02
open Go.Fam Go.Proofs
def okCan (b : Bolt) (s : Int) : Prop := within s b.stretch.low b.stretch.high = true → ok66 b.strips s
theorem gT54 (n lo hi : Int) : GT 88 [.i n, .i lo, .i hi] = (True, .b (within n lo hi)) := gJ54 n lo hi
theorem gT66 (a b : Int) (l : List Strip) (w s : Int) : GT 93 [.ag [.i a, .i b, .sl 3 (l.map eStrip), .i w], .i s] = (ok66 l s, .i (falses l s)) := gJ66 a b l w s
theorem P49w (b : Bolt) (s : Int) (h : okCan b s) : PureCall Try.prog 69 [.ag (eBolt b), .i s] (.b (can b s)) := by
 refine pure_body okT hmix Try.func69 cb69 cc69 cs69 cn69 ?_
 unfold okCan at h
 simp only [rc69, rs69, gT54, gT66, ru_reg, ru_any, ru_seq, ru_ret, ru_keep, putBs, thenQ, run_nil, run_cons, Fam.step, stepQ, needQ, condB, ug, runX, eff, nextD, fpR, fpQ, fpV, disjB, hits, evO, opv, qv, pickV_bb, binV, ldV, callV, V.cells, solid, hasRef, hasRefL, flat, upd_some, lkp_cons, lkp_nil, ↓reduceIte, Nat.reduceEqDiff, Nat.reduceAdd, Nat.reduceLT, Nat.reduceLeDiff, Qb, Qe, Q0, Q2, Qc, Qd, Ql, Qn, Qg, Qw, Qj, Qh, Qk, Qm, Zg, Zl, Qz, Zi, endQ, rvs, rv1, resV, vw_i, vw_b, vw_sl, vw_ag, zipA, Qi, V.b.injEq, Qx, Zf, Zo, Qs, Zp, Zk, Qa, true_and, and_true, and_self, implies_true, reduceCtorEq, Zv, Zj, beq_true, ite_f, Z3, imp_self, Qp, eBolt]
 exact ⟨fun hw => ⟨hw, h hw⟩, rfl⟩
def r49w : List V → Prop × V := fnG eBI dBI (fun a => okCan a.1 a.2) (fun a => can a.1 a.2) .b
noncomputable def GU1 : Gam := GT.ext 69 r49w
theorem okU1 : GOk Try.prog GU1 := by
 have k1 := okT.ext (f := 69) (r := r49w) (fun a w => Try.call69 a w) (fnG_ok fun a h => P49w a.1 a.2 h)
 exact k1
theorem gU49 (a b : Int) (l : List Strip) (w s : Int) : GU1 69 [.ag [.i a, .i b, .sl 3 (l.map eStrip), .i w], .i s] = (okCan ⟨⟨a, b⟩, l, w⟩ s, .b (can ⟨⟨a, b⟩, l, w⟩ s)) :=
 (show GU1 69 _ = r49w (eBI (⟨⟨a, b⟩, l, w⟩, s)) from rfl).trans (fnG_at _ (dBI_e _))
def isTruth (d : Dome) (l : List Int) : Bool := decide (l.length = d.bolts.length) && (Zm l.length).all fun i => can (boltAt d (i : Nat)) (l[i]?.getD 0)
theorem ValidB.okCan {b : Bolt} (h : ValidB b) (s : Int) : okCan b s := by
 intro hw
 simp only [within, Zs, decide_eq_true_eq] at hw
 have := h.st
 exact h.ok66 (by omega)
theorem P35 (d : Dome) (l : List Int) (hv : Valid d) : PureCall Try.prog 37 [.ag (eDome d), .sl 1 (l.map eI)] (.b (isTruth d l)) := by
 refine pure_body okU1 hmix Try.func37 cb37 cc37 cs37 cn37 ?_
 have hnb := hv.nb
 simp only [rc37, rs37, ru_skip, ru_reg, ru_seq, ru_cnd, ite_P, ru_block, ru_ret, ru_keep, thenQ, run_nil, run_cons, Fam.step, stepQ, evO, opv, qv, binV, ldV, lenV, V.cells, solid, hasRef, hasRefL, upd_some, lkp_cons, lkp_nil, ↓reduceIte, Nat.reduceEqDiff, Nat.reduceAdd, Nat.reduceLeDiff, Qb, Qe, Qc, Qd, Qn, Qj, endQ, rvs, rv1, resV, vw_i, vw_b, vw_sl, vw_ag, zipA, Qi, V.b.injEq, Qs, Qa, decide_eq_false_iff_not, true_and, and_self, reduceCtorEq, Zd, Qq, Classical.not_not, eDome]
 refine ⟨fun h => ?_, fun h => ?_⟩
 ·have : ¬ l.length = d.bolts.length := by omega
  simp [isTruth, this]
 have hl : l.length = d.bolts.length := by omega
 refine ru_countC l.length (fun i => ⟨lkp [(1, .sl 1 (l.map eI)), (2, .pa (eDome d)), (5, .i i)], []⟩) (fun i => (Zm i).all (fun i => can (boltAt d (i : Nat)) (l[i]?.getD 0)) = true) ?_ ?_ ?_ ?_
 ·simp only [Q9, kp, lkp_cons, lkp_nil, ↓reduceIte, Nat.reduceEqDiff, Qb, Qe, eDome]
 ·rfl
 ·intro i hi hC
  obtain ⟨x, hx⟩ : ∃ x, l[i]? = some x := ⟨_, Qr hi⟩
  obtain ⟨b, hb⟩ : ∃ b, d.bolts[i]? = some b := ⟨_, Qr (by omega)⟩
  have hba : boltAt d (i : Nat) = b := by simp [boltAt, hb]
  have hlt : (i : Int) < l.length := by omega
  have hlt2 : (i : Int) < d.bolts.length := by omega
  have h3 : inI ((i : Int) + 1) := by unfold inI; omega
  have hoc := (hv.bolts b (Q4 hb)).okCan x
  simp only [hx, hb, hlt, hlt2, h3, gU49, hoc, Q5, Za, ru_skip, ru_reg, ru_any, ru_seq, ru_cnd, ite_P, ru_block, ru_ret, ru_keep, putBs, thenQ, blockQ, run_nil, run_cons, Fam.step, stepQ, runX, eff, nextD, fpR, fpQ, fpV, disjB, hits, evO, opv, qv, binV, ldV, iadV, lenV, callV, hasRef, hasRefL, flat, kp, upd_some, lkp_cons, lkp_nil, ↓reduceIte, Nat.reduceEqDiff, Nat.reduceAdd, Nat.reduceLT, Nat.reduceLeDiff, Qb, Qe, Q2, Qc, Qd, Qn, Qg, Qw, Qj, Qh, Qk, Qm, Zg, Qt, Zl, Qz, Zi, endQ, rvs, rv1, resV, vw_i, vw_b, vw_sl, vw_ag, Q7, Qi, V.b.injEq, Qx, Zf, Zo, Qs, Zp, Zk, Qa, decide_true, true_and, and_true, and_self, implies_true, Q6, Zv, Zj, Zd, Qq, Zc, Qp, Q1, Xk, spanE, boltE, eBolt, eDome, eI]
  refine ⟨fun hc => ?_, fun hc => ?_⟩
  ·have e : (Zm l.length).all (fun i => can (boltAt d (i : Nat)) (l[i]?.getD 0)) = false := all_range_false hi (by rw [hba, hx]; exact hc)
   simp [isTruth, e]
  ·exact all_range_succ hC (by rw [hba, hx]; exact hc)
 ·intro hC
  simp only [ru_reg, ru_seq, ru_cnd, ru_exit, ru_ret, ru_keep, thenQ, blockQ, run_nil, run_cons, Fam.step, stepQ, evO, opv, qv, binV, lenV, upd_some, lkp_cons, lkp_nil, ↓reduceIte, Nat.reduceEqDiff, Qb, Qe, endQ, rvs, rv1, resV, vw_b, Zq, V.b.injEq, Qa, decide_false, true_and, and_self, Qq, eDome]
  simp [isTruth, hl]
  simpa [hl] using hC
end Go.C02
set_option linter.unusedSimpArgs false
set_option linter.unusedVariables false
namespace Go.C02
open Go.Fam Go.Proofs
def eDL (a : Dome × List Int) : List V := [.ag (eDome a.1), .sl 1 (a.2.map eI)]
def dDL : List V → Dome × List Int | [.ag cs, .sl _ l] => (dDome cs, l.map dI) | _ => (D0, [])
theorem dDL_e (a : Dome × List Int) : dDL (eDL a) = a := by simp [dDL, eDL, dDome_e, Function.comp_def, dI_eI]
def r35 : List V → Prop × V := fnG eDL dDL (fun a => Valid a.1) (fun a => isTruth a.1 a.2) .b
noncomputable def GU : Gam := GU1.ext 37 r35
theorem okU : GOk Try.prog GU := okU1.ext (f := 37) (r := r35) (fun a w => Try.call37 a w) (fnG_ok fun a h => P35 a.1 a.2 h)
section
variable (b : List Bolt) (g : List Int) (l : Int) (r : List Span) (w : List Int) (s n m : Int) (x : List Int)
end
end Go.C02
set_option linter.unusedSimpArgs false
set_option linter.unusedVariables false
namespace Go.C02
open Go.Fam Go.Proofs
def bigN : Int := 1073741824
def minTo (f : Int → Int) : List Int → Int → Int
 | [], m => m
 | o :: l, m => minTo f l (min m (f o))
def entry (d : Dome) (r : Nat) (old : List Int) (w : Int) : Int :=
 if within w (lowAt d r) (highAt d r) then (if r = 0 then w else minTo (fun o => (old[o.toNat]?.getD 0) + w) (ints (max 0 (w - d.slope)) (min 2000 (w + d.slope))) bigN) else bigN
structure Feas (d : Dome) (k : Nat) (c : Nat → Int) : Prop where
 bd : ∀ r : Nat, r < k → lowAt d r ≤ c r ∧ c r ≤ highAt d r
 sl : ∀ r : Nat, r + 1 < k → -d.slope ≤ c (r + 1) - c r ∧ c (r + 1) - c r ≤ d.slope
theorem Feas.range {d : Dome} (hl : 0 ≤ d.loss) {k : Nat} {c : Nat → Int} (h : Feas d k c) {r : Nat} (hr : r < k) : 0 ≤ c r ∧ c r ≤ 2000 := by
 have := h.bd r hr
 have := lowAt_range d r hl
 have := highAt_range d r hl
 omega
def away (d : Dome) (r j : Nat) : Int := lowAt d j - d.slope * max ((r : Int) - j) ((j : Int) - r)
theorem need_le {d : Dome} {r : Nat} {x : Int} : ∀ k : Nat, needTo d r k ≤ x ↔ lowAt d r ≤ x ∧ ∀ j, j < k → away d r j ≤ x
 | 0 => by simp [needTo]
 | k + 1 => by
  rw [needTo_succ]
  have ih := need_le (d := d) (r := r) (x := x) k
  have : max (needTo d r k) (lowAt d k - d.slope * max ((r : Int) - k) ((k : Int) - r)) ≤ x ↔ needTo d r k ≤ x ∧ away d r k ≤ x := by unfold away; omega
  rw [this, ih]
  constructor
  ·rintro ⟨⟨h1, h2⟩, h3⟩
   refine ⟨h1, fun j hj => ?_⟩
   by_cases h : j < k
   ·exact h2 j h
   ·have : j = k := by omega
    exact this ▸ h3
  ·rintro ⟨h1, h2⟩
   exact ⟨⟨h1, fun j hj => h2 j (by omega)⟩, h2 k (by omega)⟩
theorem Feas.far {d : Dome} (hs : 0 ≤ d.slope) {n : Nat} {c : Nat → Int} (h : Feas d n c) : ∀ (m r : Nat), r + m < n → c (r + m) - c r ≤ d.slope * m ∧ c r - c (r + m) ≤ d.slope * m
 | 0, r, _ => by simp
 | m + 1, r, hr => by
  have h1 := h.far hs m r (by omega)
  have h2 := h.sl (r + m) (by omega)
  rw [Q5, Int.mul_add]
  rw [show r + (m + 1) = r + m + 1 by omega]
  omega
theorem Feas.need {d : Dome} (hs : 0 ≤ d.slope) {n : Nat} {c : Nat → Int} (h : Feas d n c) {r : Nat} (hr : r < n) : needTo d r n ≤ c r := by
 rw [need_le]
 refine ⟨(h.bd r hr).1, fun j hj => ?_⟩
 have h1 := (h.bd j hj).1
 unfold away
 by_cases hjr : j ≤ r
 ·have h2 := (h.far hs (r - j) j (by omega)).2
  rw [show j + (r - j) = r by omega] at h2
  rw [show max ((r : Int) - j) ((j : Int) - r) = ((r - j : Nat) : Int) by omega]
  omega
 ·have h2 := (h.far hs (j - r) r (by omega)).1
  rw [show r + (j - r) = j by omega] at h2
  rw [show max ((r : Int) - j) ((j : Int) - r) = ((j - r : Nat) : Int) by omega]
  omega
theorem Feas.fits {d : Dome} (hs : 0 ≤ d.slope) {n : Nat} {c : Nat → Int} (h : Feas d n c) : fitsAll d n n = true := by
 simp only [fitsAll, Xn, Z0, decide_eq_true_eq]
 intro r hr
 exact Int.le_trans (h.need hs hr) (h.bd r hr).2
end Go.C02
set_option linter.unusedSimpArgs false
set_option linter.unusedVariables false
namespace Go.C02
open Go.Fam Go.Proofs
def tr : List (List Int) → List Int → List (List Int)
 | [], f => [f]
 | c :: cs, f => c.flatMap fun x => tr cs (f ++ [x])
def truthsOf (d : Dome) (f : List Int) : List (List Int) := tr ((cansOf d).drop f.length) f
theorem tr_len : ∀ (cs : List (List Int)) (f : List Int), (∀ c ∈ cs, c.length ≤ 61) → (tr cs f).length ≤ 61 ^ cs.length
 | [], _, _ => by simp [tr]
 | c :: cs, f, h => by
  simp only [tr, List.length_flatMap, Qc, Nat.pow_succ]
  have h1 := h c (by simp)
  have : ∀ l : List Int, (l.map fun x => (tr cs (f ++ [x])).length).sum ≤ l.length * 61 ^ cs.length := by
   intro l
   induction l with
   | nil => simp
   | cons x l ih =>
    have := tr_len cs (f ++ [x]) fun c hc => h c (by simp [hc])
    simp only [Qb, Xp, Qc, Xd]
    omega
  have := this c
  have := X4 (61 ^ cs.length) h1
  rw [Nat.mul_comm (61 ^ cs.length)]
  omega
theorem cans_len {d : Dome} (hv : Valid d) : ∀ c ∈ cansOf d, c.length ≤ 61 := by
 intro c hc
 obtain ⟨b, hb, rfl⟩ := Xe.1 hc
 exact numbersOf_len (hv.bolts b hb)
theorem truths_len {d : Dome} (hv : Valid d) (f : List Int) : (truthsOf d f).length ≤ 20000000 := by
 have h1 := tr_len ((cansOf d).drop f.length) f fun c hc => cans_len hv c (List.mem_of_mem_drop hc)
 have h2 : ((cansOf d).drop f.length).length ≤ 4 := by
  have := hv.nb
  simp only [List.length_drop, cansOf, Qq]
  omega
 have h3 : 61 ^ ((cansOf d).drop f.length).length ≤ 61 ^ 4 := Xc (by decide) h2
 unfold truthsOf
 have : 61 ^ 4 ≤ 20000000 := by decide
 omega
def eTr (l : List (List Int)) : V := .sl 1 (l.map eCan)
theorem PureCall.toOwn {P : Program} {f : Nat} {vs : List V} {r : V} (h : PureCall P f vs r) : OwnCall P f vs r [] := fun S w cargs hS hsz hr =>
 (h S w cargs hS hsz hr).mono fun e w' ⟨c, he, hev, hrep⟩ => ⟨c, Sfr S w w', noO, he, hev,
  ⟨fun n hn => hn.elim (fun hn => Nat.lt_of_lt_of_le (hS n hn) hev.size) (fun hn => hn.2), fun _ _ _ h => (nomatch h), fun _ _ _ _ _ h _ => (nomatch h), fun _ _ _ h => (nomatch h)⟩, hrep⟩
def r65 : List V → Prop × V := fnG (fun b => [.ag (eBolt b)]) dB ValidB numbersOf eIs
noncomputable def GV : Gam := GU.ext 106 r65
theorem okV : GOk Try.prog GV := by
 have k1 := okU.ext (f := 106) (r := r65) (fun a w => Try.call106 a w) (fnG_ok fun a h => P65 a h)
 exact k1
def ok55 (a : Dome × List Int) : Prop := Valid a.1 ∧ a.2.length ≤ a.1.bolts.length
def r55o (k : Nat) : List V → Prop × V := fnG eDL dDL (fun a => ok55 a ∧ a.1.bolts.length - a.2.length ≤ k) (fun a => a) (fun a => .tp [eTr (truthsOf a.1 a.2), .tp []])
noncomputable def G55 (k : Nat) : Gam := GV.ext 1000119 (r55o k)
theorem drop_succ_of {α : Type} {l : List α} {i : Nat} {x : α} (h : l[i]? = some x) : l.drop i = x :: l.drop (i + 1) := by
 obtain ⟨hi, rfl⟩ := List.getElem?_eq_some_iff.1 h
 exact Xf hi
theorem truths_full {d : Dome} {f : List Int} (h : f.length = d.bolts.length) : truthsOf d f = [f] := by
 unfold truthsOf
 rw [List.drop_eq_nil_of_le (by simp [cansOf, h])]
 rfl
def trTo (d : Dome) (f : List Int) (c : List Int) (i : Nat) : List (List Int) := (c.take i).flatMap fun x => truthsOf d (f ++ [x])
theorem truths_step {d : Dome} {f : List Int} {b : Bolt} (h : d.bolts[f.length]? = some b) : truthsOf d f = trTo d f (numbersOf b) (numbersOf b).length := by
 have h1 : (cansOf d)[f.length]? = some (numbersOf b) := by simp [cansOf, h]
 unfold truthsOf
 rw [drop_succ_of h1]
 simp only [tr, trTo, Zt, truthsOf, Ze, Qc, Qd, Qi]
theorem trTo_succ {d : Dome} {f c : List Int} {i : Nat} {x : Int} (h : c[i]? = some x) : trTo d f c (i + 1) = trTo d f c i ++ truthsOf d (f ++ [x]) := by
 simp [trTo, take_succ_of h]
theorem flatMap_len_le {α β : Type} (g : α → List β) {M : Nat} : ∀ (l : List α), (∀ x ∈ l, (g x).length ≤ M) → (l.flatMap g).length ≤ l.length * M
 | [], _ => by simp
 | x :: l, h => by
  have := flatMap_len_le g l fun y hy => h y (by simp [hy])
  have := h x (by simp)
  simp only [Xl, Ze, Qc, Xd]
  omega
theorem gU65 (a b : Int) (l : List Strip) (w : Int) (k : Nat) : G55 k 106 [.ag [.i a, .i b, .sl 3 (l.map eStrip), .i w]] = (ValidB ⟨⟨a, b⟩, l, w⟩, eIs (numbersOf ⟨⟨a, b⟩, l, w⟩)) :=
 (show G55 k 106 _ = r65 [.ag (eBolt ⟨⟨a, b⟩, l, w⟩)] from rfl).trans (fnG_at (e := fun b => [.ag (eBolt b)]) _ (by simp [dB, dBolt_e]))
theorem g55 (k : Nat) (b : List Bolt) (g : List Int) (l : Int) (r : List Span) (w : List Int) (s : Int) (x : List Int) : G55 k 1000119 [.ag [.sl 4 (b.map eBolt), .sl 1 (g.map eI), .i l, .sl 2 (r.map eSpan), .sl 1 (w.map eI), .i s], .sl 1 (x.map eI)] =
  (ok55 (⟨b, g, l, r, w, s⟩, x) ∧ b.length - x.length ≤ k, .tp [eTr (truthsOf ⟨b, g, l, r, w, s⟩ x), .tp []]) :=
 (show G55 k 1000119 _ = r55o k (eDL (⟨b, g, l, r, w, s⟩, x)) from rfl).trans (fnG_at _ (dDL_e _))
theorem flat_app {α : Type} (e : α → List V) (a b : List α) : ((a ++ b).map e).flatten = (a.map e).flatten ++ (b.map e).flatten := by simp
theorem chunk_Is (f : List Int) (x : Int) : chunk 1 ((f.map eI).flatten ++ [.i x]) 0 (f.length + 1) = (f ++ [x]).map eI := by
 have := chunk_I (f ++ [x])
 simpa [flat_snoc, eI] using this
set_option maxHeartbeats 2000000 in
theorem P55 : ∀ (k : Nat) (d : Dome) (f : List Int), ok55 (d, f) → d.bolts.length - f.length ≤ k → PureCall Try.prog 119 (eDL (d, f)) (eTr (truthsOf d f)) := by
 intro k
 induction k with
 | zero =>
  intro d f h hk
  obtain ⟨hv, hf⟩ := h
  have hl : f.length = d.bolts.length := by simp only at hf; omega
  refine pure_body okV hmix Try.func119 cb119 cc119 cs119 cn119 ?_
  simp only [rc119, rs119, eDL, eTr, truths_full hl, hl, ru_reg, ru_seq, ru_cnd, ru_ret, ru_keep, chunk1, thenQ, run_nil, run_cons, Fam.step, stepQ, evO, opv, qv, binV, ldV, lenV, foldParts, putAt, partsOk, partsOne, V.cells, solid, cellOk, hasRef, hasRefL, upd_some, lkp_cons, lkp_nil, ↓reduceIte, Nat.reduceEqDiff, Nat.reduceAdd, Nat.reduceMul, Nat.reduceLeDiff, Qb, Qe, Q0, Q2, Qc, Qd, Qn, Qg, Qu, Qj, Qh, Qk, Qz, Q8, endQ, rvs, rv1, resV, vw_i, vw_sl, vw_ag, zipA, Qi, Qx, Qs, Qa, decide_true, and_self, reduceCtorEq, not_false_eq_true, ne_eq, Qq, eDome, eCan]
 | succ k ih =>
  intro d f h hk
  have hok : GOk Try.prog (G55 k) := okV.extO (f := 119) (r := r55o k) (fun a w => Try.call119 a w) (fnO_ok (hp := fun _ => []) (fun _ => rfl) fun a h => PureCall.toOwn (ih a.1 a.2 h.1 h.2))
  obtain ⟨hv, hf⟩ := h
  have hv : Valid d := hv
  have hf : f.length ≤ d.bolts.length := hf
  refine pure_body hok hmix Try.func119 cb119 cc119 cs119 cn119 ?_
  by_cases hl : f.length = d.bolts.length
  ·simp only [rc119, rs119, eDL, eTr, truths_full hl, hl, ru_reg, ru_seq, ru_cnd, ru_ret, ru_keep, chunk1, thenQ, run_nil, run_cons, Fam.step, stepQ, evO, opv, qv, binV, ldV, lenV, foldParts, putAt, partsOk, partsOne, V.cells, solid, cellOk, hasRef, hasRefL, upd_some, lkp_cons, lkp_nil, ↓reduceIte, Nat.reduceEqDiff, Nat.reduceAdd, Nat.reduceMul, Nat.reduceLeDiff, Qb, Qe, Q0, Q2, Qc, Qd, Qn, Qg, Qu, Qj, Qh, Qk, Qz, Q8, endQ, rvs, rv1, resV, vw_i, vw_sl, vw_ag, zipA, Qi, Qx, Qs, Qa, decide_true, and_self, reduceCtorEq, not_false_eq_true, ne_eq, Qq, eDome, eCan]
  have hnb := hv.nb
  obtain ⟨b, hb⟩ : ∃ b, d.bolts[f.length]? = some b := ⟨_, Qr (by omega)⟩
  have hvb := hv.bolts b (Q4 hb)
  have hnl := numbersOf_len hvb
  have hli : ¬ (f.length : Int) = d.bolts.length := by omega
  have hlt : (f.length : Int) < d.bolts.length := by omega
  simp only [rc119, rs119, eDL, eTr, hli, hlt, hb, gU65, hvb, eIs, ru_skip, ru_reg, ru_seq, ru_cnd, ru_block, ru_keep, ru_own, thenQ, run_nil, run_cons, Fam.step, stepQ, evO, opv, qv, binV, ldV, iadV, lenV, callV, V.cells, solid, hasRef, hasRefL, flat, upd_some, lkp_cons, lkp_nil, ↓reduceIte, Nat.reduceEqDiff, Nat.reduceAdd, Nat.reduceLT, Nat.reduceLeDiff, Qb, Qe, Qc, Qd, Qn, Qg, Qw, Qj, Qk, Qm, Qt, vw_i, vw_sl, vw_ag, zipA, Q7, Qi, Qs, Qa, decide_false, true_and, and_self, reduceCtorEq, Q6, imp_self, Qq, Zc, Qp, Q1, spanE, boltE, eBolt, eDome, eIs]
  refine ru_count (numbersOf b).length (fun i => ⟨lkp [(1, .sl 1 (f.map eI)), (2, .pa (eDome d)), (5, .rf 0 i 0 (trTo d f (numbersOf b) i).length 1), (6, .sl 1 ((numbersOf b).map eI)), (7, .i i)],
   [.cells i ((trTo d f (numbersOf b) i).map eCan).flatten]⟩) ?_ ?_ ?_
  ·simp only [Q9, trTo, List.flatMap_nil, Q3, cutH, kp, cutV, cutL, cutB, lkp_cons, lkp_nil, ↓reduceIte, Nat.reduceEqDiff, Nat.reduceLT, Qb, Qe, Qd, Qg, Qu, Qw, eDome]
  ·intro i hi
   obtain ⟨x, hx⟩ : ∃ x, (numbersOf b)[i]? = some x := ⟨_, Qr hi⟩
   have hlt2 : (i : Int) < (numbersOf b).length := by omega
   have h3 : inI ((i : Int) + 1) := by unfold inI; omega
   have h55 : ok55 (d, f ++ [x]) ∧ d.bolts.length - (f ++ [x]).length ≤ k := by
    refine ⟨⟨hv, ?_⟩, ?_⟩ <;> simp only [Ze, Qc, Qd] <;> omega
   have f1 : fitsLen (0 + f.length) := by unfold fitsLen; omega
   have f2 : fitsLen (f.length + 1) := by unfold fitsLen; omega
   have f3 : fitsLen ((trTo d f (numbersOf b) i).length + (truthsOf d (f ++ [x])).length) := by
    have a1 : (trTo d f (numbersOf b) i).length ≤ ((numbersOf b).take i).length * 20000000 := flatMap_len_le (fun x => truthsOf d (f ++ [x])) ((numbersOf b).take i) fun y _ => truths_len hv (f ++ [y])
    have a2 : ((numbersOf b).take i).length ≤ 61 := Z5 (Zy _ _) (by omega)
    have a3 := truths_len hv (f ++ [x])
    have a4 := X4 20000000 a2
    unfold fitsLen
    omega
   simp only [hlt2, hx, h3, g55, h55, trTo_succ hx, f2, f3, len_I, len_C, chunk_Is, eTr, Q5, Za, Zw, Ze, flat_app, noref_I, hasRefL_append, Q3, Zb, Zn, vw_I, cutL_append, cutL_noref _ _ _ (noref_C _), ru_skip, ru_reg, ru_any, ru_seq, ru_cnd, ru_block, ru_keep, ru_drp, chunk1, ↓cut_lkp, effO, killL, putBs, optL, rids, ridsL, leafB, kill1, rflat, cutH, thenQ, blockQ, run_nil, run_cons, Fam.step, stepQ, needW, runX, eff, nextD, fpR, fpQ, fpV, disjB, hits, nv, sv, newsV, evO, opv, qv, binV, ldV, iadV, lenV, foldParts, putAt, partsOk, partsOne, V.cells, solid, cellOk, hasRef, hasRefL, kp, cutV, cutL, cutB, upd_some, lkp_cons, lkp_nil, ↓reduceIte, Nat.reduceEqDiff, Nat.reduceAdd, Nat.reduceLT, Qb, Qe, Q0, Q2, Qc, Qd, Ql, Zh, Qg, Qu, Qw, Qj, Qh, Qk, Qm, Qf, Qo, Zg, Qt, Zl, Qv, Qy, Qz, Q8, Zi, Zx, vw_i, vw_sl, vw_ag, vw_rf, Q7, Qi, Zr, Qx, Zf, Xh, Zo, Xb, Qs, Z8, Bool.or_true, Zp, Zk, Qa, decide_true, true_and, and_true, and_self, reduceCtorEq, not_false_eq_true, ne_eq, Q6, Z9, Zv, Zu, Zj, X7, Qq, Zc, Qp, Q1, domeE, eDome, eI]
   exact ⟨by unfold fitsLen; omega, by omega⟩
  ·have hgt : ¬ (((numbersOf b).length : Int) < (numbersOf b).length) := by omega
   simp only [hgt, len_C, Zw, Zn, chunk_C, vw_C, truths_step hb, ru_reg, ru_seq, ru_cnd, ru_exit, ru_ret, ru_keep, thenQ, blockQ, run_nil, run_cons, Fam.step, stepQ, evO, opv, qv, binV, lenV, upd_some, lkp_cons, lkp_nil, ↓reduceIte, Nat.reduceEqDiff, Qb, Qe, Qf, endQ, rvs, rv1, resV, vw_rf, Qi, Qa, decide_false, and_self, Qq, eDome]
end Go.C02
set_option linter.unusedSimpArgs false
set_option linter.unusedVariables false
namespace Go.C02
open Go.Fam Go.Proofs
theorem tr_empty : ∀ (cs : List (List Int)) (f : List Int), (tr cs f).isEmpty = cs.any Z6
 | [], _ => rfl
 | c :: cs, f => by
  simp only [tr, Z9]
  cases c with
  | nil => rfl
  | cons x c =>
   simp only [Zx, Z8]
   rw [← tr_empty cs (f ++ [x])]
   cases h : tr cs (f ++ [x]) with
   | nil =>
    have h1 : cs.any Z6 = true := by rw [← tr_empty cs (f ++ [x]), h]; rfl
    have : ∀ y ∈ c, tr cs (f ++ [y]) = [] := fun y _ => by
     have := tr_empty cs (f ++ [y])
     rw [h1] at this
     simpa using this
    simp only [Xl, h, Qk, Zi, List.isEmpty_iff, List.flatMap_eq_nil_iff]
    exact this
   | cons y l => simp [Xl, h]
theorem truths_empty (d : Dome) : (truthsOf d []).isEmpty = (cansOf d).any Z6 := tr_empty _ _
theorem Good.truths {d : Dome} (h : Good d) : truthsOf d [] ≠ [] := by
 have h1 := truths_empty d
 have h2 := h.pitch true
 intro he
 rw [he] at h1
 simp [pitchE, h.c, ← h1] at h2
def vT (d : Dome) (is : Bool) : List (List Int) := if pitchE d is = 0 then truthsOf d [] else []
end Go.C02
