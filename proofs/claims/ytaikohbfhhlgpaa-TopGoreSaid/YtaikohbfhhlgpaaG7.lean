import Derived.Test.YtaikohbfhhlgpaaG6
import Derived.Test.YtaikohbfhhlgpaaG4
import Derived.Test.YtaikohbfhhlgpaaChecked
set_option linter.all false
open List renaming map_cons → Qb, map_nil → Qc, getElem?_cons_zero → Qd, take_succ_cons → Qe, getD_eq_getElem?_getD → Qf, length_cons → Qg, length_nil → Qh, nil_append → Qi, cons_append → Qj, drop_succ_cons → Qk, getElem?_cons_succ → Ql, append_nil → Qn, length_map → Qo, headD_cons → Qp, drop_zero → Qq, take_zero → Qr, take_nil → Qs, getElem?_eq_getElem → Qu, set_cons_zero → Qx, getElem?_map → Qz, all_cons → Q0, replicate_zero → Q2, all_nil → Q3, mem_of_getElem? → Q6, set_cons_succ → Q7, getElem?_nil → Q8, replicate_succ → Zd, take_length → Zf, contains_nil → Zg, length_append → Zh, drop_nil → Zi, isEmpty_nil → Zk, mem_map → Zp, any_nil → Zs, replicate → Zt, getElem?_append_right → Zu, contains_cons → Zv, range → Zx, all_eq_true → Zy, flatten_nil → Zz, append_assoc → Z0, take_of_length_le → Z5, map_append → Z6, mem_append → Z7, flatten_cons → Z8, foldl_append → Z9, mem_range → Xb, filter_eq_self → Xf, mem_filter → Xh, length_take → Xl, sum_append → Xn, mem_singleton → Xq, getElem?_append_left → Xs, isEmpty_cons → Xt, getElem_mem → Xu, sum_nil → Xv, range_succ → Xw, length_filter_le → Xy, flatten_append → X1, any_cons → X3, sum_cons → X4, filter_append → X5, length_range → X8, filter_congr → X9, drop_append → Ja, drop → Jb, mem_reverse → Jc, filter_nil → Jg, range_zero → Ji, take_left' → Jj, nil_prefix → Jk, drop_left → Jl, cons → Jm
open Nat renaming zero_add → Qm, le_refl → Zq, add_zero → Zr, mul_one → Z3, sub_self → Xe, add_sub_cancel → Xi, mod_eq_of_lt → Jd, min_eq_left → Jh
open Bool renaming false_eq_true → Qa, or_false → Qv, and_self → Qw, and_true → Q5, not_true → Zc, not_false → Ze, true_eq_false → Zl, false_and → Zn, not_eq_true' → Zw, not_eq_true → Z1, and_eq_true → Z2, not_eq_false' → Z4, and_false → Xc, true_and → Xg, or_eq_false_iff → Xm, decide_eq_true → Xo, decide_eq_false → Xz, false_or → X2, eq_false_iff → X6, not_eq_false → X7, or_eq_true → Je
open Option renaming getD_some → Qt, map_some → Q9, getD_none → Zj
open Int renaming natCast_zero → Qy, natCast_one → Q1, toNat_natCast → Q4, natCast_nonneg → Za, natCast_add → Zb, tdiv_eq_ediv_of_nonneg → Zm, lt_irrefl → Zo, emod_sub_emod → Xa, tmod_eq_emod_of_nonneg → Xd, sub_emod_emod → Xj, emod_eq_of_lt → Xk, emod_lt_of_pos → Xp, toNat_zero → Xr, emod_nonneg → Xx, mul_nonneg → X0, natCast_inj → Jf
set_option linter.unusedSimpArgs false
set_option linter.unusedVariables false
namespace Go.C02
open Go.Fam Go.Proofs
theorem Qpl {α : Type} {p : α → Bool} {l : List α} {i : Nat} {x : α} (hx : l[i]? = some x) : (l.take (i + 1)).all p = ((l.take i).all p && p x) := by
 rw [Qb4 hx, List.all_append]; simp
theorem Ql8 {α : Type} {p : α → Bool} {l : List α} {i : Nat} {x : α} (hx : l[i]? = some x) (h : p x = false) : l.all p = false := by
 rw [X6]; intro h'
 have := Zy.1 h' x (Q6 hx)
 rw [h] at this; cases this
def Qdq (f : Fig) : Bool := Qak f.period 1 60 && Qak f.run 0 2000 && Qak f.near 0 (f.period.tdiv 2) && decide (f.starts.length = f.dome.gores.length) && decide (f.times.length = f.dome.gores.length) &&
 f.starts.all (fun x => Qak x 0 (f.period - 1)) && f.times.all (fun x => Qak x 1 99)
theorem W75 (f : Fig) (h : f.dome.gores.length < 10000000) : Qa9 Try.prog 58 [.ag (eFig f)] (.b (Qdq f)) := by
 refine Qac okH1 hmix Try.func58 cb58 cc58 cs58 cn58 ?_
 simp only [rc58, rs58, h70, Qah, Qa7, Qa8, Qaf, Qc2, Qab, Qag, Qa6, Qad, Qa5, Qa2, Fam.step, Qae, Qbu, Qb8, ug, evO, opv, qv, Qao, binV, ldV, lenV, Qaw, V.cells, Qas, Qaa, Qa4, flat, Qa3, Qa0, Qa1, ↓reduceIte, Nat.reduceEqDiff, Nat.reduceAdd, Nat.reduceLT, Nat.reduceLeDiff, Int.reduceEq, Qb, Qc, Q0, Q3, Qg, Qh, Qk, Qq, Qp, Qn, endQ, rvs, rv1, resV, vw_i, vw_b, Qb3, Qb1, zipA, Qm, V.b.injEq, Qw, Q5, Qv, Qa, true_and, and_true, and_self, implies_true, not_false_eq_true, ne_eq, beq_false, Bool.not_not, Z4, Zw, Qjm, Xo, Xz, imp_self, Qo, Z1, eFig]
 refine ⟨fun e => ⟨e, ?_⟩, fun e => ?_, fun e => ?_⟩
 ·simp only [Xm, Z4, Qak, Z2, decide_eq_true_eq] at e
  rw [Zm (by omega)]
  unfold inI; omega
 ·unfold Qdq
  simp only [Je, Zw, decide_eq_false_iff_not, Jf] at e
  rcases e with (((e | e) | e) | e) | e <;> simp [e]
 simp only [Xm, Z4, decide_eq_true_eq, Jf] at e
 obtain ⟨⟨⟨⟨e1, e2⟩, e3⟩, e4⟩, e5⟩ := e
 have hp : 1 ≤ f.period ∧ f.period ≤ 60 := by simpa only [Qak, Z2, decide_eq_true_eq] using e1
 have hgf : Qdq f = (f.starts.all (fun x => Qak x 0 (f.period - 1)) && f.times.all (fun x => Qak x 1 99)) := by
  simp [Qdq, e1, e2, e3, e4, e5]
 refine Qb5 f.starts.length (fun i => ⟨lkp [(1, .pa (eFig f)), (45, .i f.starts.length), (46, .i i)], []⟩) (fun i => (f.starts.take i).all (fun x => Qak x 0 (f.period - 1)) = true ∧ (f.times.take i).all (fun x => Qak x 1 99) = true) ?_ ?_ ?_ ?_
 ·simp only [Qy, kp, Qa0, Qa1, ↓reduceIte, Nat.reduceEqDiff, Qb, Qc, eFig]
 ·simp
 ·intro i hi hc
  obtain ⟨x, hx⟩ : ∃ x, f.starts[i]? = some x := ⟨_, Qu hi⟩
  obtain ⟨y, hy⟩ : ∃ y, f.times[i]? = some y := ⟨_, Qu (by omega)⟩
  have hlt : (i : Int) < f.starts.length := by omega
  have hlt' : (i : Int) < f.times.length := by omega
  have h3 : inI ((i : Int) + 1) := by unfold inI; omega
  have h4 : inI (f.period - 1) := by unfold inI; omega
  simp only [hx, hy, hlt, hlt', Zb, Q1, Qpl hx, Qpl hy, hc.1, hc.2, h3, h4, h70, Qah, Qa7, Qc6, Qa8, Qaf, Qc2, Qab, Qag, Qa6, Qbe, Qad, Qai, Qa5, Qa2, Fam.step, Qae, Qbu, Qb8, ug, runX, eff, Qbb, fpR, fpQ, fpV, Qcj, hits, evO, opv, qv, Qao, binV, ldV, iadV, Qaw, Qaa, Qa4, flat, kp, Qa3, Qa0, Qa1, ↓reduceIte, Nat.reduceEqDiff, Nat.reduceAdd, Nat.reduceLT, Nat.reduceLeDiff, Qb, Qc, Q0, Q3, Qg, Qh, Qk, Qq, Qp, Qj, Qi, Qn, Q8, Qt, Zj, Q2, Zk, endQ, rvs, rv1, resV, vw_i, vw_b, Za, Qm, V.b.injEq, Qw, Q5, Xg, Zn, Qv, Zc, Ze, Qa, decide_true, true_and, and_true, and_self, implies_true, Q9, Zs, Zg, beq_false, Bool.not_not, Z4, Zw, Qjm, Xz, imp_self, Qo, Q4, Qf, Qz, Z1, eI, eFig]
  refine ⟨fun e => ?_, fun e => ?_⟩
  ·rw [hgf]
   simp only [Je, Zw] at e
   rcases e with e | e
   ·rw [Ql8 hx e]; rfl
   ·rw [Ql8 hy e]; simp
  ·simpa only [Xm, Z4] using e
 ·intro hc
  rw [Zf, e4, ← e5, Zf] at hc
  simp only [Qa7, Qa8, Qaf, Qar, Qag, Qa6, Qad, Qai, Qa5, Qa2, Fam.step, Qae, evO, opv, qv, binV, Qa3, Qa0, Qa1, ↓reduceIte, Nat.reduceEqDiff, Qb, Qc, endQ, rvs, rv1, resV, vw_b, Zo, V.b.injEq, Qa, decide_false, true_and, and_self, eFig]
  simp [hgf, hc]
def s75 : List V → Prop × V := fnG (fun f => [.ag (eFig f)]) (fun vs => match vs with | [.ag r] => dFig r | _ => dFig []) (fun f => f.dome.gores.length < 10000000) Qdq .b
noncomputable def H2 : Gam := H1.ext 58 s75
theorem okH2 : GOk Try.prog H2 := by
 exact okH1.ext (f := 58) (r := s75) (fun a w => Try.call58 a w) (Qb7 fun a h => W75 a h)
theorem h75 (f : Fig) : H2 58 [.ag (eFig f)] = (f.dome.gores.length < 10000000, .b (Qdq f)) :=
 (show H2 58 _ = s75 [.ag (eFig f)] from rfl).trans (Qb9 _ (Qpq _))
theorem h74 (d : Dome) : H2 33 [.ag (Qaj d)] = (True, .i (Qc3 d)) := gJ41 d
def Qbi (f : Fig) : Int := if Qc3 f.dome ≠ 0 then Qc3 f.dome else if Qdq f then 0 else 40
theorem Qoe {d : Dome} (h : Qc3 d = 0) : d.gores.length < 1000 := by
 have := Qe4 h
 have := this.ng
 omega
theorem W41 (f : Fig) : Qa9 Try.prog 46 [.ag (eFig f)] (.i (Qbi f)) := by
 refine Qac okH2 hmix Try.func46 cb46 cc46 cs46 cn46 ?_
 have g1 := h74 f.dome
 have g2 := h75 f
 unfold Qaj at g1
 unfold eFig at g2
 simp only [rc46, rs46, g1, g2, Qah, Qa7, Qa8, Qaf, Qc2, Qag, Qa6, Qad, Qa5, Qa2, Fam.step, Qae, evO, opv, qv, binV, ldV, Qaw, V.cells, Qas, Qaa, Qa4, flat, Qa3, Qa0, Qa1, ↓reduceIte, Nat.reduceEqDiff, Nat.reduceAdd, Nat.reduceLT, Nat.reduceLeDiff, Qb, Qc, Qg, Qh, Qq, Qe, Qr, Qs, Qn, endQ, rvs, rv1, resV, vw_i, Qb3, Qb1, zipA, Qm, V.i.injEq, Qv, Qa, decide_eq_false_iff_not, true_and, and_true, and_self, implies_true, Zw, X7, Classical.not_not, eFig]
 unfold Qbi
 refine ⟨fun e => by rw [if_pos e], fun e => ⟨by have := Qoe e; omega, fun e2 => ?_, fun e2 => ?_⟩⟩ <;> simp [e, e2]
structure ValidF (f : Fig) : Prop where
 dome : Valid f.dome
 period : 1 ≤ f.period ∧ f.period ≤ 60
 run : 0 ≤ f.run ∧ f.run ≤ 2000
 near : 0 ≤ f.near ∧ f.near ≤ f.period / 2
 ns : f.starts.length = f.dome.gores.length
 nt : f.times.length = f.dome.gores.length
 starts : ∀ x ∈ f.starts, 0 ≤ x ∧ x < f.period
 times : ∀ x ∈ f.times, 1 ≤ x ∧ x ≤ 99
theorem Qdh {f : Fig} (h : Qbi f = 0) : ValidF f := by
 unfold Qbi at h
 split at h
 ·rename_i h1; exact absurd h h1
 ·rename_i h1
  split at h
  ·rename_i h2
   have h1 : Qc3 f.dome = 0 := by omega
   simp only [Qdq, Qak, Z2, decide_eq_true_eq, Zy] at h2
   obtain ⟨⟨⟨⟨⟨⟨e1, e2⟩, e3⟩, e4⟩, e5⟩, e6⟩, e7⟩ := h2
   rw [Zm (by omega)] at e3
   exact ⟨Qe4 h1, e1, e2, e3, e4, e5, fun x hx => by have := e6 x hx; omega, e7⟩
  ·cases h
end Go.C02
set_option linter.unusedSimpArgs false
set_option linter.unusedVariables false
namespace Go.C02
open Go.Fam Go.Proofs
def eRNN (a : Ring × Int × Int) : List V := [.pa (Qbk a.1), .i a.2.1, .i a.2.2]
def dRNN : List V → Ring × Int × Int | [.pa r, .i n, .i m] => (Qn0 r, n, m) | _ => (Qn0 [], 0, 0)
theorem Qxp (a : Ring × Int × Int) : dRNN (eRNN a) = a := by obtain ⟨r, n, m⟩ := a; simp [dRNN, eRNN, Qok]
def s104 : List V → Prop × V := fnG eRNN dRNN (fun a => (0 < a.1.fig.period ∧ a.1.fig.period ≤ 1000000) ∧ tame 1000000 a.2.1 ∧ tame 1000000 a.2.2) (fun a => farN a.1.fig.period a.2.1 a.2.2) .i
noncomputable def H3 : Gam := (H2.ext 74 s104).ext 46 (fnG (fun f => [.ag (eFig f)]) (fun vs => match vs with | [.ag r] => dFig r | _ => dFig []) (fun _ => True) Qbi .i)
theorem okH3 : GOk Try.prog H3 := by
 have k1 := okH2.ext (f := 74) (r := s104) (fun a w => Try.call74 a w) (Qb7 fun a h => W104 a.1 a.2.1 a.2.2 h.1 h.2.1 h.2.2)
 exact k1.ext (f := 46) (fun a w => Try.call46 a w) (Qb7 fun a h => W41 a)
theorem h104 (r : Ring) (a b : Int) : H3 74 [.pa (Qbk r), .i a, .i b] = ((0 < r.fig.period ∧ r.fig.period ≤ 1000000) ∧ tame 1000000 a ∧ tame 1000000 b, .i (farN r.fig.period a b)) :=
 (show H3 74 _ = s104 (eRNN (r, a, b)) from rfl).trans (Qb9 _ (Qxp _))
theorem h41 (f : Fig) : H3 46 [.ag (eFig f)] = (True, .i (Qbi f)) :=
 (show H3 46 _ = fnG (fun f => [.ag (eFig f)]) (fun vs => match vs with | [.ag r] => dFig r | _ => dFig []) (fun _ => True) Qbi .i [.ag (eFig f)] from rfl).trans (Qb9 _ (Qpq _))
structure OkR (r : Ring) : Prop where
 period : 1 ≤ r.fig.period ∧ r.fig.period ≤ 60
 near : 0 ≤ r.fig.near ∧ r.fig.near ≤ r.fig.period / 2
 len : 3 ≤ r.moves.length ∧ r.moves.length ≤ 16
 ns : r.fig.starts.length = r.moves.length
 starts : ∀ x ∈ r.fig.starts, 0 ≤ x ∧ x < r.fig.period
 moves : ∀ l ∈ r.moves, l.length < 1000 ∧ ∀ x ∈ l, 0 ≤ x ∧ x < r.fig.period
def Qh6 (p : Int) (ms : List Int) (later near : Int) : Nat := (ms.filter fun n => decide (farN p n later ≤ near)).length
def Qdb (p : Int) (ms : List Int) (later near : Int) : Int := if Qh6 p ms later near = ms.length then 1 else if Qh6 p ms later near = 0 then 2 else 3
def Qca (r : Ring) (seam : Int) : List Int := r.moves[seam.toNat]?.getD []
theorem Qrd {p later near : Int} {ms : List Int} {i : Nat} {x : Int} (hx : ms[i]? = some x) :
  Qh6 p (ms.take (i + 1)) later near = if farN p x later ≤ near then Qh6 p (ms.take i) later near + 1 else Qh6 p (ms.take i) later near := by
 unfold Qh6
 rw [Qb4 hx, X5, Zh]
 by_cases h : farN p x later ≤ near <;> simp [h]
theorem Qqb (p : Int) (ms : List Int) (later near : Int) : Qh6 p ms later near ≤ ms.length := Xy _ _
theorem W83 (r : Ring) (seam later near : Int) (h : OkR r) (hs : 0 ≤ seam ∧ seam < r.moves.length) (hl : tame 1000000 later) :
  Qa9 Try.prog 60 [.pa (Qbk r), .i seam, .i later, .i near] (.i (Qdb r.fig.period (Qca r seam) later near)) := by
 refine Qac okH3 hmix Try.func60 cb60 cc60 cs60 cn60 ?_
 obtain ⟨ms, hms⟩ : ∃ ms, r.moves[seam.toNat]? = some ms := ⟨_, Qu (by omega)⟩
 obtain ⟨hml, hmx⟩ := h.moves ms (Q6 hms)
 have hm0 : Qca r seam = ms := by simp [Qca, hms]
 rw [hm0]
 simp only [rc60, rs60, hms, hs.1, hs.2, Qa7, Qa8, Qab, Qa6, Qad, Qa5, Qa2, Fam.step, Qae, evO, opv, qv, ldV, iadV, lenV, Qa3, Qa0, Qa1, ↓reduceIte, Nat.reduceEqDiff, Nat.reduceAdd, Nat.reduceLeDiff, Qb, Qc, Qg, Qh, Qk, Qq, Qp, Qt, zipA, Qm, Qa, true_and, and_self, reduceCtorEq, Q9, Qo, Qf, Qz, eCan, Qbk]
 refine Qb5 ms.length (fun i => ⟨lkp [(0, .pa (Qbk r)), (1, .i seam), (2, .i later), (3, .i near), (9, .i (Qh6 r.fig.period (ms.take i) later near)), (18, .sl 1 (ms.map eI)), (19, .i ms.length), (20, .i i)], []⟩) (fun i => True) ?_ trivial ?_ ?_
 ·simp only [Qy, Qh6, Qr, Jg, Qh, kp, Qa0, Qa1, ↓reduceIte, Nat.reduceEqDiff, Qb, Qc, Qh, Qr, reduceCtorEq, Qbk]
 ·intro i hi _
  obtain ⟨x, hx⟩ : ∃ x, ms[i]? = some x := ⟨_, Qu hi⟩
  have hlt : (i : Int) < ms.length := by omega
  have h3 : inI ((i : Int) + 1) := by unfold inI; omega
  have hxx := hmx x (Q6 hx)
  have hp := h.period
  have hg := Qqb r.fig.period (ms.take i) later near
  have hgl : (ms.take i).length ≤ ms.length := by simp; omega
  have h4 : inI ((Qh6 r.fig.period (ms.take i) later near : Int) + 1) := by unfold inI; omega
  have g1 := h104 r x later
  unfold Qbk at g1
  simp only [hx, hlt, Zb, Q1, h3, h4, g1, Qrd hx, Qah, Qa7, Qa8, Qaf, Qc2, Qab, Qa6, Qad, Qai, Qa5, Qa2, Fam.step, Qae, evO, opv, qv, binV, ldV, iadV, Qaw, Qaa, Qa4, flat, kp, Qa3, Qa0, Qa1, ↓reduceIte, Nat.reduceEqDiff, Nat.reduceLT, Nat.reduceLeDiff, Qb, Qc, Qg, Qh, Qp, Qn, Qt, vw_i, Qdw, Za, Qm, Qv, Qa, decide_true, decide_eq_true_eq, true_and, and_true, and_self, implies_true, reduceCtorEq, Q9, Qo, Q4, Qf, Qz, eI, Qbk]
  refine ⟨⟨by omega, by unfold tame; omega, hl⟩, fun e => ?_, fun e => ?_⟩
  ·simp only [e, ↓reduceIte]; rfl
  ·simp only [e, ↓reduceIte]
 ·intro _
  have hg := Qqb r.fig.period ms later near
  simp only [Zf, hms, hs.1, hs.2, Qah, Qa7, Qa8, Qaf, Qc2, Qab, Qar, Qag, Qa6, Qad, Qai, Qa5, Qa2, Fam.step, Qae, evO, opv, qv, binV, ldV, iadV, lenV, Qa3, Qa0, Qa1, ↓reduceIte, Nat.reduceEqDiff, Nat.reduceLeDiff, Qb, Qc, Qg, Qh, Qk, Qq, Qp, Qt, endQ, rvs, rv1, resV, vw_i, Zo, Qm, V.i.injEq, Qa, decide_false, decide_eq_true_eq, true_and, and_self, reduceCtorEq, Q9, Qo, Qf, Qz, eCan, Qbk]
  unfold Qdb
  exact ⟨fun e => by rw [if_pos (by omega)], fun e => ⟨fun e2 => by rw [if_neg (by omega), if_pos (by omega)], fun e2 => by rw [if_neg (by omega), if_neg (by omega)]⟩⟩
def Quv (a : Ring × Int × Int × Int) : List V := [.pa (Qbk a.1), .i a.2.1, .i a.2.2.1, .i a.2.2.2]
def Qwj : List V → Ring × Int × Int × Int | [.pa r, .i n, .i m, .i k] => (Qn0 r, n, m, k) | _ => (Qn0 [], 0, 0, 0)
theorem Qwk (a : Ring × Int × Int × Int) : Qwj (Quv a) = a := by obtain ⟨r, n, m, k⟩ := a; simp [Qwj, Quv, Qok]
def s83 : List V → Prop × V := fnG Quv Qwj (fun a => OkR a.1 ∧ (0 ≤ a.2.1 ∧ a.2.1 < a.1.moves.length) ∧ tame 1000000 a.2.2.1) (fun a => Qdb a.1.fig.period (Qca a.1 a.2.1) a.2.2.1 a.2.2.2) .i
noncomputable def H4 : Gam := H3.ext 60 s83
theorem okH4 : GOk Try.prog H4 := okH3.ext (f := 60) (r := s83) (fun a w => Try.call60 a w) (Qb7 fun a h => W83 a.1 a.2.1 a.2.2.1 a.2.2.2 h.1 h.2.1 h.2.2)
theorem h83 (r : Ring) (a b c : Int) : H4 60 [.pa (Qbk r), .i a, .i b, .i c] = (OkR r ∧ (0 ≤ a ∧ a < r.moves.length) ∧ tame 1000000 b, .i (Qdb r.fig.period (Qca r a) b c)) :=
 (show H4 60 _ = s83 (Quv (r, a, b, c)) from rfl).trans (Qb9 _ (Qwk _))
end Go.C02
set_option linter.unusedSimpArgs false
set_option linter.unusedVariables false
namespace Go.C02
open Go.Fam Go.Proofs
theorem h82 (d : Dome) (n : Int) : H4 47 [.ag (Qaj d), .i n] = (d.bolts.length < 1000, eLE (Qel d n)) :=
 (show H4 47 _ = r36 (eDN (d, n)) from rfl).trans (Qb9 _ (Qwg _))
theorem h41' (f : Fig) : H4 46 [.ag (eFig f)] = (True, .i (Qbi f)) := h41 f
def Qg9 (f : Fig) (s : Int) : Int := ((f.run * (1000 + s)).tdiv 1000).tmod f.period
def Qfc (f : Fig) (g : Int) : List Int := (Qav (Qf5 f.dome g)).map (Qg9 f)
def Qbf (f : Fig) : Ring := ⟨f, f.dome.gores.map (Qfc f)⟩
def Qgl (f : Fig) (is : Bool) : Int := if Qbi f ≠ 0 then Qbi f else if is then Qc1 f.dome true else 1
def Qm9 (f : Fig) (is : Bool) : V := .tp [if Qgl f is = 0 then .pa (Qbk (Qbf f)) else .pn, .i (Qgl f is)]
theorem W50 (f : Fig) (is : Bool) : Qa9 Try.prog 31 [.ag (eFig f), .b is] (Qm9 f is) := by
 refine Qac okH4 hmix Try.func31 cb31 cc31 cs31 cn31 ?_
 have g1 := h41' f
 unfold eFig at g1
 simp only [rc31, rs31, g1, Qah, Qa7, Qa8, Qaf, Qc2, Qab, Qag, Qa6, Qi6, Qad, Qa5, Qa2, Fam.step, Qae, Qbp, Qau, nv, evO, opv, qv, binV, ldV, lenV, Qaw, Qal, putAt, Qb0, V.cells, Qas, Qaz, Qaa, Qa4, flat, Qa3, Qa0, Qa1, ↓reduceIte, Nat.reduceEqDiff, Nat.reduceAdd, Nat.reduceLT, Nat.reduceLeDiff, Qb, Qc, Q0, Q3, Qg, Qh, Qk, Qq, Qe, Qr, Qs, Qp, Qj, Qi, Qn, Qd, Ql, Q8, Qx, Q7, endQ, rvs, rv1, resV, vw_i, Qrq, Qb3, Qb1, Qdj, zipA, Qm, Qw, Qv, Qa, decide_eq_false_iff_not, true_and, and_self, implies_true, reduceCtorEq, Zw, Qo, X7, Classical.not_not, eFig]
 refine ⟨fun h => ?_, fun h => ⟨fun h2 => ?_, fun h2 => ?_⟩⟩
 ·have e : Qgl f is = Qbi f := by simp [Qgl, h]
  unfold Qm9
  rw [e, if_neg h]
 ·have e : Qgl f is = 1 := by simp [Qgl, h, h2]
  unfold Qm9
  rw [e]; rfl
 have hv := Qdh h
 have hd := hv.dome
 have hng := hd.ng
 refine Qb5 f.dome.gores.length (fun i => ⟨lkp [(2, .pa (eFig f)), (7, .ad 0 0 0), (27, .sl 1 (f.dome.gores.map eI)), (28, .i f.dome.gores.length), (29, .i i)],
  [.cells 0 (eFig f ++ [.rf 1 i 0 i 1]), .cells i (((Qbf f).moves.take i).map eCan).flatten]⟩) (fun i => i = 0 ∨ Qc1 f.dome true = 0) ?_ (.inl rfl) ?_ ?_
 ·simp only [Qy, Qr, Qc, Zz, Qj, Qi, kp, Qa0, Qa1, ↓reduceIte, Nat.reduceEqDiff, Qb, Qc, Qr, Qj, Qi, eFig]
 ·intro i hi hc
  obtain ⟨g, hg⟩ : ∃ g, f.dome.gores[i]? = some g := ⟨_, Qu hi⟩
  have hgm := hd.gores g (Q6 hg)
  have hb : Qfr f.dome g = true := by simp only [Qfr, Qak, Z2, decide_eq_true_eq]; omega
  have hlt : (i : Int) < f.dome.gores.length := by omega
  have h3 : inI ((i : Int) + 1) := by unfold inI; omega
  have hnb := hd.nb
  have g2 := h82 f.dome g
  unfold Qaj at g2
  rw [Qel, hb] at g2
  by_cases hp : Qc1 f.dome true = 0
  ·rw [if_pos hp] at g2
   simp only [eLE] at g2
   simp only [hg, hlt, g2, Zb, Q1, Qah, Qa7, Qa8, Qaf, Qab, Qa6, Qld, Qad, Qa5, Qa2, Fam.step, Qae, evO, opv, qv, binV, ldV, iadV, lenV, Qaw, Qaa, Qa4, flat, Qd3, kp, Qa3, Qa0, Qa1, ↓reduceIte, Nat.reduceEqDiff, Nat.reduceAdd, Nat.reduceLT, Nat.reduceLeDiff, Qb, Qc, Qg, Qh, Qq, Qe, Qr, Qp, Qj, Qi, Qn, Qd, Ql, Qt, vw_i, Qb3, Qb1, Za, Qm, Qw, Q5, Qv, Zc, Qa, decide_true, true_and, and_true, and_self, reduceCtorEq, Q9, imp_self, Qo, Q4, Qf, Qz, eI, eFig]
   refine ⟨by omega, ?_⟩
   obtain ⟨b, hbb⟩ : ∃ b, f.dome.bolts[g.toNat]? = some b := ⟨_, Qu (by omega)⟩
   have hvb := hd.bolts b (Q6 hbb)
   have hba : Qf5 f.dome g = b := by simp [Qf5, hbb]
   have hst := hvb.st
   have hnl := Qd6 hvb
   rw [hba]
   have hnx : ∀ s ∈ Qav b, 0 ≤ s ∧ s ≤ 60 := by
    intro s hs
    simp only [Qav, Xh, Qhf] at hs
    omega
   have hrun := hv.run
   have hper := hv.period
   refine Qb5 (Qav b).length (fun j => ⟨lkp [(2, .pa (eFig f)), (7, .ad 0 0 0), (12, .rf 2 j 0 j 1), (27, .sl 1 (f.dome.gores.map eI)), (28, .i f.dome.gores.length), (29, .i i), (43, .sl 1 ((Qav b).map eI)), (44, .i (Qav b).length), (45, .i j)],
    [.cells 0 (eFig f ++ [.rf 1 i 0 i 1]), .cells i (((Qbf f).moves.take i).map eCan).flatten, .cells j ((((Qav b).take j).map (Qg9 f)).map eI).flatten]⟩) (fun j => True) ?_ trivial ?_ ?_
   ·simp only [Qy, Qr, Qc, Zz, kp, Qa0, Qa1, ↓reduceIte, Nat.reduceEqDiff, Qb, Qc, Qr, Qj, Qi, eFig]
   ·intro j hj _
    obtain ⟨x, hx⟩ : ∃ x, (Qav b)[j]? = some x := ⟨_, Qu hj⟩
    have hlt' : (j : Int) < (Qav b).length := by omega
    have h4 : inI ((j : Int) + 1) := by unfold inI; omega
    have hxx := hnx x (Q6 hx)
    simp only [hx, hlt', h4, Zb, Q1, Qnk, Z3, Qo, Xl, Jh (Nat.le_of_lt hj), Qb4 hx, Z6, X1, Qah, Qa7, Qa8, Qaf, Qab, Qa6, Qda, putB, Qad, Qai, Qa5, Qa2, Fam.step, Qae, Qbp, Qau, putB, nv, sv, Qd0, evO, opv, qv, binV, ldV, iadV, Qal, putAt, Qb0, Qba, V.cells, Qas, Qaz, Qaa, Qa4, kp, Qa3, Qa0, Qa1, ↓reduceIte, Nat.reduceEqDiff, Nat.reduceAdd, Nat.reduceLeDiff, Int.reduceEq, Qb, Qc, Q0, Q3, Qg, Qh, Qk, Qq, Qe, Qr, Qp, Qj, Qi, Qd, Ql, Qt, Qx, Q7, Q2, Zd, vw_i, Za, Qm, Qw, Qv, Qa, decide_true, true_and, and_self, reduceCtorEq, not_false_eq_true, ne_eq, Q9, Qo, Q4, Qf, Qz, eI, eFig]
    have m1 : 0 ≤ f.run * (1000 + x) := X0 hrun.1 (by omega)
    have m2 : f.run * (1000 + x) ≤ 2000 * 1060 := Int.mul_le_mul hrun.2 (by omega) (by omega) (by omega)
    exact ⟨by unfold inI; omega, by unfold inI; omega, by rw [Zm m1]; unfold inI; omega, by omega, by unfold Qc0; omega, rfl⟩
   ·intro _
    have hmv : (Qbf f).moves[i]? = some (Qfc f g) := by simp [Qbf, hg]
    have hmv2 : (Qav b).map (Qg9 f) = Qfc f g := by unfold Qfc; rw [hba]
    have hmvl : (Qfc f g).length = (Qav b).length := by rw [← hmv2, Qo]
    have hti := Qb4 hmv
    have hlen : ((Qbf f).moves.take i).length = i := by simp [Qbf]; omega
    rw [Zf, hmv2, ← hmvl]
    simp only [hpF, upB, Qaq _ _ _ (Qfd ((Qbf f).moves.take i)), Qd8 _ _ (Qev (Qfc f g)), Qnk, Z3, Zq, Qlh, vw_I, vw8, hti, Qh2, Z8, Zz, h3, Qa7, Qa8, Qaf, Qar, Qa6, Qc9, Qda, ↓Qbj, cutH, putB, Qad, Qai, Qa5, Qa2, Fam.step, Qae, Qbp, Qau, putB, nv, sv, Qd0, evO, opv, qv, binV, ldV, curG, Qal, putAt, Qb0, Qba, V.cells, Qas, Qaz, Qaa, Qa4, cutV, cutL, cutB, Qa3, Qap, Qa0, Qa1, ↓reduceIte, Nat.reduceEqDiff, Nat.reduceAdd, Nat.reduceLT, Qb, Qc, Q0, Q3, Qg, Qh, Qk, Qq, Zi, Qe, Qr, Qs, Qp, Qj, Qi, Qn, Qd, Ql, Qx, Q7, Q2, Zd, Qb3, Qi9, Zo, beq_self_eq_true, Qm, Qw, Qv, Qa, decide_false, true_and, and_true, and_self, reduceCtorEq, not_false_eq_true, ne_eq, eCan, eFig]
    exact ⟨⟨by rw [Qt7, hlen, Z3], by unfold Qc0; omega⟩, .inr hp⟩
  ·rw [if_neg hp] at g2
   simp only [eLE] at g2
   simp only [hg, hlt, g2, Zb, Q1, hp, Qah, Qa7, Qa8, Qaf, Qab, Qag, Qa6, Qad, Qai, Qa5, Qa2, Fam.step, Qae, evO, opv, qv, binV, ldV, iadV, Qaw, Qaa, Qa4, flat, Qd3, kp, Qa3, Qa0, Qa1, ↓reduceIte, Nat.reduceEqDiff, Nat.reduceAdd, Nat.reduceLT, Nat.reduceLeDiff, Qb, Qc, Qg, Qh, Qq, Qe, Qr, Qp, Qj, Qi, Qn, Qd, Ql, Qt, endQ, rvs, rv1, resV, vw_i, Qrq, Qb3, Qb1, Qdj, Za, Qm, Qw, Q5, Qv, Ze, Qa, decide_true, decide_false, true_and, and_true, and_self, reduceCtorEq, Q9, imp_self, Qo, Q4, Qf, Qz, eI, eFig]
   have e : Qgl f is = Qc1 f.dome true := by simp [Qgl, h, h2]
   refine ⟨by omega, ?_⟩
   unfold Qm9
   rw [e, if_neg hp]
 ·intro hc
  have hp : Qc1 f.dome true = 0 := by rcases hc with hc | hc <;> first | omega | exact hc
  have e : Qgl f is = 0 := by simp [Qgl, h, h2, hp]
  have hl : f.dome.gores.length = (Qbf f).moves.length := by simp [Qbf]
  simp only [Qm9, e, Qt7, Z3, hl, Zf, Zq, Qof, vw_C, hpF, upB, upL, upV, Qd8 _ _ (Qfd (Qbf f).moves), Qa7, Qa8, Qaf, Qar, Qag, Qa6, Qc9, ↓Qbj, cutH, Qad, Qai, Qa5, Qa2, Fam.step, Qae, evO, opv, qv, binV, ldV, cutV, Qa3, Qa0, Qa1, ↓reduceIte, Nat.reduceEqDiff, Nat.reduceLT, Qb, Qc, Qq, Qr, Qj, Qi, Qd, Ql, Q8, endQ, rvs, rv1, resV, vw_i, Qb3, Qdw, Qdj, Qhq, Qi9, Zo, Qm, Qa, decide_false, true_and, and_self, eFig, Qbk]
  rfl
end Go.C02
set_option linter.unusedSimpArgs false
set_option linter.unusedVariables false
namespace Go.C02
open Go.Fam Go.Proofs
def eFB (a : Fig × Bool) : List V := [.ag (eFig a.1), .b a.2]
def dFB : List V → Fig × Bool | [.ag r, .b x] => (dFig r, x) | _ => (dFig [], false)
theorem Qyn (a : Fig × Bool) : dFB (eFB a) = a := by obtain ⟨f, b⟩ := a; simp [dFB, eFB, Qpq]
def s50 : List V → Prop × V := fnG eFB dFB (fun _ => True) (fun a => a) (fun a => Qm9 a.1 a.2)
noncomputable def H5 : Gam := H4.ext 31 s50
theorem okH5 : GOk Try.prog H5 := by
 have k1 := okH4.ext (f := 31) (r := s50) (fun a w => Try.call31 a w) (Qb7 fun a h => W50 a.1 a.2)
 exact k1
theorem h50 (f : Fig) (b : Bool) : H5 31 [.ag (eFig f), .b b] = (True, Qm9 f b) :=
 (show H5 31 _ = s50 (eFB (f, b)) from rfl).trans (Qb9 _ (Qyn _))
theorem Qv8 {f : Fig} {is : Bool} (h : Qgl f is = 0) : Qbi f = 0 ∧ is = true ∧ Qc1 f.dome true = 0 := by
 unfold Qgl at h
 split at h
 ·rename_i h1; exact absurd h h1
 ·rename_i h1
  split at h
  ·rename_i h2; exact ⟨by omega, h2, h⟩
  ·cases h
theorem Qnr {f : Fig} (h : Qbi f = 0) : OkR (Qbf f) := by
 have hv := Qdh h
 have hd := hv.dome
 have hg := hd.ng
 refine ⟨hv.period, hv.near, by simpa [Qbf] using hg, by simp [Qbf, hv.ns], hv.starts, ?_⟩
 intro l hl
 simp only [Qbf, Zp] at hl
 obtain ⟨g, hgm, rfl⟩ := hl
 have hgb := hd.gores g hgm
 obtain ⟨b, hbb⟩ : ∃ b, f.dome.bolts[g.toNat]? = some b := ⟨_, Qu (by omega)⟩
 have hvb := hd.bolts b (Q6 hbb)
 have hba : Qf5 f.dome g = b := by simp [Qf5, hbb]
 have hnl := Qd6 hvb
 have hst := hvb.st
 have hrun := hv.run
 have hper := hv.period
 unfold Qfc
 rw [hba]
 refine ⟨by rw [Qo]; omega, fun x hx => ?_⟩
 obtain ⟨s, hs, rfl⟩ := Zp.1 hx
 simp only [Qav, Xh, Qhf] at hs
 unfold Qg9
 have m1 : 0 ≤ f.run * (1000 + s) := X0 hrun.1 (by omega)
 rw [Zm m1]
 have m2 : 0 ≤ f.run * (1000 + s) / 1000 := Int.ediv_nonneg m1 (by decide)
 exact ⟨Int.tmod_nonneg _ m2, Int.tmod_lt_of_pos _ (by omega)⟩
end Go.C02
set_option linter.unusedSimpArgs false
set_option linter.unusedVariables false
namespace Go.C02
open Go.Fam Go.Proofs
def Qcd (r : Ring) (near : Int) (seam n : Nat) : List Int := ((Zx n).map fun i : Nat => (i : Int)).filter fun l => decide (Qdb r.fig.period (Qca r seam) l near = 1)
def Qcu (r : Ring) (near : Int) (k : Nat) : List (List Int) := (Zx k).map fun s => Qcd r near s r.fig.period.toNat
def Qb2 (r : Ring) (near : Int) : List (List Int) := Qcu r near r.moves.length
theorem Qpf (r : Ring) (near : Int) (seam n : Nat) : Qcd r near seam (n + 1) = if Qdb r.fig.period (Qca r seam) n near = 1 then Qcd r near seam n ++ [(n : Int)] else Qcd r near seam n := by
 unfold Qcd
 rw [Xw, Z6, X5]
 by_cases h : Qdb r.fig.period (Qca r seam) n near = 1 <;> simp [h]
theorem Qle (r : Ring) (near : Int) (seam n : Nat) : (Qcd r near seam n).length ≤ n := by
 unfold Qcd
 refine Nat.le_trans (Xy _ _) ?_
 simp
theorem Qil (r : Ring) (near : Int) (k : Nat) : Qcu r near (k + 1) = Qcu r near k ++ [Qcd r near k r.fig.period.toNat] := by
 unfold Qcu; rw [Xw, Z6]; rfl
def outC (r : Ring) (near : Int) (i : Nat) : List V := ((Qcu r near i).map fun l => V.sl 1 (l.map eI)) ++ Zt (r.moves.length - i) (.z 1)
theorem Qv4 (l : List (List Int)) : Qa4 (l.map fun l => V.sl 1 (l.map eI)) = false := by
 induction l with
 | nil => rfl
 | cons x l ih => simp only [Qb, Qa4, Qaa, ih, Bool.or_self]
theorem Qv5 (n : Nat) : Qa4 (Zt n (V.z 1)) = false := by
 induction n with
 | zero => rfl
 | succ n ih => simp only [Zd, Qa4, Qaa, ih, Bool.or_self]
theorem h83' (r : Ring) (a b c : Int) : H5 60 [.pa (Qbk r), .i a, .i b, .i c] = (OkR r ∧ (0 ≤ a ∧ a < r.moves.length) ∧ tame 1000000 b, .i (Qdb r.fig.period (Qca r a) b c)) := h83 r a b c
theorem W87 (r : Ring) (near : Int) (h : OkR r) : Qa9 Try.prog 48 [.pa (Qbk r), .i near] (.sl 1 ((Qb2 r near).map eCan)) := by
 refine Qac okH5 hmix Try.func48 cb48 cc48 cs48 cn48 ?_
 have hlen := h.len
 simp only [rc48, rs48, Qa7, Qa8, Qab, Qa6, Qad, Qa5, Qa2, Fam.step, Qae, Qbp, Qau, nv, evO, opv, qv, ldV, lenV, Qa3, Qa0, Qa1, ↓reduceIte, Nat.reduceEqDiff, Nat.reduceLeDiff, Qb, Qc, Qg, Qh, Qk, Qq, Qp, Qi, zipA, Za, Qm, Qa, true_and, reduceCtorEq, Qo, Q4, Qbk]
 refine ⟨⟨by omega, by omega⟩, ?_⟩
 refine Qb5 r.moves.length (fun i => ⟨lkp [(0, .pa (Qbk r)), (1, .i near), (5, .rf 0 0 0 r.moves.length 1), (18, .i r.moves.length), (19, .i i)], [.cells 0 (outC r near i)]⟩) (fun i => True) ?_ trivial ?_ ?_
 ·simp only [Qy, outC, Qcu, Ji, Qc, Qi, Nat.sub_zero, List.flatten_replicate_singleton, kp, Qa0, Qa1, ↓reduceIte, Nat.reduceEqDiff, Qb, Qc, Qi, reduceCtorEq, Qbk]
 ·intro i hi _
  have hlt : (i : Int) < r.moves.length := by omega
  have h4 : inI ((i : Int) + 1) := by unfold inI; omega
  have hp := h.period
  obtain ⟨pre, hpre⟩ : ∃ pre, pre = (Qcu r near i).map fun l => V.sl 1 (l.map eI) := ⟨_, rfl⟩
  obtain ⟨post, hpost⟩ : ∃ post, post = Zt (r.moves.length - (i + 1)) (V.z 1) := ⟨_, rfl⟩
  have hpl : pre.length = i := by rw [hpre]; simp [Qcu]
  have hpo : post.length = r.moves.length - (i + 1) := by rw [hpost]; simp
  have ho : outC r near i = pre ++ V.z 1 :: post := by
   unfold outC
   rw [← hpre, hpost, show r.moves.length - i = (r.moves.length - (i + 1)) + 1 by omega, Zd]
  have hget : ∀ x : V, (pre ++ x :: post)[i]? = some x := fun x => by rw [Zu (by omega), hpl, Xe]; rfl
  have hset : ∀ x y : V, (pre ++ x :: post).set i y = pre ++ y :: post := fun x y => by rw [List.set_append_right _ _ (by omega), hpl, Xe]; rfl
  simp only [ho, hlt, hget, hset, Q4, Z3, Qm, Zr, Qah, Qa7, Qa8, Qaf, Qab, Qa6, Qx8, Qad, Qa5, Qa2, Fam.step, Qae, evO, opv, qv, binV, ldV, kp, Qa3, Qa0, Qa1, ↓reduceIte, Nat.reduceEqDiff, Nat.reduceAdd, Nat.reduceLeDiff, Qb, Qc, Qg, Qh, Qk, Qq, Qp, Qj, Qi, Qd, Qx, Qm, Zr, Qa, decide_true, true_and, reduceCtorEq, Q4, Qbk]
  have hput : ∀ x y : V, putAt i [y] (pre ++ x :: post) = pre ++ y :: post := fun x y => by
   unfold putAt
   rw [Jj hpl]
   simp [Ja, hpl]
  have hdrop : ∀ x : V, Jb i (pre ++ x :: post) = x :: post := fun x => by simp [hpl]
  have htake : ∀ x : V, List.take i (pre ++ x :: post) = pre := fun x => Jj hpl
  have hdrop1 : ∀ x : V, Jb (i + 1) (pre ++ x :: post) = post := fun x => by simp [Ja, hpl]
  have hle : i + 1 ≤ i + (r.moves.length - (i + 1) + 1) := by omega
  have hpn : (r.fig.period.toNat : Int) = r.fig.period := by omega
  refine Qb5 r.fig.period.toNat (fun j => ⟨lkp [(0, .pa (Qbk r)), (1, .i near), (5, .rf 0 0 0 r.moves.length 1), (6, .i i), (18, .i r.moves.length), (19, .i i), (26, .i r.fig.period), (27, .i j)],
   [.cells 0 (pre ++ V.rf 1 (Qcd r near i j).length 0 (Qcd r near i j).length 1 :: post), .cells (Qcd r near i j).length ((Qcd r near i j).map eI).flatten]⟩) (fun i => True) ?_ trivial ?_ ?_
  ·simp only [Qy, Qcd, Ji, Qc, Jg, Qh, Zz, kp, Qa0, Qa1, ↓reduceIte, Nat.reduceEqDiff, Qb, Qc, Qh, reduceCtorEq, Qbk]
  ·intro j hj _
   have hlt' : (j : Int) < r.fig.period := by omega
   have h5 : inI ((j : Int) + 1) := by unfold inI; omega
   have h6 := Qle r near i j
   have g1 := h83' r i j near
   unfold Qbk at g1
   simp only [hlt', h5, g1, hlt, hdrop, hle, htake, hdrop1, Qp, Qpf, Q4, Z3, Qm, Zb, Q1, Qnk, Zh, Qg, hpl, hpo, Qah, Qa7, Qa8, Qaf, Qc2, Qab, Qa6, Qda, putB, Qad, Qai, Qa5, Qa2, Fam.step, Qae, Qbp, Qau, putB, nv, sv, Qd0, evO, opv, qv, binV, ldV, iadV, Qaw, Qal, putAt, Qb0, Qba, V.cells, Qas, Qaz, Qaa, Qa4, flat, kp, Qa3, Qap, Qa0, Qa1, ↓reduceIte, Nat.reduceEqDiff, Nat.reduceLT, Nat.reduceLeDiff, Qb, Qc, Q0, Q3, Qg, Qh, Qe, Qr, Qp, Qj, Qi, Qn, Qd, Ql, Qx, Q7, Q2, Zd, vw_i, Qdw, Za, Qm, Qw, Qv, Qa, decide_true, decide_eq_true_eq, true_and, and_true, and_self, implies_true, reduceCtorEq, not_false_eq_true, ne_eq, Q4, Qbk]
   refine ⟨⟨h, by unfold tame; omega⟩, fun e => ?_, fun e => ?_⟩
   ·refine ⟨by unfold Qc0; omega, ?_⟩
    simp only [e, Zh, Z6, X1, Z0, ↓reduceIte, Qb, Qc, Qg, Qh, Qj, Qi, Qm, eI]
   ·simp only [e, ↓reduceIte]
  ·intro _
   have hcp : ∀ hp n, cutL hp n pre = pre := fun hp n => Qaq hp n pre (by rw [hpre]; exact Qv4 _)
   have hco : ∀ hp n, cutL hp n post = post := fun hp n => Qaq hp n post (by rw [hpost]; exact Qv5 _)
   have hcI := fun hp n => Qaq hp n _ (Qev (Qcd r near i r.fig.period.toNat))
   have huI := fun n => Qd8 n _ (Qev (Qcd r near i r.fig.period.toNat))
   simp only [hpn, Zo, h4, Qct, hcp, hco, huI, hpF, upB, Qnk, Z3, Zq, Qlh, vw_I, Zb, Q1, Qa7, Qa8, Qaf, Qar, Qa6, Qc9, ↓Qbj, cutH, Qad, Qai, Qa5, Qa2, Fam.step, Qae, evO, opv, qv, binV, cutV, cutL, cutB, Qa3, Qa0, Qa1, ↓reduceIte, Nat.reduceEqDiff, Nat.reduceLT, Qb, Qc, Qk, Qq, Qe, Qr, Qj, Qi, Qd, Ql, Qi9, Zo, Qm, Qa, decide_false, true_and, and_self, reduceCtorEq, Qbk]
   have e : outC r near (i + 1) = pre ++ V.sl 1 ((Qcd r near i r.fig.period.toNat).map eI) :: post := by
    unfold outC
    rw [Qil, Z6, ← hpre, ← hpost, Z0]; rfl
   rw [e]
 ·intro _
  have e : outC r near r.moves.length = ((Qb2 r near).map eCan).flatten := by
   unfold outC Qb2
   rw [Xe, Q2, Qn]
   generalize Qcu r near r.moves.length = l
   induction l with
   | nil => rfl
   | cons x l ih => simp only [Qb, Z8, ih]; rfl
  have hl : r.moves.length = (Qb2 r near).length := by simp [Qb2, Qcu]
  rw [hl] at e
  simp only [e, hl, Zo, Qt7, Z3, Zq, Qof, vw_C, Qd8 _ _ (Qfd (Qb2 r near)), hpF, upB, Qa7, Qa8, Qaf, Qar, Qag, Qa6, Qc9, ↓Qbj, cutH, Qad, Qai, Qa5, Qa2, Fam.step, Qae, evO, opv, qv, binV, cutV, Qa3, Qa0, Qa1, ↓reduceIte, Nat.reduceEqDiff, Nat.reduceLT, Qb, Qc, Qq, Qr, Qi, Qd, endQ, rvs, rv1, resV, Qb3, Qi9, Zo, Qm, Qa, decide_false, and_self, reduceCtorEq, Qbk]
end Go.C02
set_option linter.unusedSimpArgs false
set_option linter.unusedVariables false
namespace Go.C02
open Go.Fam Go.Proofs
def s87 : List V → Prop × V := fnG eRN dRN (fun a => OkR a.1) (fun a => Qb2 a.1 a.2) (fun l => .sl 1 (l.map eCan))
noncomputable def H6 : Gam := H5.ext 48 s87
theorem okH6 : GOk Try.prog H6 := okH5.ext (f := 48) (r := s87) (fun a w => Try.call48 a w) (Qb7 fun a h => W87 a.1 a.2 h)
theorem h87 (r : Ring) (n : Int) : H6 48 [.pa (Qbk r), .i n] = (OkR r, .sl 1 ((Qb2 r n).map eCan)) :=
 (show H6 48 _ = s87 (eRN (r, n)) from rfl).trans (Qb9 _ (Qwl _))
theorem h84c (r : Ring) (a : Int) : H6 49 [.pa (Qbk r), .i a] = (0 < r.fig.period ∧ r.fig.period ≤ 1000000, .i (modN a r.fig.period)) := h84 r a
theorem Qnz {Γ : Gam} {E : TypeId → Nat → Prop} {Q : Exit → St → Prop} {σ : St} {α : Type} {l : List Nat} {d : Option Nat} {a : RC} (n : Nat) (S : Nat → α → St) (C : Nat → α → Prop) (x0 : α) (h0 : kp l d σ = S 0 x0) (c0 : C 0 x0)
  (hs : ∀ i x, i < n → C i x → wpR Γ E a (Qad (fun σ'' => ∃ y, C (i + 1) y ∧ kp l d σ'' = S (i + 1) y) Q) (S i x)) (hn : ∀ x, C n x → wpR Γ E a (Qad (fun _ => False) Q) (S n x)) : wpR Γ E (.loop l d a) Q σ := by
 refine Qmh (fun k σ => ∃ (i : Nat) (x : α), i ≤ n ∧ k = n - i ∧ C i x ∧ σ = S i x) ⟨n, 0, x0, Nat.zero_le _, rfl, c0, h0⟩ ?_
 rintro k _ ⟨i, x, hi, rfl, hc, rfl⟩
 rcases Nat.lt_or_ge i n with h | h
 ·refine Qey _ _ _ _ (fun e σ he => ?_) (hs i x h hc)
  cases e <;> first | exact he | skip
  obtain ⟨y, hc', hk⟩ := he
  exact ⟨n - (i + 1), by omega, i + 1, y, h, rfl, hc', hk⟩
 ·have : i = n := by omega
  subst this
  refine Qey _ _ _ _ (fun e σ he => ?_) (hn x hc)
  cases e <;> first | exact he | exact he.elim
def atF (p : Int) (S : Int → Prop) (l : List Int) : Int → Prop := fun y => ∃ a, S a ∧ ∃ s ∈ l, y = modN (a + s) p
def atS (p : Int) (steps : List (List Int)) (S : Int → Prop) : Int → Prop := steps.foldl (atF p) S
def Qw8 (S : Int → Prop) (xs : List Int) : Prop := ∀ x, x ∈ xs ↔ S x
structure Inv56 (p : Int) (xs l : List Int) (pre : List Nat) (ys : List Int) : Prop where
 mem : ∀ y, y ∈ ys ↔ ∃ j ∈ pre, ∃ a, (cmKs xs)[j]? = some [a] ∧ ∃ s ∈ l, y = modN (a + s) p
 len : ys.length ≤ pre.length * l.length
theorem Qsy {p : Int} {xs l ys : List Int} {pre : List Nat} (h : Inv56 p xs l pre ys) (hp : ∀ j, j < (cmKs xs).length → j ∈ pre) {S : Int → Prop} (hS : Qw8 S xs) : Qw8 (atF p S l) ys := by
 intro y
 rw [h.mem]
 constructor
 ·rintro ⟨j, _, a, ha, s, hs, rfl⟩
  obtain ⟨x, hx, e⟩ := (Qe1 xs _).1 (Q6 ha)
  have : a = x := by simpa using e
  subst this
  exact ⟨a, (hS a).1 hx, s, hs, rfl⟩
 ·rintro ⟨a, ha, s, hs, rfl⟩
  have hm : [a] ∈ cmKs xs := (Qe1 xs _).2 ⟨a, (hS a).2 ha, rfl⟩
  exact ⟨_, hp _ (List.idxOf_lt_length_of_mem hm), a, Qjl hm, s, hs, rfl⟩
theorem Qjw {a p : Int} (hp : 0 < p) : 0 ≤ modN a p ∧ modN a p < p := by
 rw [Qds hp]
 exact ⟨Xx _ (by omega), Xp _ hp⟩
theorem Qxh {p : Int} (hp : 0 < p) (steps : List (List Int)) {S : Int → Prop} (hS : ∀ y, S y → 0 ≤ y ∧ y < p) : ∀ y, atS p steps S y → 0 ≤ y ∧ y < p := by
 induction steps generalizing S with
 | nil => exact hS
 | cons l ls ih =>
  refine ih (S := atF p S l) ?_
  rintro y ⟨a, _, s, _, rfl⟩
  exact Qjw hp
theorem Qp3 {r : Ring} {near : Int} {l : List Int} (h : l ∈ Qb2 r near) : l.length ≤ r.fig.period.toNat ∧ ∀ s ∈ l, 0 ≤ s ∧ s < r.fig.period := by
 simp only [Qb2, Qcu, Zp] at h
 obtain ⟨k, _, rfl⟩ := h
 refine ⟨Qle _ _ _ _, fun s hs => ?_⟩
 simp only [Qcd, Xh, Zp, Xb] at hs
 obtain ⟨⟨j, hj, rfl⟩, _⟩ := hs
 omega
theorem Quj {xs : List Int} {p : Nat} (h : ∀ x ∈ xs, 0 ≤ x ∧ x < p) : (cmKs xs).length ≤ p := by
 have h1 : ((cmKs xs).map fun k => (k.headD 0).toNat).Nodup := by
  refine List.pairwise_map.2 (List.Pairwise.imp_of_mem (fun {a b} ha hb hne e => hne ?_) (Qks xs))
  obtain ⟨x, hx, rfl⟩ := (Qe1 xs _).1 ha
  obtain ⟨y, hy, rfl⟩ := (Qe1 xs _).1 hb
  have := h x hx; have := h y hy
  simp only [Qp] at e
  have : x = y := by omega
  rw [this]
 have := Qjx h1 (n := p) (by
  intro j hj
  obtain ⟨k, hk, rfl⟩ := Zp.1 hj
  obtain ⟨x, hx, rfl⟩ := (Qe1 xs _).1 hk
  have := h x hx
  simp only [Qp]; omega)
 simpa using this
theorem Qrf {p : Int} {xs l ys : List Int} {pre : List Nat} {j : Nat} {a : Int} (h : Inv56 p xs l pre ys) (hk : (cmKs xs)[j]? = some [a]) : Inv56 p xs l (pre ++ [j]) (ys ++ l.map fun s => modN (a + s) p) := by
 constructor
 ·intro y
  rw [Z7, h.mem]
  constructor
  ·rintro (⟨i, hi, b, hb, s, hs, rfl⟩ | hm)
   ·exact ⟨i, by simp [hi], b, hb, s, hs, rfl⟩
   ·obtain ⟨s, hs, rfl⟩ := Zp.1 hm
    exact ⟨j, by simp, a, hk, s, hs, rfl⟩
  ·rintro ⟨i, hi, b, hb, s, hs, rfl⟩
   rcases Z7.1 hi with hi | hi
   ·exact .inl ⟨i, hi, b, hb, s, hs, rfl⟩
   ·have : i = j := by simpa using hi
    subst this
    rw [hk] at hb
    have : a = b := by simpa using hb
    subst this
    exact .inr (Zp.2 ⟨s, hs, rfl⟩)
 ·rw [Zh, Qo, Zh, List.length_singleton, Nat.add_mul, Nat.one_mul]
  have := h.len
  omega
theorem W56 (r : Ring) (near : Int) (h : OkR r) : Qa9 Try.prog 32 [.pa (Qbk r), .i near] (.b (@decide (atS r.fig.period (Qb2 r near) (· = 0) 0) (Classical.propDecidable _))) := by
  refine Qac okH6 hmix Try.func32 cb32 cc32 cs32 cn32 ?_
  have hlen := h.len
  have hp := h.period
  have g1 := h87 r near
  unfold Qbk at g1
  simp only [rc32, rs32, g1, Qa7, Qa8, Qab, Qa6, putB, keyL, Qes, Qad, Qa5, Qa2, Fam.step, Qae, Qbp, Qau, putB, nv, sv, evO, opv, qv, lenV, Qaw, Qaa, Qa4, flat, Qa3, Qap, Qa0, Qa1, ↓reduceIte, Nat.reduceEqDiff, Nat.reduceLT, Qb, Qc, Qg, Qh, Qi, Qn, Qd, Qx, vw_i, Qdw, zipA, Qm, Qv, Qa, true_and, and_true, and_self, false_implies, reduceCtorEq, imp_self, Qo, Qbk]
  refine ⟨h, ?_⟩
  refine Qnz (Qb2 r near).length (fun i xs => ⟨lkp [(0, .pa (Qbk r)), (5, .mp 0 0), (16, .sl 1 ((Qb2 r near).map eCan)), (17, .i (Qb2 r near).length), (18, .i i)], [cm xs]⟩)
    (fun i xs => Qw8 (atS r.fig.period ((Qb2 r near).take i) (· = 0)) xs) [0] ?_ ?_ ?_ ?_
  · have e : cm [0] = Blk.map false (putK [] [0]) (Qkl [] [] [0] (V.i 1)) := rfl
    simp only [Qy, e, cutH, kp, cutV, cutB, Qa0, Qa1, ↓reduceIte, Nat.reduceEqDiff, Nat.reduceLT, Qb, Qc, Qe, Qs, reduceCtorEq, Qbk]
    rfl
  · intro x; simp [atS]
  · intro i xs hi hC
    obtain ⟨l, hl⟩ : ∃ l, (Qb2 r near)[i]? = some l := ⟨_, Qu hi⟩
    have hlt : (i : Int) < (Qb2 r near).length := by omega
    have h4 : inI ((i : Int) + 1) := by have : (Qb2 r near).length ≤ 16 := by simp [Qb2, Qcu]; omega
                                        unfold inI; omega
    simp only [hl, hlt, cm, Qah, Qa7, Qa8, Qaf, Qab, Qa6, cutH, Qad, Qa5, Qa2, Fam.step, Qae, Qbp, Qau, nv, evO, opv, qv, binV, ldV, iadV, kp, Qa3, Qa0, Qa1, ↓reduceIte, Nat.reduceEqDiff, Nat.reduceAdd, Nat.reduceLeDiff, Qb, Qc, Qg, Qh, Qp, Qj, Qi, Qd, Qt, Za, Qm, Qa, decide_true, true_and, and_self, reduceCtorEq, Q9, Qo, Q4, Qf, Qz, eCan, Qbk]
    refine Qtz (cmKs xs).length (fun pre ys => ⟨lkp [(0, .pa (Qbk r)), (7, .sl 1 (l.map eI)), (8, .mp 1 0), (16, .sl 1 ((Qb2 r near).map eCan)), (17, .i (Qb2 r near).length), (18, .i i), (24, .it 2 0)],
      [cm xs, cm ys, .iter 0 (cmKs xs).length (Qjr (cmKs xs).length pre) pre.getLast?]⟩) (Inv56 r.fig.period xs l) [] ?_ ?_ ?_
    · simp only [Qt6, List.getLast?_nil, cm, kp, Qa0, Qa1, ↓reduceIte, Nat.reduceEqDiff, Qb, Qc, reduceCtorEq, Qbk]
      rfl
    · exact ⟨by simp, by simp⟩
    · intro pre ys hnd hlt2 hC2
      simp only [cm, Qah, Qa7, Qa8, Qaf, Qab, Qar, Qa6, Qc9, Qu1, Qty, ↓Qbj, ↓Qmd, swH, sw, renV, renB, cutH, entV, keyV, Qad, Qai, Qa5, Qa2, Fam.step, Qae, evO, opv, qv, binV, lenV, kp, cutV, cutB, Qa3, Qa0, Qa1, ↓reduceIte, Nat.reduceEqDiff, Nat.reduceAdd, Nat.reduceLT, Qb, Qc, Qg, Qh, Qe, Qr, Qs, Qd, Ql, Qt, Qx, Q7, Qm, Qa, true_and, and_self, reduceCtorEq, Qo, Qf, Qbk]
      refine ⟨fun hnil => ?_, fun j hj => ?_⟩
      · have hall : ∀ j, j < (cmKs xs).length → j ∈ pre := fun j hj => Classical.byContradiction fun hn => by
          have := Qju.2 ⟨hj, hn⟩
          rw [hnil] at this; cases this
        refine ⟨h4, ys, ?_, ?_⟩
        · have := Qsy hC2 hall hC
          rw [Qb4 hl]
          unfold atS at this ⊢
          rw [Z9]
          exact this
        · simp only [Qfx _ _ (Qqj _), Qaq _ _ _ (Qqj _), Zb, Q1]
      · obtain ⟨hjn, hjp⟩ := Qju.1 hj
        obtain ⟨a, ha, hk1, hk2⟩ := Quk hjn
        obtain ⟨hll, hlx⟩ := Qp3 (Q6 hl)
        have hxr : ∀ x ∈ xs, 0 ≤ x ∧ x < (r.fig.period.toNat : Int) := fun x hx => by
          have := Qxh (p := r.fig.period) (by omega) _ (S := (· = 0)) (fun y hy => by subst hy; omega) x ((hC x).1 hx)
          omega
        have har := hxr a ha
        have hkl := Quj hxr
        have hpl := Qjx hnd hlt2
        have hyl := hC2.len
        have hyl2 : ys.length ≤ 60 * 60 := Nat.le_trans hyl (Nat.mul_le_mul (by omega) (by omega))
        simp only [hk1, Qp0 hj, Qp, Qt]
        refine Qbm l.length (fun k => ⟨lkp [(0, .pa (Qbk r)), (7, .sl 1 (l.map eI)), (8, .mp 1 0), (9, .i a), (16, .sl 1 ((Qb2 r near).map eCan)), (17, .i (Qb2 r near).length), (18, .i i), (24, .it 2 0), (29, .sl 1 (l.map eI)), (30, .i l.length), (31, .i k)],
          [cm xs, cm (ys ++ (l.take k).map fun s => modN (a + s) r.fig.period), .iter 0 (cmKs xs).length (Qjr (cmKs xs).length (pre ++ [j])) (some j)]⟩) ?_ ?_ ?_
        · simp only [Qy, cm, Qr, Qc, Qn, kp, Qa0, Qa1, ↓reduceIte, Nat.reduceEqDiff, Qb, Qc, Qr, Qn, reduceCtorEq, Qbk]
        · intro k hk
          obtain ⟨s, hs⟩ : ∃ s, l[k]? = some s := ⟨_, Qu hk⟩
          have hsr := hlx s (Q6 hs)
          have hlt3 : (k : Int) < l.length := by omega
          have i1 : inI ((k : Int) + 1) := by unfold inI; omega
          have i2 : inI (a + s) := by unfold inI; omega
          have i3 : ∀ y, inI (((ys ++ (l.take k).map fun s => modN (a + s) r.fig.period).count y : Int) + 1) := fun y => by
            have h1 := List.count_le_length (a := y) (l := ys ++ (l.take k).map fun s => modN (a + s) r.fig.period)
            rw [Zh, Qo, Xl] at h1
            unfold inI; omega
          have g2 := h84c r (a + s)
          unfold Qbk at g2
          simp only [hlt3, hs, i1, i2, i3, g2, cm, Qvl, Qxm, ← Qgz, Zb, Q1, Qb4 hs, Z6, ← Z0, Qb, Qc, Qah, Qa7, Qa8, Qaf, Qab, Qa6, putB, lkpV, keyL, Qes, Qad, Qai, Qa5, Qa2, Fam.step, Qae, Qbp, Qau, putB, nv, sv, evO, opv, qv, binV, ldV, iadV, Qaw, Qaa, Qa4, flat, kp, Qa3, Qap, Qa0, Qa1, ↓reduceIte, Nat.reduceEqDiff, Nat.reduceLT, Nat.reduceLeDiff, Qb, Qc, Qg, Qh, Qp, Qn, Qd, Ql, Qt, Qx, Q7, vw_i, Qdw, Za, Qm, Qv, Qa, decide_true, true_and, and_true, and_self, false_implies, implies_true, reduceCtorEq, Q9, Qo, Q4, Qf, Qz, eI, Qbk]
          omega
        · simp only [Zf, cm, Zo, Qa7, Qa8, Qaf, Qar, Qa6, Qad, Qai, Qa5, Qa2, Fam.step, Qae, evO, opv, qv, binV, Qa3, Qa0, Qa1, ↓reduceIte, Nat.reduceEqDiff, Qb, Qc, Zo, Qa, decide_false, true_and, reduceCtorEq, Qbk]
          exact ⟨j, _, hj, Qrf hC2 hk1, by simp only [List.getLast?_concat]⟩
  · intro xs hC
    rw [Zf] at hC
    simp only [Zo, cm, Qvl, Qa7, Qa8, Qaf, Qar, Qag, Qa6, lkpV, keyL, Qes, Qad, Qai, Qa5, Qa2, Fam.step, Qae, evO, opv, qv, binV, Qa3, Qa0, Qa1, ↓reduceIte, Nat.reduceEqDiff, Qb, Qc, Qg, Qh, Qd, endQ, rvs, rv1, resV, vw_b, Zo, Qm, V.b.injEq, Qa, decide_false, true_and, and_self, false_implies, reduceCtorEq, Qbk]
    have e : (0 < (List.count 0 xs : Int)) ↔ atS r.fig.period (Qb2 r near) (· = 0) 0 := by
      rw [← hC 0, ← List.count_pos_iff]; omega
    by_cases h0 : atS r.fig.period (Qb2 r near) (· = 0) 0
    · rw [decide_eq_true (e.2 h0), @decide_eq_true _ (Classical.propDecidable _) h0]
    · rw [decide_eq_false (fun h => h0 (e.1 h)), @decide_eq_false _ (Classical.propDecidable _) h0]
end Go.C02
set_option linter.unusedSimpArgs false
set_option linter.unusedVariables false
namespace Go.CT
open Go.Fam Go.Proofs Go.RowKit Go.C02
def Qay (rs : List Span) (n : Nat) (T : List V) (lay : V) : List V := .i 8 :: .i 12 :: .sl 2 [] :: .sl 2 [] :: .sl 1 [[.sl 2 (rs.map eSpan)]] :: .i n :: (T ++ [lay])
def pL (r c : Nat) (t : Int) : List V := [.i r, .i c, .i t]
def eA72 (n : Nat) (rs : List Span) (r c : Nat) (t : Int) : List V := [.ad 0 0 0, .i 0, .ag (pL r c t)]
def eH72 (rs : List Span) (n : Nat) : List Blk := [.cells 0 (Qay rs n zT (.z 3)), .cells 0 (Qay rs n zT (.z 3))]
def fitB (rs : List Span) (n r c : Nat) (t : Int) : Bool := decide (r + rs.length ≤ n) && (Qhj rs t).all fun s => decide ((c : Int) + s.high < 8)
def wT (A : List Int) : List V := A.map (V.w .u16)
def R72 (rs : List Span) (n r c : Nat) (t : Int) (v : V) (hp : List Blk) : Prop :=
 (fitB rs n r c t = false ∧ v = .b false ∧ hp = eH72 rs n) ∨
 (fitB rs n r c t = true ∧ v = .b true ∧ ∃ A : List Int, A.length = 12 ∧ hp = [.cells 0 (Qay rs n (wT A) (.sl 3 [pL r c t])), .cells 0 (Qay rs n zT (.z 3))])
theorem and0 (x : Int) : Qrv .and .u16 0 x = 0 := by
 unfold Qrv
 simp only
 rw [show BitVec.ofInt IntKind.u16.bits 0 = 0#_ from rfl, BitVec.zero_and]
 decide
theorem Qtw (rs : List Span) (t : Int) : (Qhj rs t).length = rs.length := by
 unfold Qhj; split
 ·rfl
 ·exact Qtb rs
theorem Qvg {rs : List Span} (h : OkR rs) (t : Int) : ∀ s ∈ Qhj rs t, 0 ≤ s.low ∧ s.low < 8 ∧ 0 ≤ s.high ∧ s.high < 8 := by
 intro s hs
 unfold Qhj at hs
 split at hs
 ·have := h.row s hs; omega
 ·unfold mirR at hs
  obtain ⟨x, hx, rfl⟩ := Zp.1 hs
  have := h.row x (Jc.1 hx)
  have hw := Qu9 h rs.length
  have hle : x.high ≤ Qg4 rs rs.length := by
   have key : ∀ i : Nat, ∀ y ∈ rs.take i, y.high ≤ Qg4 rs i := by
    intro i
    induction i with
    | zero => intro y hy; simp at hy
    | succ i ih =>
     intro y hy
     cases hs : rs[i]? with
     | none =>
      have hn := List.getElem?_eq_none_iff.1 hs
      have e : rs.take (i + 1) = rs.take i := by rw [Z5 (by omega), Z5 (by omega)]
      have e2 : Qg4 rs (i + 1) = Qg4 rs i := by unfold Qg4; rw [e]
      rw [e] at hy
      rw [e2]; exact ih y hy
     | some s =>
      rw [Qkg hs]
      rw [Qex hs] at hy
      rcases Z7.1 hy with hy | hy
      ·have := ih y hy; omega
      ·rw [Xq] at hy; subst hy; omega
   exact key rs.length x (by rw [Zf]; exact Jc.1 hx)
  simp only [mirS]; omega
theorem Qz1 {A : List Int} {k : Nat} {x : Int} (h : A[k]? = some x) : ((wT A).drop k).headD .u = .w .u16 x := by
 rw [List.headD_eq_head?_getD, List.head?_drop]; unfold wT; rw [Qz, h]; rfl
theorem Qyg (A : List Int) (k : Nat) (x : Int) (h : k < A.length) : (wT A).take k ++ [.w .u16 x] ++ (wT A).drop (k + 1) = wT (A.set k x) := by
 have hk : k < (wT A).length := by simpa [wT] using h
 rw [show wT (A.set k x) = (wT A).set k (.w .u16 x) from by unfold wT; rw [List.map_set], List.set_eq_take_append_cons_drop, if_pos hk]
 simp
theorem Qm8 (A : List Int) : Qa4 (wT A) = false := by
 unfold wT
 induction A with
 | nil => rfl
 | cons a A ih => rw [Qb, Qa4, ih]; rfl
structure C72 (n : Nat) (r i : Nat) (A : List Int) : Prop where
 len : A.length = 12
 zero : ∀ j, r + i ≤ j → j < 12 → A[j]? = some 0
set_option maxRecDepth 100000 in
set_option maxHeartbeats 4000000 in
theorem W72 (rs : List Span) (hR : OkR rs) (n r c : Nat) (t : Int) (hn : n ≤ 12) (hr : r ≤ 12) (hc : c ≤ 12) (ht : t = 0 ∨ t = 1) : Qen Try.prog 72 (eA72 n rs r c t) (eH72 rs n) (R72 rs n r c t) := by
 refine Ql6 (Qx0 hR) hmix Try.func72 cb72 (lo := 2) cc72 cs72 (args := eA72 n rs r c t) (hp := eH72 rs n) (by exact cn72) (Zq 2) (by decide) ?_
 have hl := hR.len
 have hTl := Qtw rs t
 have g1 : KG8 rs 40 [.ag [.sl 2 (rs.map eSpan)], .i t] = (V.ag [V.sl 2 (rs.map eSpan)] = V.ag [V.sl 2 (rs.map eSpan)] ∧ (t = 0 ∨ t = 1), .sl 2 ((Qhj rs t).map eSpan)) := h40 rs t
 simp only [rc72, rs72, eA72, eH72, pL, Qay, zT, g1, ht, Q1, Qa7, Qc6, Qa8, Qab, Qa6, Qbe, cutH, putB, Qad, Qa5, Qa2, Fam.step, Qae, Qbp, Qau, runX, eff, Qbb, fpR, fpQ, fpV, Qcj, hits, putB, nv, sv, evO, opv, qv, ldV, iadV, lenV, curG, Qaw, putAt, V.cells, Qas, Qaz, Qaa, Qa4, flat, Qa3, Qap, Qa0, Qa1, ↓reduceIte, Nat.reduceEqDiff, Nat.reduceAdd, Nat.reduceLT, Nat.reduceLeDiff, Xr, Int.reduceLT, Int.reduceLE, Qb, Qc, Q0, Q3, Qg, Qh, Qk, Qq, Zi, Qe, Qr, Qs, Qp, Qj, Qi, Qn, Qd, Ql, Q8, Qt, Zj, Qx, Q7, Q2, Zk, rv1, resV, vw_i, Qb3, Qb1, zipA, beq_self_eq_true, Qm, Zr, Qw, Q5, Zn, Qv, Zc, Ze, Qa, true_and, and_self, reduceCtorEq, Zs, Zv, Zg, imp_self, Qo, Qf]
 refine Qnz rs.length (fun i (A : List Int) => ⟨lkp [(0, .ad 0 0 0), (5, .pa (pL r c t)), (7, .ad 2 0 0), (27, .sl 2 ((Qhj rs t).map eSpan)), (28, .i rs.length), (29, .i i)], eH72 rs n ++ [.cells 0 (wT A)]⟩)
  (fun i A => C72 n r i A ∧ r + i ≤ n + (if i = 0 then 12 else 0) ∧ ∀ j s, j < i → (Qhj rs t)[j]? = some s → (c : Int) + s.high < 8) (Zt 12 0) ?_ ?_ ?_ ?_
 ·simp only [Qy, eH72, Qay, zT, pL, hTl, cutH, kp, cutV, cutL, cutB, Qa0, Qa1, ↓reduceIte, Nat.reduceEqDiff, Nat.reduceLT, Qb, Qc, Qe, Qs, Qj, Qi, Q2, Zd, reduceCtorEq]
  rfl
 ·refine ⟨⟨by simp, fun j _ hj => by rw [List.getElem?_replicate, if_pos hj]⟩, by simp; omega, fun j s hj => by omega⟩
 ·rintro i A hi ⟨hC, hrn, hfit⟩
  obtain ⟨s, hs⟩ : ∃ s, (Qhj rs t)[i]? = some s := ⟨_, Qu (by omega)⟩
  obtain ⟨s1, s2, s3, s4⟩ := Qvg hR t s (Q6 hs)
  have hlt : (i : Int) < rs.length := by omega
  have hlt2 : (i : Int) < (Qhj rs t).length := by omega
  have i1 : inI ((i : Int) + 1) ∧ inI ((r : Int) + i) ∧ inI ((c : Int) + s.high) ∧ inI ((c : Int) + s.high + 1) ∧ inI ((c : Int) + s.low) := by unfold inI; omega
  by_cases h1 : (n : Int) ≤ (r : Int) + i
  ·have hno : fitB rs n r c t = false := by unfold fitB; rw [decide_eq_false (by omega)]; rfl
   simp only [hs, hlt, hlt2, i1, h1, eH72, Qay, zT, pL, R72, hno, true_or, Qah, Qa7, Qc6, Qa8, Qaf, Qab, Qag, Qa6, Qbe, cutH, putB, endK, Qad, Qai, Qa5, Qa2, Fam.step, Qae, Qbp, Qbu, Qau, Qb8, ug, runX, eff, Qbb, fpR, fpQ, fpV, Qcj, hits, putB, nv, sv, evO, opv, qv, Qao, binV, ldV, iadV, curG, putAt, V.cells, Qas, Qaz, kp, cutV, cutL, cutB, Qa3, Qap, Qa0, Qa1, ↓reduceIte, Nat.reduceEqDiff, Nat.reduceAdd, Nat.reduceLeDiff, Qb, Qc, Q0, Q3, Qg, Qh, Qk, Qq, Zi, Qe, Qr, Qs, Qp, Qj, Qi, Qn, Qd, Ql, Q8, Qt, Zj, Qx, Q7, Q2, Zk, rvs, rv1, Za, beq_self_eq_true, Qm, Zr, Qw, Q5, Zn, Qv, Zc, Ze, Qa, Zl, decide_true, true_and, and_true, and_self, false_and, forall_const, implies_true, reduceCtorEq, Q9, Zs, Zv, Zg, beq_false, imp_self, Qo, Q4, Qf, Qz, eSpan]
  by_cases h2 : (8 : Int) ≤ (c : Int) + s.high
  ·have hno : fitB rs n r c t = false := by
    unfold fitB
    rw [Bool.and_eq_false_iff]; right
    rw [List.all_eq_false]
    exact ⟨s, Q6 hs, by simp; omega⟩
   simp only [hs, hlt, hlt2, i1, h1, h2, eH72, Qay, zT, pL, R72, hno, true_or, Qah, Qa7, Qc6, Qa8, Qaf, Qab, Qag, Qa6, Qbe, cutH, putB, endK, Qad, Qai, Qa5, Qa2, Fam.step, Qae, Qbp, Qbu, Qau, Qb8, ug, runX, eff, Qbb, fpR, fpQ, fpV, Qcj, hits, putB, nv, sv, evO, opv, qv, Qao, binV, ldV, iadV, curG, putAt, V.cells, Qas, Qaz, kp, cutV, cutL, cutB, Qa3, Qap, Qa0, Qa1, ↓reduceIte, Nat.reduceEqDiff, Nat.reduceAdd, Nat.reduceLeDiff, Qb, Qc, Q0, Q3, Qg, Qh, Qk, Qq, Zi, Qe, Qr, Qs, Qp, Qj, Qi, Qn, Qd, Ql, Q8, Qt, Zj, Qx, Q7, Q2, Zk, rvs, rv1, Za, beq_self_eq_true, Qm, Zr, Qw, Q5, Zn, Qv, Zc, Ze, Qa, decide_true, decide_false, true_and, and_self, false_and, forall_const, implies_true, reduceCtorEq, Q9, Zs, Zv, Zg, Qo, Q4, Qf, Qz, eSpan]
  obtain ⟨m, hm⟩ : ∃ m : Nat, m = r + i := ⟨_, rfl⟩
  have em : (r : Int) + i = (m : Int) := by omega
  have hm12 : m < 12 := by omega
  have hA0 := hC.zero m (by omega) hm12
  have hAl := hC.len
  have hwl : (wT A).length = 12 := by unfold wT; rw [Qo]; exact hAl
  have hhd := Qz1 hA0
  have hset : ∀ Y, (wT A).take m ++ [V.w .u16 Y] ++ (wT A).drop (m + 1) = wT (A.set m Y) := fun Y => Qyg A m Y (by omega)
  rw [em] at i1 h1
  have hmi : (0 : Int) ≤ (m : Int) ∧ (m : Int) < ((12 : Nat) : Int) ∧ m + 1 ≤ 12 := by omega
  have hsh : (0 : Int) ≤ (c : Int) + s.high + 1 ∧ (0 : Int) ≤ (c : Int) + s.low := by omega
  simp only [hs, hlt, hlt2, i1, h1, h2, em, eH72, Qay, zT, pL, hwl, hhd, hset, hmi, hsh, Z3, and0, Qaq _ _ _ (Qm8 _), Zb, Q1, Qah, Qa7, Qc6, Qa8, Qaf, Qab, Qa6, Qc9, ↓Qbj, Qbe, cutH, putB, Qad, Qai, Qa5, Qa2, Fam.step, Qae, Qbp, Qbu, Qau, Qb8, ug, runX, eff, Qbb, fpR, fpQ, fpV, Qcj, hits, putB, nv, sv, evO, opv, qv, Qao, binV, binW, ldV, iadV, curG, putAt, V.cells, Qas, Qaz, kp, cutV, cutL, cutB, Qa3, Qap, Qa0, Qa1, ↓reduceIte, Nat.reduceEqDiff, Nat.reduceAdd, Nat.reduceLT, Nat.reduceLeDiff, Qb, Qc, Q0, Q3, Qg, Qh, Qk, Qq, Zi, Qe, Qr, Qs, Qp, Qj, Qi, Qn, Qd, Ql, Q8, Qt, Zj, Qx, Q7, Q2, Zk, Za, beq_self_eq_true, Qm, Zr, Qw, Q5, Zn, Qv, Zc, Ze, Qa, decide_true, decide_false, true_and, and_self, forall_const, implies_true, reduceCtorEq, Q9, Zs, Zv, Zg, Qo, Q4, Qf, Qz, eSpan]
  refine ⟨A.set m (Qrv BinOp.or IntKind.u16 0 (IntKind.u16.wrap (shlW IntKind.u16 1 ((c : Int) + s.high + 1) - shlW IntKind.u16 1 ((c : Int) + s.low)))), ⟨⟨by rw [List.length_set]; exact hAl, fun j hj hj2 => ?_⟩, by omega, fun j s' hj hs' => ?_⟩, rfl⟩
  ·rw [List.getElem?_set_ne (by omega)]
   exact hC.zero j (by omega) hj2
  ·by_cases hji : j < i
   ·exact hfit j s' hji hs'
   ·have : j = i := by omega
    subst this
    rw [hs] at hs'; cases hs'; omega
 ·rintro A ⟨hC, hrn, hfit⟩
  have hlt : ¬ ((rs.length : Int) < rs.length) := by omega
  have hAl := hC.len
  have hwl : (wT A).length = 12 := by unfold wT; rw [Qo]; exact hAl
  have htk : (wT A).take 12 = wT A := Z5 (by omega)
  have htk2 : (wT A ++ [V.z 3]).take 12 = wT A := by rw [← hwl, List.take_left]
  have hdr : (wT A ++ [V.z 3]).drop 13 = [] := List.drop_eq_nil_iff.2 (by rw [Zh, hwl]; simp)
  have hyes : fitB rs n r c t = true := by
   unfold fitB
   rw [if_neg (by omega)] at hrn
   rw [decide_eq_true (by omega), Xg, Zy]
   intro s hs
   obtain ⟨j, hj⟩ := List.getElem?_of_mem hs
   exact decide_eq_true (hfit j s (by have := (List.getElem?_eq_some_iff.1 hj).1; omega) hj)
  have f1 : Qc0 1 := by unfold Qc0; omega
  simp only [hlt, eH72, Qay, zT, pL, R72, hyes, hwl, htk, htk2, hdr, f1, Zh, Qa7, Qc6, Qa8, Qaf, Qar, Qag, Qa6, Qda, Qbe, optL, endK, Qad, Qai, Qa5, Qa2, Fam.step, Qae, Qau, runX, eff, Qbb, fpR, fpQ, fpV, Qcj, hits, nv, sv, Qd0, evO, opv, qv, binV, ldV, curG, Qal, putAt, Qb0, Qba, V.cells, Qas, Qaz, Qaa, Qa4, cutV, cutL, cutB, Qa3, Qap, Qa0, Qa1, ↓reduceIte, Nat.reduceEqDiff, Nat.reduceAdd, Nat.reduceMul, Nat.reduceLeDiff, Nat.reduceBEq, Qb, Qc, Q0, Q3, Qg, Qh, Qk, Qq, Qe, Qr, Qs, Qp, Qj, Qi, Qn, Qd, Ql, Q8, Qt, Zj, Qx, Q7, Q2, Zd, Zk, Xt, rvs, rv1, vw_i, Qb1, beq_self_eq_true, Qm, Zr, Qw, Q5, Xg, Zn, Qv, X2, Zc, Ze, Qa, Zl, decide_false, true_and, and_self, false_and, reduceCtorEq, not_false_eq_true, ne_eq, X3, Zs, Zv, Zg, Qf]
  refine ⟨?_, .inr ⟨A, hAl, ?_⟩⟩
  ·unfold wT
   rw [List.all_map, Zy]
   intro x _; rfl
  ·rw [Qct, Qaq _ _ _ (Qm8 A)]
   simp only [Z8, Zz, Qda, cutV, cutL, ↓reduceIte, Nat.reduceMul, Nat.reduceLT, Qb, Qc, Qn, Qi9, Qm]
   try rfl
end Go.CT
set_option maxRecDepth 8000
namespace Go.CT.N
open Go.Fam Go.Proofs
def rc57 : RC := (.seq (.reg false [(cQ 2 [] (.mv (kB false)))]) (.keep [0] (.seq (.reg false [(cMv 8 0), (cZ 9 8), (cFa 10 9 18), (cLd 11 10 false 1), (cLn 12 11), (cMv 3 12)]) (.keep [0,3] (.seq (.seq (.reg false [(cMv 13 3), (cMv 14 0), (cZ 15 14), (cFa 16 15 0), (cFa 17 16 4), (cLd 18 17 false 1), (cLn 19 18), (cB 20 .eql 13 19)]) (.keep [0,3,20] (.cond (.t 20) (.seq (.reg false [(cQ 2 [] (.mv (kB true)))]) .ret) .skip))) (.keep [0,3] (.seq (.seq (.reg false [(cMv 21 0), (cZ 22 21), (cFa 23 22 5), (cLd 24 23 false 1), (cI 25 0)]) (.keep [0,3,24,25] (.block 0 (.loop [0,3,24,25] (some 2) (.seq (.reg false [(cB 26 .lss 25 24)]) (.keep [0,3,24,25,26] (.seq (.cond (.t 26) .skip (.exit 0)) (.keep [0,3,24,25] (.seq (.block 1 (.seq (.reg false [(cMv 27 25), (cMv 4 27)]) (.keep [0,3,4,24,25] (.seq (.reg false [(cMv 28 0), (cZ 29 28), (cFa 30 29 0), (cFa 31 30 0), (cLd 32 31 false 1), (cI 33 0)]) (.keep [0,3,4,24,25,32,33] (.block 2 (.loop [0,3,4,24,25,32,33] (some 2) (.seq (.reg false [(cB 34 .lss 33 32)]) (.keep [0,3,4,24,25,32,33,34] (.seq (.cond (.t 34) .skip (.exit 2)) (.keep [0,3,4,24,25,32,33] (.seq (.block 3 (.seq (.reg false [(cMv 35 33), (cMv 5 35)]) (.keep [0,3,4,5,24,25,32,33] (.seq (.reg false [(cI 36 0)]) (.keep [0,3,4,5,24,25,32,33,36] (.block 4 (.loop [0,3,4,5,24,25,32,33,36] (some 2) (.seq (.reg false [(cC 37 .lss 36 2)]) (.keep [0,3,4,5,24,25,32,33,36,37] (.seq (.cond (.t 37) .skip (.exit 4)) (.keep [0,3,4,5,24,25,32,33,36] (.seq (.block 5 (.seq (.reg false [(cMv 38 36), (cMv 6 38)]) (.keep [0,3,4,5,6,24,25,32,33,36] (.seq (.reg false [(cMv 39 0), (cZ 40 39), (cLd 41 40 true 19), ⟨(some 7), none, [], none, .w (.alc [(.i 0), (.i 0), (.z 2), (.z 2), (.z 1), (.i 0), (.w .u16 0), (.w .u16 0), (.w .u16 0), (.w .u16 0), (.w .u16 0), (.w .u16 0), (.w .u16 0), (.w .u16 0), (.w .u16 0), (.w .u16 0), (.w .u16 0), (.w .u16 0), (.z 3)])⟩, ⟨none, none, [7,41], none, .w (.st 19 (.t 7) (.t 41))⟩]) (.keep [0,3,4,5,6,7,24,25,32,33,36] (.seq (.seq (.itm [.r (cMv 42 0), .r (cMv 43 3), .r (cMv 44 4), .r (cMv 45 5), .r (cMv 46 6), .r (cQ 47 [44,45,46] (.bld [(.i 0), (.i 0), (.i 0)] [(0,1, (.t 44)), (1,1, (.t 45)), (2,1, (.t 46))])), .h ⟨(some 48), none, [42,43,47], none, .o (kF 72) [(.t 42), (.t 43), (.t 47)]⟩, .r (cMv 49 48), .r (gMv 50 49 true 0), .h ⟨(some 51), (some (49, true)), [50], none, .o (kF 57) [(.t 50)]⟩, .r (cQ 52 [49,51] (.pick (.t 49) (.t 51) (kB false)))]) (.keep [0,3,4,5,7,24,25,32,33,36,52] (.cond (.t 52) (.seq (.reg false [(cQ 2 [] (.mv (kB true)))]) .ret) .skip))) (.keep [0,3,4,5,7,24,25,32,33,36] (.reg false [(cMv 53 0), (cLd 54 7 true 19), (cZ 55 53), ⟨none, none, [55,54], none, .w (.st 19 (.t 55) (.t 54))⟩])))))))) (.drp 2 (.keep [0,3,4,5,24,25,32,33,36] (.reg false [(cC 56 .add 36 1), (cMv 36 56)]))))))))))))))) (.drp 2 (.keep [0,3,4,24,25,32,33] (.reg false [(cC 57 .add 33 1), (cMv 33 57)]))))))))))))))) (.drp 2 (.keep [0,3,24,25] (.reg false [(cC 58 .add 25 1), (cMv 25 58)])))))))))))) (.keep [] (.seq (.reg false [(cQ 2 [] (.mv (kB false)))]) .ret)))))))))
def pu57 : List Nat := []
def rs57 : List RV := [.t 2]
theorem cc57 : comp Try.prog pu57 (Try.f57.ntmps, 0) 2 1 rc57 (Try.f57.body.getD .skip) = some rc57 := by kernel_rfl
theorem cb57 : CBx Try.f57 := by unfold CBx; kernel_rfl
theorem cs57 : CSx Try.prog Try.f57 rs57 := by unfold CSx; kernel_rfl
theorem cn57 : 1 ≤ Try.f57.ntmps := by decide
end Go.CT.N
set_option linter.unusedSimpArgs false
set_option linter.unusedVariables false
namespace Go.CT
open Go.Fam Go.Proofs Go.RowKit Go.C02
def t57 (rs : List Span) (xs : List V) (hp : List Blk) : Prop × (V → List Blk → Prop) :=
 (xs = [.ad 0 0 0] ∧ ∃ (n : Nat) (A : List Int) (row : List V) (b : List V), A.length = 12 ∧ hp = [.cells 0 (Qay rs n (wT A) (.sl 3 [row])), .cells 0 b], fun r hp' => r = .b true ∧ hp' = hp)
theorem W57b (rs : List Span) (n : Nat) (A : List Int) (row b : List V) (hA : A.length = 12) (R : V → List Blk → Prop) (hR : R (.b true) [.cells 0 (Qay rs n (wT A) (.sl 3 [row])), .cells 0 b]) : Qen Try.prog 57 [.ad 0 0 0] [.cells 0 (Qay rs n (wT A) (.sl 3 [row])), .cells 0 b] R := by
 refine Qsv Qp8 hmix Try.func57 cb57 (lo := 2) N.cc57 cs57 (args := [.ad 0 0 0]) (hp := [.cells 0 (Qay rs n (wT A) (.sl 3 [row])), .cells 0 b]) (by exact cn57) (Zq 2) (by decide) ?_
 have hwl : (wT A).length = 12 := by unfold wT; rw [Qo]; exact hA
 have hd : (wT A ++ [V.sl 3 [row]]).drop 12 = [V.sl 3 [row]] := by rw [← hwl, Jl]
 simp only [N.rc57, rs57, Qay, hd, hwl, Zh, Q1, Qa7, Qa8, Qaf, Qag, Qa6, endK, Qad, Qa5, Qa2, Fam.step, Qae, evO, opv, qv, binV, ldV, lenV, curG, Qa3, Qa0, Qa1, ↓reduceIte, Nat.reduceEqDiff, Nat.reduceAdd, Nat.reduceLeDiff, Qb, Qc, Qg, Qh, Qk, Qq, Qp, Qd, rvs, rv1, resV, zipA, beq_self_eq_true, Qm, Zr, Qa, decide_true, true_and, and_self, reduceCtorEq]
 exact hR
def t72 (rs : List Span) (xs : List V) (hp : List Blk) : Prop × (V → List Blk → Prop) :=
 (∃ (n r c : Nat) (t : Int), (n ≤ 12 ∧ r ≤ 12 ∧ c ≤ 12 ∧ (t = 0 ∨ t = 1)) ∧ xs = eA72 n rs r c t ∧ hp = eH72 rs n, fun v hp' => ∃ (n r c : Nat) (t : Int), xs = eA72 n rs r c t ∧ hp = eH72 rs n ∧ R72 rs n r c t v hp')
noncomputable def KG9 (rs : List Span) : Gam := ((KG8 rs).extH 57 (t57 rs)).extH 72 (t72 rs)
theorem Qy4 {rs : List Span} (h : OkR rs) : GOk Try.prog (KG9 rs) := by
 refine ((Qx0 h).extH (f := 57) (fun a w => Try.call57 a w) fun xs hp hc => ?_).extH (f := 72) (fun a w => Try.call72 a w) fun xs hp hc => ?_
 ·obtain ⟨rfl, n, A, row, b, hA, rfl⟩ := hc
  refine ⟨fun r hp' hr y hy => by (obtain ⟨_, rfl⟩ := hr; exact hy), ?_⟩
  exact W57b rs n A row b hA _ ⟨rfl, rfl⟩
 ·obtain ⟨n, r, c, t, ⟨h1, h2, h3, h4⟩, rfl, rfl⟩ := hc
  refine ⟨fun v hp' _ y hy => (by cases hy), ?_⟩
  have := W72 rs h n r c t h1 h2 h3 h4
  intro S w O cargs hm hsz hr
  refine (this S w O cargs hm hsz hr).mono ?_
  rintro e w' ⟨c', S', O', r', hp', k1, k2, k3⟩
  exact ⟨c', S', O', r', hp', k1, ⟨n, r, c, t, rfl, rfl, k2⟩, k3⟩
theorem Qpx {rs : List Span} {n r c n' r' c' : Nat} {t t' : Int} (h : eA72 n rs r c t = eA72 n' rs r' c' t') : r = r' ∧ c = c' ∧ t = t' := by
 simp only [eA72, pL, Jm.injEq, V.ag.injEq, V.i.injEq, and_true, true_and] at h
 omega
theorem Qq0 {rs : List Span} {n n' : Nat} (h : eH72 rs n = eH72 rs n') : n = n' := by
 simp only [eH72, Qay, Jm.injEq, Blk.cells.injEq, V.i.injEq, and_true, true_and] at h
 omega
theorem h72 (rs : List Span) (n r c : Nat) (t : Int) : (KG9 rs).h 72 (eA72 n rs r c t) (eH72 rs n) = ((n ≤ 12 ∧ r ≤ 12 ∧ c ≤ 12 ∧ (t = 0 ∨ t = 1)), R72 rs n r c t) := by
 refine (show (KG9 rs).h 72 _ _ = t72 rs (eA72 n rs r c t) (eH72 rs n) from rfl).trans ?_
 refine Prod.ext (propext ⟨?_, fun h => ⟨n, r, c, t, h, rfl, rfl⟩⟩) (funext fun v => funext fun hp' => propext ⟨?_, fun h => ⟨n, r, c, t, rfl, rfl, h⟩⟩)
 ·rintro ⟨n', r', c', t', h, e1, e2⟩
  obtain ⟨rfl, rfl, rfl⟩ := Qpx (n' := n') e1
  obtain rfl := Qq0 e2
  exact h
 ·rintro ⟨n', r', c', t', e1, e2, h⟩
  obtain ⟨rfl, rfl, rfl⟩ := Qpx (n' := n') e1
  obtain rfl := Qq0 e2
  exact h
theorem h57 (rs : List Span) (xs : List V) (hp : List Blk) : (KG9 rs).h 57 xs hp = t57 rs xs hp := rfl
def R57 (rs : List Span) (n : Nat) (r : V) (hp : List Blk) : Prop :=
 (n < rs.length ∧ r = .b false ∧ hp = [.cells 0 (Qay rs n zT (.z 3))]) ∨ (n = rs.length ∧ r = .b true ∧ ∃ A : List Int, A.length = 12 ∧ hp = [.cells 0 (Qay rs n (wT A) (.sl 3 [pL 0 0 0]))])
set_option maxRecDepth 100000 in
set_option maxHeartbeats 4000000 in
theorem W57 (rs : List Span) (hR : OkR rs) (n : Nat) (hn : n ≤ rs.length) : Qen Try.prog 57 [.ad 0 0 0] [.cells 0 (Qay rs n zT (.z 3))] (R57 rs n) := by
 refine Ql6 (Qy4 hR) hmix Try.func57 cb57 (lo := 1) cc57 cs57 (args := [.ad 0 0 0]) (hp := [.cells 0 (Qay rs n zT (.z 3))]) (by exact cn57) (Zq 1) (by decide) ?_
 have hl := hR.len
 have hpos : ¬ (0 : Int) = 1 := by decide
 simp only [rc57, rs57, Qay, zT, Q1, hpos, Qah, Qa7, Qa8, Qaf, Qab, Qa6, cutH, Qad, Qa5, Qa2, Fam.step, Qae, evO, opv, qv, binV, ldV, lenV, curG, Qa3, Qa0, Qa1, ↓reduceIte, Nat.reduceEqDiff, Nat.reduceAdd, Nat.reduceLeDiff, Qb, Qc, Qg, Qh, Qk, Qq, Qp, Qj, Qi, Qd, rv1, resV, zipA, beq_self_eq_true, Qm, Zr, Qa, decide_false, true_and, and_self, reduceCtorEq]
 by_cases hlt : n < rs.length
 ·refine Qbm n (fun i => ⟨lkp [(0, .ad 0 0 0), (3, .i 0), (24, .i n), (25, .i i)], [.cells 0 (Qay rs n zT (.z 3))]⟩) ?_ ?_ ?_
  ·simp only [Qy, Qay, zT, cutH, kp, cutV, cutL, cutB, Qa0, Qa1, ↓reduceIte, Nat.reduceEqDiff, Nat.reduceLT, Qb, Qc, Qe, Qs, Qj, Qi, reduceCtorEq]
  ·intro i hi
   have hil : (i : Int) < n := by omega
   have i1 : inI ((i : Int) + 1) := by unfold inI; omega
   simp only [hil, Qay, zT, Qah, Qa7, Qa8, Qaf, Qab, Qa6, cutH, Qad, Qa5, Qa2, Fam.step, Qae, evO, opv, qv, binV, ldV, curG, kp, Qa3, Qa0, Qa1, ↓reduceIte, Nat.reduceEqDiff, Nat.reduceAdd, Nat.reduceLeDiff, Qb, Qc, Qg, Qh, Qq, Qp, Qj, Qi, Qd, beq_self_eq_true, Qm, Zr, Qa, decide_true, true_and, and_self, reduceCtorEq]
   refine Qbm 8 (fun j => ⟨lkp [(0, .ad 0 0 0), (3, .i 0), (4, .i i), (24, .i n), (25, .i i), (32, .i 8), (33, .i j)], [.cells 0 (Qay rs n zT (.z 3))]⟩) ?_ ?_ ?_
   ·simp only [Qy, Qay, zT, cutH, kp, cutV, cutL, cutB, Qa0, Qa1, ↓reduceIte, Nat.reduceEqDiff, Nat.reduceLT, Qb, Qc, Qe, Qs, Qj, Qi, reduceCtorEq]
   ·intro j hj
    have hjl : (j : Int) < 8 := by omega
    have j1 : inI ((j : Int) + 1) := by unfold inI; omega
    simp only [hjl, Qay, zT, Qah, Qa7, Qa8, Qaf, Qab, Qa6, cutH, Qad, Qa5, Qa2, Fam.step, Qae, evO, opv, qv, binV, kp, Qa3, Qa0, Qa1, ↓reduceIte, Nat.reduceEqDiff, Qb, Qc, Qj, Qi, decide_true, true_and, reduceCtorEq]
    refine Qbm 2 (fun k => ⟨lkp [(0, .ad 0 0 0), (3, .i 0), (4, .i i), (5, .i j), (24, .i n), (25, .i i), (32, .i 8), (33, .i j), (36, .i k)], [.cells 0 (Qay rs n zT (.z 3))]⟩) ?_ ?_ ?_
    ·simp only [Qy, Qay, zT, cutH, kp, cutV, cutL, cutB, Qa0, Qa1, ↓reduceIte, Nat.reduceEqDiff, Nat.reduceLT, Qb, Qc, Qe, Qs, Qj, Qi, reduceCtorEq]
    ·intro k hk
     have hkl : (k : Int) < 2 := by omega
     have k1 : inI ((k : Int) + 1) := by unfold inI; omega
     have g1 := h72 rs n i j k
     simp only [eA72, eH72, Qay, zT, pL, Qj, Qi] at g1
     have hcnd : (n ≤ 12 ∧ i ≤ 12 ∧ j ≤ 12 ∧ ((k : Int) = 0 ∨ (k : Int) = 1)) := by omega
     have hno : fitB rs n i j k = false := by unfold fitB; rw [decide_eq_false (by omega)]; rfl
     simp only [hkl, Qay, zT, g1, hcnd, Qah, Qa7, Qa8, Qaf, Qc2, Qab, Qag, Qa6, Qc9, Qvz, Qqt, Qw0, Qu2, ↓Qbj, cutH, putB, endK, Qad, Qai, Qa5, Qa2, Fam.step, Qae, Qbp, Qbu, Qau, Qb8, ug, putB, nv, sv, evO, opv, qv, binV, ldV, curG, Qal, putAt, Qb0, V.cells, Qas, Qaz, kp, cutV, Qa3, Qap, Qa0, Qa1, ↓reduceIte, Nat.reduceEqDiff, Nat.reduceAdd, Nat.reduceLT, Nat.reduceLeDiff, Qb, Qc, Q0, Q3, Qg, Qh, Qk, Qq, Zi, Qe, Qr, Qs, Qj, Qi, Qn, Qd, Ql, Qx, Q7, rvs, rv1, Qhq, beq_self_eq_true, Qm, Qw, Q5, Qa, decide_true, true_and, and_true, and_self, implies_true, reduceCtorEq, beq_true, Z1]
     rintro v hp' (⟨_, rfl, rfl⟩ | ⟨h, _⟩)
     ·simp only [eH72, Qay, zT, k1, Zb, Q1, Qpa, Qaz, cutV, cutL, cutB, Nat.reduceAdd, Nat.reduceLeDiff, Qb, Qc, Q0, Q3, Qg, Qh, Qk, Zi, Qe, Qr, Qs, Qj, Qi, Qn, Qd, Ql, Qx, beq_self_eq_true, Qm, Qw, Qa, and_self, forall_const, false_implies, imp_self]
     ·rw [hno] at h; cases h
    ·have h2 : ¬ (((2 : Nat) : Int) < 2) := by decide
     simp only [h2, j1, Qay, zT, Zb, Q1, Qa7, Qa8, Qaf, Qar, Qa6, Qc9, ↓Qbj, cutH, Qad, Qai, Qa5, Qa2, Fam.step, Qae, evO, opv, qv, binV, cutV, cutL, cutB, Qa3, Qa0, Qa1, ↓reduceIte, Nat.reduceEqDiff, Nat.reduceLT, Qb, Qc, Qe, Qs, Qj, Qi, Qa, decide_false, and_self, reduceCtorEq]
   ·have h8 : ¬ (((8 : Nat) : Int) < 8) := by decide
    simp only [h8, i1, Qay, zT, Zb, Q1, Qa7, Qa8, Qaf, Qar, Qa6, Qc9, ↓Qbj, cutH, Qad, Qai, Qa5, Qa2, Fam.step, Qae, evO, opv, qv, binV, cutV, cutL, cutB, Qa3, Qa0, Qa1, ↓reduceIte, Nat.reduceEqDiff, Nat.reduceLT, Qb, Qc, Qe, Qs, Qj, Qi, Qa, decide_false, and_self, reduceCtorEq]
  ·have hnn : ¬ ((n : Int) < n) := by omega
   simp only [hnn, Qay, zT, R57, Qa7, Qa8, Qaf, Qar, Qag, Qa6, endK, Qad, Qai, Qa5, Qa2, Fam.step, Qae, evO, opv, qv, binV, cutV, cutL, cutB, Qa3, Qa0, Qa1, ↓reduceIte, Nat.reduceEqDiff, Qb, Qc, Qe, Qs, Qj, Qi, rvs, rv1, V.b.injEq, Qa, decide_false, true_and, and_true, and_self, false_and, and_false, reduceCtorEq]
   exact .inl hlt
 ·have hnK : n = rs.length := by omega
  have f1 : fitB rs n 0 0 0 = true := by
   unfold fitB
   rw [decide_eq_true (by omega), Xg, Zy]
   intro s hs
   have := hR.row s (by rwa [show Qhj rs 0 = rs from if_pos rfl] at hs)
   simp; omega
  refine Qb5 n (fun i => ⟨lkp [(0, .ad 0 0 0), (3, .i 0), (24, .i n), (25, .i i)], [.cells 0 (Qay rs n zT (.z 3))]⟩) (fun i => i = 0) ?_ rfl ?_ ?_
  ·simp only [Qy, Qay, zT, cutH, kp, cutV, cutL, cutB, Qa0, Qa1, ↓reduceIte, Nat.reduceEqDiff, Nat.reduceLT, Qb, Qc, Qe, Qs, Qj, Qi, reduceCtorEq]
  ·rintro i hi rfl
   have hil : (0 : Int) < n := by omega
   simp only [hil, Qay, zT, Qy, Qah, Qa7, Qa8, Qaf, Qab, Qa6, cutH, Qad, Qa5, Qa2, Fam.step, Qae, evO, opv, qv, binV, ldV, curG, kp, Qa3, Qa0, Qa1, ↓reduceIte, Nat.reduceEqDiff, Nat.reduceAdd, Nat.reduceLeDiff, Qb, Qc, Qg, Qh, Qq, Qp, Qj, Qi, Qd, beq_self_eq_true, Qm, Zr, Qa, decide_true, true_and, and_self, false_and, reduceCtorEq]
   refine Qb5 8 (fun j => ⟨lkp [(0, .ad 0 0 0), (3, .i 0), (4, .i 0), (24, .i n), (25, .i 0), (32, .i 8), (33, .i j)], [.cells 0 (Qay rs n zT (.z 3))]⟩) (fun j => j = 0) ?_ rfl ?_ ?_
   ·simp only [Qy, Qay, zT, cutH, kp, cutV, cutL, cutB, Qa0, Qa1, ↓reduceIte, Nat.reduceEqDiff, Nat.reduceLT, Qb, Qc, Qe, Qs, Qj, Qi, reduceCtorEq]
   ·rintro j hj rfl
    simp only [Qay, zT, Qy, Qah, Qa7, Qa8, Qaf, Qab, Qa6, cutH, Qad, Qa5, Qa2, Fam.step, Qae, evO, opv, qv, binV, kp, Qa3, Qa0, Qa1, ↓reduceIte, Nat.reduceEqDiff, Int.reduceLT, Qb, Qc, Qj, Qi, Qm, decide_true, true_and, false_and, reduceCtorEq]
    refine Qb5 2 (fun k => ⟨lkp [(0, .ad 0 0 0), (3, .i 0), (4, .i 0), (5, .i 0), (24, .i n), (25, .i 0), (32, .i 8), (33, .i 0), (36, .i k)], [.cells 0 (Qay rs n zT (.z 3))]⟩) (fun k => k = 0) ?_ rfl ?_ ?_
    ·simp only [Qy, Qay, zT, cutH, kp, cutV, cutL, cutB, Qa0, Qa1, ↓reduceIte, Nat.reduceEqDiff, Nat.reduceLT, Qb, Qc, Qe, Qs, Qj, Qi, reduceCtorEq]
    ·rintro k hk rfl
     have g1 := h72 rs n 0 0 0
     simp only [eA72, eH72, Qay, zT, pL, Qj, Qi, Qy] at g1
     have hcnd : n ≤ 12 := by omega
     simp only [Qay, zT, g1, hcnd, Qy, Nat.zero_le, true_or, Qah, Qa7, Qa8, Qaf, Qc2, Qab, Qag, Qa6, Qc9, Qvz, Qqt, Qw0, Qu2, ↓Qbj, cutH, putB, endK, Qad, Qai, Qa5, Qa2, Fam.step, Qae, Qbp, Qbu, Qau, Qb8, ug, putB, nv, sv, evO, opv, qv, binV, ldV, curG, Qal, putAt, Qb0, V.cells, Qas, Qaz, kp, cutV, Qa3, Qap, Qa0, Qa1, ↓reduceIte, Nat.reduceEqDiff, Nat.reduceAdd, Nat.reduceLT, Nat.reduceLeDiff, Int.reduceLT, Int.reduceAdd, Int.reduceEq, Qb, Qc, Q0, Q3, Qg, Qh, Qk, Qq, Zi, Qe, Qr, Qs, Qj, Qi, Qn, Qd, Ql, Qx, Q7, rvs, rv1, Qhq, beq_self_eq_true, Qm, Qw, Q5, Qa, decide_true, true_and, and_true, and_self, false_and, and_false, implies_true, reduceCtorEq, beq_true, Z1]
     rintro v hp' (⟨h, _⟩ | ⟨_, rfl, A, hA, rfl⟩)
     ·rw [f1] at h; cases h
     ·have g2 := h57 rs [.ad 0 0 0] [.cells 0 (Qay rs n (wT A) (.sl 3 [pL 0 0 0])), .cells 0 (Qay rs n zT (.z 3))]
      simp only [Qay, zT, pL, h57, t57, Qj, Qi, true_and, forall_const]
      refine ⟨⟨n, A, _, _, hA, rfl⟩, ?_⟩
      rintro r hp' ⟨rfl, rfl⟩
      have hcl : ∀ hp : List Blk, cutL hp 1 (wT A ++ [V.sl 3 [[V.i ((0 : Nat) : Int), V.i ((0 : Nat) : Int), V.i 0]]]) = wT A ++ [V.sl 3 [[V.i ((0 : Nat) : Int), V.i ((0 : Nat) : Int), V.i 0]]] := fun hp => Qaq _ _ _ (by rw [Qe8, Qm8]; rfl)
      simp only [R57, Qay, pL, hcl, Qao, cutV, cutL, cutB, ↓reduceIte, Qb, Qc, Qe, Qr, V.b.injEq, Zl, true_and, and_true, and_self, false_and, and_false, forall_const, imp_self]
      exact .inr ⟨hnK, A, hA, rfl⟩
    ·intro h; omega
   ·intro h; omega
  ·intro h; omega
def t57a (rs : List Span) (xs : List V) (hp : List Blk) : Prop × (V → List Blk → Prop) :=
 (xs = [.ad 0 0 0] ∧ ∃ n : Nat, n ≤ rs.length ∧ hp = [.cells 0 (Qay rs n zT (.z 3))], fun v hp' => ∃ n : Nat, hp = [.cells 0 (Qay rs n zT (.z 3))] ∧ R57 rs n v hp')
noncomputable def KG10 (rs : List Span) : Gam := (KG9 rs).extH 57 (t57a rs)
theorem Qvq {rs : List Span} (h : OkR rs) : GOk Try.prog (KG10 rs) := by
 refine (Qy4 h).extH (f := 57) (fun a w => Try.call57 a w) fun xs hp hc => ?_
 obtain ⟨rfl, n, hn, rfl⟩ := hc
 refine ⟨fun v hp' _ y hy => (by cases hy), ?_⟩
 intro S w O cargs hm hsz hr
 refine (W57 rs h n hn S w O cargs hm hsz hr).mono ?_
 rintro e w' ⟨c', S', O', r', hp', k1, k2, k3⟩
 exact ⟨c', S', O', r', hp', k1, ⟨n, rfl, k2⟩, k3⟩
theorem Qmy {rs : List Span} {n n' : Nat} (h : [Blk.cells 0 (Qay rs n zT (.z 3))] = [Blk.cells 0 (Qay rs n' zT (.z 3))]) : n = n' := by
 simp only [Qay, Jm.injEq, Blk.cells.injEq, V.i.injEq, and_true, true_and] at h
 omega
theorem h57a (rs : List Span) (n : Nat) : (KG10 rs).h 57 [.ad 0 0 0] [.cells 0 (Qay rs n zT (.z 3))] = (n ≤ rs.length, R57 rs n) := by
 refine (show (KG10 rs).h 57 _ _ = t57a rs [.ad 0 0 0] [.cells 0 (Qay rs n zT (.z 3))] from rfl).trans ?_
 refine Prod.ext (propext ⟨?_, fun h => ⟨rfl, n, h, rfl⟩⟩) (funext fun v => funext fun hp' => propext ⟨?_, fun h => ⟨n, rfl, h⟩⟩)
 ·rintro ⟨_, n', h, e2⟩
  obtain rfl := Qmy e2
  exact h
 ·rintro ⟨n', e2, h⟩
  obtain rfl := Qmy e2
  exact h
theorem W41 (rs : List Span) (h : OkR rs) : Qa9 Try.prog 41 [.ag (lapV rs), .ag zT] (.tp [.i rs.length, .sl 3 [[.i 0, .i 0, .i 0]]]) := by
 refine Qac (Qvq h) hmix Try.func41 cb41 cc41 cs41 cn41 ?_
 have hl := h.len
 have i0 : inI 13 := by unfold inI; omega
 simp only [rc41, rs41, lapV, zT, i0, Qa7, Qa8, Qab, Qa6, Qad, Qa5, Qa2, Fam.step, Qae, evO, opv, qv, binV, ldV, V.cells, Qas, Qaa, Qa4, Qa3, Qa0, Qa1, ↓reduceIte, Nat.reduceEqDiff, Nat.reduceAdd, Nat.reduceLeDiff, Int.reduceNeg, Int.reduceAdd, Qb, Qc, Qg, Qh, Qk, Qq, Qp, vw_i, Qb3, Qb1, zipA, Qm, Qv, Qa, true_and, and_self, reduceCtorEq, vw_w]
 refine Qb5 rs.length (fun i => ⟨lkp [(2, .pa (lapV rs)), (3, .pa zT), (10, .i 13), (11, .i i)], []⟩) (fun _ => True) ?_ trivial ?_ ?_
 ·simp only [Qy, lapV, zT, cutH, kp, cutV, Qa0, Qa1, ↓reduceIte, Nat.reduceEqDiff, Qb, Qc, Qs]
 ·intro i hi _
  have hil : (i : Int) < 13 := by omega
  have i1 : inI ((i : Int) + 1) := by unfold inI; omega
  have g1 := h57a rs i
  simp only [Qay, zT, Qj, Qi] at g1
  have hle : i ≤ rs.length := by omega
  simp only [hil, lapV, zT, g1, hle, Qah, Qa7, Qc6, Qa8, Qaf, Qc2, Qab, Qag, Qa6, Qc9, Qvy, ↓Qbj, Qbe, cutH, Qad, Qai, Qa5, Qa2, Fam.step, Qae, Qbp, Qau, runX, eff, Qbb, fpR, fpQ, fpV, Qcj, hits, nv, evO, opv, qv, binV, binW, ldV, curG, Qal, putAt, Qb0, V.cells, Qas, Qaz, kp, cutV, Qa3, Qa0, Qa1, ↓reduceIte, Nat.reduceEqDiff, Nat.reduceAdd, Nat.reduceLeDiff, Int.reduceNeg, Qb, Qc, Q0, Q3, Qg, Qh, Qk, Qq, Qe, Qr, Qs, Qj, Qi, Qn, Q8, Zj, Q2, Zk, endQ, rvs, rv1, resV, vw_i, Qdj, Qm, Qw, Q5, Zn, Qv, Zc, Ze, Qa, decide_true, true_and, and_self, forall_const, implies_true, reduceCtorEq, Zs, Zg, imp_self, Qf, Z1]
  rintro v hp' (⟨_, rfl, rfl⟩ | ⟨h, _⟩)
  ·simp only [i1, Zb, Q1, Qd, beq_self_eq_true, Qa, true_and, and_self, forall_const, false_implies]
  ·omega
 ·intro _
  have hil : (rs.length : Int) < 13 := by omega
  have g1 := h57a rs rs.length
  simp only [Qay, zT, Qj, Qi] at g1
  simp only [hil, lapV, zT, g1, Zq, Qah, Qa7, Qc6, Qa8, Qaf, Qc2, Qab, Qag, Qa6, Qc9, Qvy, ↓Qbj, Qbe, cutH, Qad, Qai, Qa5, Qa2, Fam.step, Qae, Qbp, Qau, runX, eff, Qbb, fpR, fpQ, fpV, Qcj, hits, nv, evO, opv, qv, binV, binW, ldV, curG, Qal, putAt, Qb0, V.cells, Qas, Qaz, Qa3, Qa0, Qa1, ↓reduceIte, Nat.reduceEqDiff, Nat.reduceAdd, Nat.reduceLeDiff, Int.reduceNeg, Qb, Qc, Q0, Q3, Qg, Qh, Qk, Qq, Qe, Qr, Qs, Qj, Qi, Qn, Q8, Zj, Q2, Zk, endQ, rvs, rv1, resV, vw_i, Qdj, Qm, Qw, Q5, Zn, Qv, Zc, Ze, Qa, decide_true, true_and, and_self, and_false, forall_const, implies_true, reduceCtorEq, Zs, Zg, imp_self, Qf, Z1]
  rintro v hp' (⟨h, _⟩ | ⟨_, rfl, A, hA, rfl⟩)
  ·omega
  ·have hwl : (wT A).length = 12 := by unfold wT; rw [Qo]; exact hA
   have hd : ∀ x : V, (wT A ++ [x]).drop 12 = [x] := fun x => by rw [← hwl, Jl]
   simp only [Qay, pL, hd, hwl, Zh, Qy, Zq, Nat.reduceAdd, Qg, Qh, Qk, Qp, Qd, Qb3, beq_self_eq_true, Qm, Zl, and_self, forall_const, imp_self]
end Go.CT
set_option linter.unusedSimpArgs false
set_option linter.unusedVariables false
namespace Go.CT
open Go.Fam Go.Proofs Go.RowKit Go.C02
def s42 : List V → Prop × V := fun vs => (∃ k, k ≤ 5 ∧ vs = [.sl 1 (Zt k [.sl 2 []])], .ag zT)
theorem Qyc (vs : List V) (h : (s42 vs).1) : Qa9 Try.prog 42 vs (s42 vs).2 := by
 obtain ⟨k, hk, rfl⟩ := h
 exact W42 k hk
noncomputable def KG11 (rs : List Span) : Gam := ((KG10 rs).ext 41 (one [.ag (lapV rs), .ag zT] (.tp [.i rs.length, .sl 3 [[.i 0, .i 0, .i 0]]]))).ext 42 s42
theorem Qti {rs : List Span} (h : OkR rs) : GOk Try.prog (KG11 rs) := ((Qvq h).ext (f := 41) (fun a w => Try.call41 a w) (Qcc (W41 rs h))).ext (f := 42) (fun a w => Try.call42 a w) Qyc
theorem h41 (rs : List Span) : KG11 rs 41 [.ag (lapV rs), .ag zT] = (True, .tp [.i rs.length, .sl 3 [[.i 0, .i 0, .i 0]]]) := (show KG11 rs 41 _ = one _ _ _ from rfl).trans (Qc8 _ _)
theorem h42a (rs : List Span) : KG11 rs 42 [.sl 1 [[.sl 2 []]]] = (True, .ag zT) := Prod.ext (eq_true ⟨1, by decide, rfl⟩) rfl
theorem h42b (rs : List Span) : KG11 rs 42 [.sl 1 [[.sl 2 []], [.sl 2 []]]] = (True, .ag zT) := Prod.ext (eq_true ⟨2, by decide, rfl⟩) rfl
theorem n22 (rs : List Span) : KG11 rs 22 [.ag (lapV rs)] = (True, .i 0) := h22 rs
theorem W26 (rs : List Span) (h : OkR rs) : Qa9 Try.prog 26 [.ag (lapV rs)] (.tp [.i rs.length, .sl 3 [[.i 0, .i 0, .i 0]], .i 0]) := by
 refine Qac (Qti h) hmix Try.func26 cb26 cc26 cs26 cn26 ?_
 have g1 := n22 rs
 have g2 := h41 rs
 have hck : Qcm 1 (V.sl 2 [] :: V.sl 2 [] :: Jb 1 (Jb 1 [[V.z 2], [V.z 2]].flatten)) 0 2 = [[V.sl 2 []], [V.sl 2 []]] := rfl
 simp only [lapV, zT] at g1 g2
 have g3 := h42b rs
 simp only [zT] at g3
 have hge : ¬ (rs.length : Int) < 0 := by omega
 simp only [rc26, rs26, lapV, g1, hck, g3, g2, hge, Qah, Qa7, Qc6, Qa8, Qaf, Qag, Qa6, Qbe, Qad, Qa5, Qa2, Fam.step, Qae, runX, eff, Qbb, fpR, fpQ, fpV, Qcj, hits, evO, opv, qv, binV, ldV, Qaw, Qal, putAt, Qb0, Qba, V.cells, Qas, Qaz, Qaa, Qa4, flat, Qd3, Qa3, Qa0, Qa1, ↓reduceIte, Nat.reduceEqDiff, Nat.reduceAdd, Nat.reduceMul, Nat.reduceLT, Nat.reduceLeDiff, Qb, Qc, Q0, Q3, Qg, Qh, Qk, Qq, Qe, Qr, Qs, Qp, Qj, Qi, Qn, Qd, Ql, Q8, Qt, Zj, Q2, Zd, Zk, endQ, rvs, rv1, resV, vw_i, Qb3, Qb1, Qdj, zipA, Qm, Qw, Q5, Zn, Xc, Qv, Zc, Ze, Qa, decide_true, decide_false, and_self, implies_true, reduceCtorEq, not_false_eq_true, ne_eq, Zs, Zg, imp_self, Qf, vw_w]
theorem W27 (rs : List Span) (h : OkR rs) : Qa9 Try.prog 27 [.ag (lapV rs)] (.tp [.i rs.length, .i 0]) := by
 refine Qac (Qti h) hmix Try.func27 cb27 cc27 cs27 cn27 ?_
 have g1 := n22 rs
 have g2 := h41 rs
 simp only [lapV, zT] at g1 g2
 have g3 := h42a rs
 simp only [zT] at g3
 have hge : ¬ (rs.length : Int) < 0 := by omega
 simp only [rc27, rs27, lapV, g1, g3, g2, hge, Qah, Qa7, Qc6, Qa8, Qaf, Qag, Qa6, Qda, Qbe, Qad, Qa5, Qa2, Fam.step, Qae, runX, eff, Qbb, fpR, fpQ, fpV, Qcj, hits, evO, opv, qv, binV, ldV, Qaw, Qal, putAt, Qb0, Qba, V.cells, Qas, Qaz, Qaa, Qa4, flat, Qd3, Qa3, Qa0, Qa1, ↓reduceIte, Nat.reduceEqDiff, Nat.reduceAdd, Nat.reduceMul, Nat.reduceLT, Nat.reduceLeDiff, Qb, Qc, Q0, Q3, Qg, Qh, Qk, Qq, Qe, Qr, Qs, Qp, Qj, Qi, Qn, Qd, Ql, Q8, Qt, Zj, Q2, Zd, Zk, endQ, rvs, rv1, resV, vw_i, Qb3, Qb1, Qdj, zipA, Qm, Qw, Q5, Zn, Xc, Qv, Zc, Ze, Qa, decide_true, decide_false, and_self, implies_true, reduceCtorEq, not_false_eq_true, ne_eq, Zs, Zg, imp_self, Qf, vw_w]
noncomputable def KG12 (rs : List Span) : Gam := ((KG11 rs).ext 26 (one [.ag (lapV rs)] (.tp [.i rs.length, .sl 3 [[.i 0, .i 0, .i 0]], .i 0]))).ext 27 (one [.ag (lapV rs)] (.tp [.i rs.length, .i 0]))
theorem Qvr {rs : List Span} (h : OkR rs) : GOk Try.prog (KG12 rs) := ((Qti h).ext (f := 26) (fun a w => Try.call26 a w) (Qcc (W26 rs h))).ext (f := 27) (fun a w => Try.call27 a w) (Qcc (W27 rs h))
theorem h26 (rs : List Span) : KG12 rs 26 [.ag (lapV rs)] = (True, .tp [.i rs.length, .sl 3 [[.i 0, .i 0, .i 0]], .i 0]) := (show KG12 rs 26 _ = one _ _ _ from rfl).trans (Qc8 _ _)
theorem h27 (rs : List Span) : KG12 rs 27 [.ag (lapV rs)] = (True, .tp [.i rs.length, .i 0]) := (show KG12 rs 27 _ = one _ _ _ from rfl).trans (Qc8 _ _)
theorem W10 (rs : List Span) (h : OkR rs) : Qa9 Try.prog 10 [.ag (lapV rs)] (.tp [.i rs.length, .i 0]) := by
 refine Qac (Qvr h) hmix Try.func10 cb10 cc10 cs10 cn10 ?_
 have g1 := h26 rs
 simp only [lapV] at g1
 simp only [rc10, rs10, lapV, g1, Qa7, Qa8, Qag, Qa6, Qad, Qa5, Qa2, Fam.step, Qae, evO, opv, qv, ldV, Qaw, V.cells, Qas, Qaa, Qa4, flat, Qd3, Qa3, Qa0, Qa1, ↓reduceIte, Nat.reduceEqDiff, Nat.reduceAdd, Nat.reduceLT, Nat.reduceLeDiff, Qb, Qc, Qg, Qh, Qe, Qs, Qn, Qd, Ql, Q8, Qt, endQ, rvs, rv1, resV, vw_i, Qb3, Qb1, Qdj, zipA, Qm, Qw, Q5, Xc, Qv, Qa, and_self, imp_self]
noncomputable def KG13 (rs : List Span) : Gam := ((KG12 rs).ext 10 (one [.ag (lapV rs)] (.tp [.i rs.length, .i 0]))).ext 9 (one [.ag (lapV rs), .i 0, .ag [.i 0, .i 0, .i 0]] (.tp [.sl 2 ((Qd2 rs).map eC), .i 0]))
theorem Qvs {rs : List Span} (h : OkR rs) : GOk Try.prog (KG13 rs) := ((Qvr h).ext (f := 10) (fun a w => Try.call10 a w) (Qcc (W10 rs h))).ext (f := 9) (fun a w => Try.call9 a w) (Qcc (W9 rs h))
theorem h10 (rs : List Span) : KG13 rs 10 [.ag (lapV rs)] = (True, .tp [.i rs.length, .i 0]) := (show KG13 rs 10 _ = one _ _ _ from rfl).trans (Qc8 _ _)
theorem h9 (rs : List Span) : KG13 rs 9 [.ag (lapV rs), .i 0, .ag [.i 0, .i 0, .i 0]] = (True, .tp [.sl 2 ((Qd2 rs).map eC), .i 0]) := (show KG13 rs 9 _ = one _ _ _ from rfl).trans (Qc8 _ _)
def Qmg (rs : List Span) : Int := 8 * rs.length - (Qd2 rs).length
theorem W11 (rs : List Span) (h : OkR rs) : Qa9 Try.prog 11 [.ag (lapV rs)] (.tp [.ag [.i (Qmg rs), .i (Qmg rs)], .i 0]) := by
 refine Qac (Qvs h) hmix Try.func11 cb11 cc11 cs11 cn11 ?_
 have hl := h.len
 have g1 := h10 rs
 have g2 : KG13 rs 27 [.ag (lapV rs)] = (True, .tp [.i rs.length, .i 0]) := h27 rs
 have g3 : KG13 rs 25 [.ag [.sl 2 (rs.map eSpan)], .ag [.i 0, .i 0, .i 0]] = (True, .sl 2 ((Qd2 rs).map eC)) := h25 rs
 simp only [lapV] at g1 g2
 have hcl := Qec h rs.length
 have hcl2 : (Qd2 rs).length ≤ 32 := by unfold Qd2; omega
 have i1 : inI 1 ∧ inI ((Qd2 rs).length : Int) ∧ inI (8 * (rs.length : Int)) ∧ inI (8 * (rs.length : Int) - ((Qd2 rs).length : Int)) := by unfold inI; omega
 simp only [rc11, rs11, lapV, g1, g2, Q1, Qah, Qa7, Qa8, Qaf, Qab, Qa6, Qad, Qa5, Qa2, Fam.step, Qae, Qbp, Qau, nv, evO, opv, qv, binV, ldV, lenV, Qaw, V.cells, Qas, Qaa, Qa4, flat, Qd3, Qa3, Qa0, Qa1, ↓reduceIte, Nat.reduceEqDiff, Nat.reduceAdd, Nat.reduceLT, Nat.reduceLeDiff, Qb, Qc, Qg, Qh, Qk, Qq, Qe, Qs, Qp, Qi, Qn, Qd, Ql, Qt, vw_i, Qb3, Qb1, zipA, Qm, Qw, Qv, Zc, Qa, decide_true, true_and, and_self, implies_true]
 refine Qbm 1 (fun i => ⟨lkp [(1, .pa (lapV rs)), (2, .ad 0 0 0), (4, .i rs.length), (6, .i rs.length), (8, .i (if i = 0 then 0 else ((Qd2 rs).length : Int))), (26, .sl 1 [[.sl 2 (rs.map eSpan)]]), (27, .i 1), (28, .i i)], [.cells 0 [.i 0, .i 0]]⟩) ?_ ?_ ?_
 ·simp only [Qy, lapV, cutH, kp, cutV, cutL, cutB, Qa0, Qa1, ↓reduceIte, Nat.reduceEqDiff, Nat.reduceLT, Qb, Qc, Qe, Qs]
 ·intro i hi
  have : i = 0 := by omega
  subst this
  simp only [lapV, g3, i1, Qy, Q1, Int.zero_add, Qah, Qa7, Qa8, Qaf, Qab, Qa6, Qc9, ↓Qbj, cutH, putB, Qad, Qai, Qa5, Qa2, Fam.step, Qae, Qbp, Qau, putB, nv, sv, evO, opv, qv, binV, ldV, iadV, lenV, Qaw, Qal, putAt, Qb0, V.cells, Qas, Qaz, Qaa, Qa4, flat, kp, cutV, cutL, cutB, Qa3, Qap, Qa0, Qa1, ↓reduceIte, Nat.reduceEqDiff, Nat.reduceAdd, Nat.reduceLT, Nat.reduceLeDiff, Xr, Int.reduceLT, Int.reduceLE, Qb, Qc, Q0, Q3, Qg, Qh, Qk, Qq, Zi, Qe, Qr, Qs, Qj, Qi, Qn, Qd, Ql, Qt, Qx, Q7, vw_i, Qb3, Qb1, Qhq, Qm, Qw, Qv, Qa, decide_true, and_self, reduceCtorEq, imp_self, Qo, Qf]
 ·simp only [lapV, i1, Q1, Qmg, Qa7, Qa8, Qaf, Qar, Qag, Qa6, putB, Qad, Qai, Qa5, Qa2, Fam.step, Qae, Qbp, Qau, putB, nv, sv, evO, opv, qv, binV, ldV, Qal, putAt, Qb0, V.cells, Qas, Qaz, Qa3, Qap, Qa0, Qa1, ↓reduceIte, Nat.reduceEqDiff, Nat.reduceAdd, Nat.reduceLeDiff, Qb, Qc, Q0, Q3, Qg, Qh, Qk, Qq, Zi, Qe, Qr, Qs, Qp, Qj, Qi, Qn, Qd, Qx, endQ, rvs, rv1, resV, vw_i, Qb1, Qdj, Zo, Qm, Qw, Qa, decide_false, and_self, reduceCtorEq]
end Go.CT
set_option linter.unusedSimpArgs false
set_option linter.unusedVariables false
namespace Go.C02
open Go.Fam Go.Proofs
def Qib (r : Ring) (near : Int) : Prop := atS r.fig.period (Qb2 r near) (· = 0) 0
noncomputable def Qcs (r : Ring) (near : Int) : Bool := @decide (Qib r near) (Classical.propDecidable _)
theorem Qj5 (r : Ring) (near : Int) : Qcs r near = true ↔ Qib r near := by
 unfold Qcs
 by_cases h : Qib r near
 ·rw [@decide_eq_true _ (Classical.propDecidable _) h]; simp [h]
 ·rw [@decide_eq_false _ (Classical.propDecidable _) h]; simp [h]
noncomputable def s56 : List V → Prop × V := fnG eRN dRN (fun a => OkR a.1) (fun a => Qcs a.1 a.2) .b
noncomputable def H7 : Gam := H6.ext 32 s56
theorem okH7 : GOk Try.prog H7 := okH6.ext (f := 32) (r := s56) (fun a w => Try.call32 a w) (Qb7 fun a h => W56 a.1 a.2 h)
theorem h56 (r : Ring) (n : Int) : H7 32 [.pa (Qbk r), .i n] = (OkR r, .b (Qcs r n)) :=
 (show H7 32 _ = s56 (eRN (r, n)) from rfl).trans (Qb9 _ (Qwl _))
theorem h50h (f : Fig) (b : Bool) : H7 31 [.ag (eFig f), .b b] = (True, Qm9 f b) := h50 f b
theorem Qwq {p a b : Int} (hp : 0 < p) : farN p a b ≤ p / 2 := by
 unfold farN
 rw [Qds hp, Qds hp]
 have h1 := Xx (a - b) (show p ≠ 0 by omega)
 have h2 := Xp (a - b) hp
 have h3 := Xx (b - a) (show p ≠ 0 by omega)
 have h4 := Xp (b - a) hp
 have h5 : (a - b) % p + (b - a) % p = 0 ∨ (a - b) % p + (b - a) % p = p := by
  have e : b - a = -(a - b) := by omega
  rw [e, Int.neg_emod]
  split
  ·rename_i h; left; have := Int.emod_eq_zero_of_dvd h; omega
  ·right; have : (p.natAbs : Int) = p := by omega
   omega
 omega
theorem Qrk {r : Ring} (h : OkR r) (k : Nat) (l : Int) : Qdb r.fig.period (Qca r k) l (r.fig.period / 2) = 1 := by
 have hp := h.period
 unfold Qdb
 rw [if_pos]
 unfold Qh6
 rw [Xf.2]
 intro x _
 exact decide_eq_true (Qwq (by omega))
theorem Qog {r : Ring} (h : OkR r) : Qib r (r.fig.period / 2) := by
 have hp := h.period
 have hl := h.len
 have hfull : ∀ k, Qcd r (r.fig.period / 2) k r.fig.period.toNat = (Zx r.fig.period.toNat).map fun i : Nat => (i : Int) := by
  intro k
  unfold Qcd
  rw [Xf.2]
  intro x _
  exact decide_eq_true (Qrk h k x)
 have key : ∀ n, atS r.fig.period (Qcu r (r.fig.period / 2) n) (· = 0) 0 := by
  intro n
  induction n with
  | zero => rfl
  | succ n ih =>
   rw [Qil]
   unfold atS at ih ⊢
   rw [Z9]
   refine ⟨0, ih, 0, ?_, ?_⟩
   ·rw [hfull]
    exact Zp.2 ⟨0, Xb.2 (by omega), rfl⟩
   ·rw [Qds (by omega)]; simp
 exact key _
noncomputable def Qcf (r : Ring) : Nat := (Zx 31).findIdx fun n => Qcs r (n : Nat)
theorem Qgy {r : Ring} (h : OkR r) : Qcf r ≤ (r.fig.period / 2).toNat ∧ Qcs r (Qcf r : Nat) = true ∧ ∀ i, i < Qcf r → Qcs r (i : Nat) = false := by
 have hp := h.period
 have hc : Qcs r ((r.fig.period / 2).toNat : Nat) = true := by
  rw [Qj5, show (((r.fig.period / 2).toNat : Nat) : Int) = r.fig.period / 2 by omega]
  exact Qog h
 have hno : ∀ i, i < Qcf r → Qcs r (i : Nat) = false := by
  intro i hi
  have := List.not_of_lt_findIdx hi
  simpa using this
 have hle : Qcf r ≤ (r.fig.period / 2).toNat := by
  rcases Nat.lt_or_ge (r.fig.period / 2).toNat (Qcf r) with h1 | h1
  ·have := hno _ h1; rw [hc] at this; cases this
  ·exact h1
 have hlt : Qcf r < (Zx 31).length := by rw [X8]; omega
 refine ⟨hle, ?_, hno⟩
 have := List.findIdx_getElem (xs := Zx 31) (p := fun n => Qcs r (n : Nat)) (w := hlt)
 have e : ((Zx 31)[List.findIdx (fun n : Nat => Qcs r n) (Zx 31)]'hlt) = List.findIdx (fun n : Nat => Qcs r n) (Zx 31) := List.getElem_range hlt
 simp only [e] at this
 exact this
noncomputable def Qde (f : Fig) : Int × Int := if Qgl f true = 0 then ((Qcf (Qbf f) : Nat), 0) else (0, Qgl f true)
theorem W22 (f : Fig) : Qa9 Try.prog 18 [.ag (eFig f)] (.tp [.i (Qde f).1, .i (Qde f).2]) := by
 refine Qac okH7 hmix Try.func18 cb18 cc18 cs18 cn18 ?_
 have g1 := h50h f true
 unfold Qm9 eFig at g1
 simp only [rc18, rs18, g1, Qah, Qa7, Qa8, Qaf, Qc2, Qab, Qag, Qa6, Qad, Qa5, Qa2, Fam.step, Qae, evO, opv, qv, binV, ldV, Qaw, V.cells, Qas, Qaa, Qa4, flat, Qd3, Qa3, Qa0, Qa1, ↓reduceIte, Nat.reduceEqDiff, Nat.reduceAdd, Nat.reduceLT, Nat.reduceLeDiff, Qb, Qc, Qg, Qh, Qe, Qs, Qn, Qd, Ql, Q8, Qt, endQ, rvs, rv1, resV, vw_i, vw_b, Qb3, Qb1, Qdj, zipA, Qm, Qw, Q5, Qv, Qa, decide_eq_false_iff_not, true_and, and_self, false_implies, Zw, Classical.not_not, eFig, Qbk]
 refine ⟨fun h => ?_, fun h => ?_⟩
 ·simp only [Qde, if_neg h]
 ·obtain ⟨h1, h2, h3⟩ := Qv8 h
  have hR := Qnr h1
  have hp := hR.period
  obtain ⟨c1, c2, c3⟩ := Qgy hR
  simp only [h, ↓reduceIte]
  refine Qb5 (Qcf (Qbf f)) (fun i => ⟨lkp [(4, .pa (Qbk (Qbf f))), (6, .i (i : Nat))], []⟩) (fun i => True) ?_ trivial ?_ ?_
  ·simp only [Qy, kp, Qa0, Qa1, ↓reduceIte, Nat.reduceEqDiff, Qb, Qc, Qbk]
  ·intro i hi _
   have g2 := h56 (Qbf f) (i : Nat)
   rw [c3 i hi] at g2
   unfold Qbk at g2
   have h4 : inI ((i : Int) + 1) := by unfold inI; omega
   simp only [g2, h4, Zb, Q1, Qah, Qa7, Qa8, Qaf, Qab, Qa6, Qad, Qai, Qa5, Qa2, Fam.step, Qae, evO, opv, qv, binV, Qaw, Qaa, Qa4, flat, kp, Qa3, Qa0, Qa1, ↓reduceIte, Nat.reduceEqDiff, Nat.reduceLT, Qb, Qc, Qn, vw_i, Qdw, Qv, Ze, Qa, true_and, and_true, and_self, implies_true, Qbk]
   exact hR
  ·intro _
   have g2 := h56 (Qbf f) (Qcf (Qbf f) : Nat)
   rw [c2] at g2
   unfold Qbk at g2
   simp only [g2, Qde, h, Qa7, Qa8, Qaf, Qar, Qag, Qa6, Qad, Qai, Qa5, Qa2, Fam.step, Qae, evO, opv, qv, ldV, Qaw, Qaa, Qa4, flat, Qa3, Qa0, Qa1, ↓reduceIte, Nat.reduceEqDiff, Nat.reduceLT, Qb, Qc, Qn, Q8, endQ, rvs, rv1, resV, vw_i, Qdw, Qdj, Qv, Zc, Qa, true_and, and_true, and_self, implies_true, Qbk]
   exact hR
end Go.C02
set_option linter.unusedSimpArgs false
set_option linter.unusedVariables false
namespace Go.C02
open Go.Fam Go.Proofs
inductive Wy (p first : Int) : List (List Int) → List Int → Int → Prop
 | nil : Wy p first [] [first] first
 | snoc {ls : List (List Int)} {l : List Int} {a s : Int} {st : List Int} : Wy p first ls l a → s ∈ st → Wy p first (ls ++ [st]) (l ++ [modN (a + s) p]) (modN (a + s) p)
theorem Qua {p first : Int} {ls : List (List Int)} {st l : List Int} {b : Int} (h : Wy p first (ls ++ [st]) l b) : ∃ l0 a s, Wy p first ls l0 a ∧ s ∈ st ∧ b = modN (a + s) p ∧ l = l0 ++ [b] := by
 generalize hq : ls ++ [st] = q at h
 cases h with
 | nil => simp at hq
 | snoc h hs =>
  rename_i ls' l0 a s st'
  have h1 := List.append_inj' hq rfl
  obtain ⟨h1, h2⟩ := h1
  cases h2
  subst h1
  exact ⟨l0, a, s, h, hs, rfl, rfl⟩
theorem Qw6 {p first : Int} {l : List Int} {b : Int} (h : Wy p first [] l b) : l = [first] ∧ b = first := by
 generalize hq : ([] : List (List Int)) = q at h
 induction h with
 | nil => exact ⟨rfl, rfl⟩
 | snoc _ _ => simp at hq
def Beg (r : Ring) (near first : Int) (l : List Int) : Prop := ∃ a, Wy r.fig.period first ((Qb2 r near).take (r.moves.length - 1)) l a ∧ Qdb r.fig.period (Qca r (r.moves.length - 1)) (modN (first - a) r.fig.period) near = 1
end Go.C02
set_option linter.unusedSimpArgs false
set_option linter.unusedVariables false
namespace Go.C02
open Go.Fam Go.Proofs
def Begs (r : Ring) (near : Int) (l : List Int) : Prop := ∃ first : Int, (0 ≤ first ∧ first < r.fig.period) ∧ Beg r near first l
open Classical in
theorem Qye {l : List Int} (h : ∀ x ∈ l, 0 ≤ x) (i : Nat) : 0 ≤ (l.take i).sum ∧ (l.take i).sum ≤ l.sum := by
 have h0 : ∀ l : List Int, (∀ x ∈ l, 0 ≤ x) → 0 ≤ l.sum := by
  intro l
  induction l with
  | nil => simp
  | cons x l ih =>
   intro h
   have := h x (by simp)
   have := ih fun y hy => h y (by simp [hy])
   rw [X4]; omega
 have e : l.sum = (l.take i).sum + (l.drop i).sum := by rw [← Xn, List.take_append_drop]
 have h1 := h0 (l.take i) fun x hx => h x (List.mem_of_mem_take hx)
 have h2 := h0 (l.drop i) fun x hx => h x (List.mem_of_mem_drop hx)
 omega
end Go.C02
set_option linter.unusedSimpArgs false
set_option linter.unusedVariables false
namespace Go.C02
open Go.Fam Go.Proofs
theorem Qsn {l : List Int} {i : Nat} (h : i < l.length) : l.getD i 0 ∈ l := by
 rw [Qf, Qu h]
 exact Xu h
end Go.C02
set_option linter.unusedSimpArgs false
set_option linter.unusedVariables false
namespace Go.C02
open Go.Fam Go.Proofs
end Go.C02
set_option linter.unusedSimpArgs false
set_option linter.unusedVariables false
namespace Go.C02
open Go.Fam Go.Proofs
structure PInv (P : Nat → Nat → Prop) (W : Nat → Nat → Int) (m : AM Int) : Prop where
 nd : (aks m).Nodup
 two : ∀ k ∈ aks m, k.length = 2
 is : ∀ f c : Nat, P f c → aget m [(f : Int), (c : Int)] = some (W f c)
 no : ∀ f c : Nat, ¬ P f c → aget m [(f : Int), (c : Int)] = none
theorem PInv.mem {P : Nat → Nat → Prop} {W : Nat → Nat → Int} {m : AM Int} (h : PInv P W m) {f c : Nat} : [(f : Int), (c : Int)] ∈ aks m ↔ P f c := by
 rw [Qwx]
 by_cases hp : P f c
 ·rw [h.is f c hp]; simp [hp]
 ·rw [h.no f c hp]; simp [hp]
end Go.C02
set_option linter.unusedSimpArgs false
set_option linter.unusedVariables false
namespace Go.C02
open Go.Fam Go.Proofs
end Go.C02
set_option linter.unusedSimpArgs false
set_option linter.unusedVariables false
namespace Go.C02
open Go.Fam Go.Proofs
end Go.C02
set_option linter.unusedSimpArgs false
set_option linter.unusedVariables false
namespace Go.C02
open Go.Fam Go.Proofs
end Go.C02
set_option linter.unusedSimpArgs false
set_option linter.unusedVariables false
namespace Go.C02
open Go.Fam Go.Proofs
def Qv2 (f : Fig) (a b : Int) : Bool := decide (farN f.period a b ≤ f.near)
def atL (l : List Int) (k : Int) : Int := l[k.toNat]?.getD 0
def Qm4 (f : Fig) (starts : List Int) (seam s : Int) : Bool := Qv2 f (modN (atL starts seam + pull f.run s) f.period) (atL starts ((seam + 1).tmod starts.length))
theorem Qrm {l s : Int} (hl : 0 ≤ l ∧ l ≤ 2000) (hs : 0 ≤ s ∧ s ≤ 1000) : 0 ≤ pull l s ∧ pull l s ≤ 4000 := by
 have m1 : 0 ≤ l * (1000 + s) := X0 hl.1 (by omega)
 have m2 : l * (1000 + s) ≤ 2000 * 2000 := Int.mul_le_mul hl.2 (by omega) (by omega) (by omega)
 unfold pull
 rw [Zm m1]
 omega
end Go.C02
set_option linter.unusedSimpArgs false
set_option linter.unusedVariables false
namespace Go.C02
open Go.Fam Go.Proofs
def Qnl (f : Fig) (l starts : List Int) (seam : Int) : Nat := (l.filter (Qm4 f starts seam)).length
def Qbx (f : Fig) : List (List Int) := f.dome.gores.map fun g => Qav (Qf5 f.dome g)
theorem Qux {p a u b : Int} (hp : 0 < p) (hu : 0 ≤ u) : farN p (modN (a + u) p) b = farN p (u.tmod p) (modN (b - a) p) := by
 unfold farN
 have hp0 : p ≠ 0 := by omega
 simp only [Qds hp]
 rw [Xd hu]
 have h1 : ((a + u) % p - b) % p = (u % p - (b - a) % p) % p := by
  rw [Xa, Xj, Xa]
  congr 1; omega
 have h2 : (b - (a + u) % p) % p = ((b - a) % p - u % p) % p := by
  rw [Xa, Xj, Xj]
  congr 1; omega
 rw [h1, h2]
theorem Qte (f : Fig) (s : Int) : Qg9 f s = (pull f.run s).tmod f.period := rfl
theorem Qrj {f : Fig} (hp : 1 ≤ f.period) (hr : 0 ≤ f.run ∧ f.run ≤ 2000) {starts : List Int} {seam s : Int} (hs : 0 ≤ s ∧ s ≤ 1000) :
  Qm4 f starts seam s = decide (farN f.period (Qg9 f s) (modN (atL starts ((seam + 1).tmod starts.length) - atL starts seam) f.period) ≤ f.near) := by
 unfold Qm4 Qv2
 rw [Qux (by omega) (Qrm hr hs).1, Qte]
theorem Qt9 {f : Fig} (hp : 1 ≤ f.period) (hr : 0 ≤ f.run ∧ f.run ≤ 2000) {l starts : List Int} {seam : Int} (hs : ∀ s ∈ l, 0 ≤ s ∧ s ≤ 1000) :
  Qnl f l starts seam = Qh6 f.period (l.map (Qg9 f)) (modN (atL starts ((seam + 1).tmod starts.length) - atL starts seam) f.period) f.near := by
 unfold Qnl Qh6
 rw [List.filter_map, Qo]
 congr 1
 refine X9 fun s h => ?_
 exact Qrj hp hr (hs s h)
theorem Qrl {f : Fig} (h : Qbi f = 0) : ∀ l ∈ Qbx f, l.length < 1000 ∧ ∀ s ∈ l, 0 ≤ s ∧ s ≤ 60 := by
 have hv := Qdh h
 have hd := hv.dome
 intro l hl
 obtain ⟨g, hg, rfl⟩ := Zp.1 hl
 have hgm := hd.gores g hg
 obtain ⟨b, hbb⟩ : ∃ b, f.dome.bolts[g.toNat]? = some b := ⟨_, Qu (by omega)⟩
 have hvb := hd.bolts b (Q6 hbb)
 have hba : Qf5 f.dome g = b := by simp [Qf5, hbb]
 have hst := hvb.st
 have hnl := Qd6 hvb
 rw [hba]
 refine ⟨by omega, fun s hs => ?_⟩
 simp only [Qav, Xh, Qhf] at hs
 omega
theorem Qp4 (f : Fig) : (Qbf f).moves = (Qbx f).map fun l => l.map (Qg9 f) := by
 simp [Qbf, Qbx, Qfc]
theorem Qm7 {f : Fig} {seam : Int} {l : List Int} (h : (Qbx f)[seam.toNat]? = some l) : Qca (Qbf f) seam = l.map (Qg9 f) := by
 unfold Qca
 rw [Qp4, Qz, h]; rfl
end Go.C02
set_option linter.unusedSimpArgs false
set_option linter.unusedVariables false
namespace Go.C02
open Go.Fam Go.Proofs
def Qjt (f : Fig) (l : List (List Int)) (starts : List Int) : Bool := (Zx starts.length).all fun i : Nat => decide (Qnl f (l[i]?.getD []) starts i = (l[i]?.getD []).length)
def Qqd (f : Fig) (l : List Int) (a b : Int) : Bool := l.all fun s => Qv2 f (modN (a + pull f.run s) f.period) b
end Go.C02
set_option linter.unusedSimpArgs false
set_option linter.unusedVariables false
namespace Go.C02
open Go.Fam Go.Proofs
def Qhc (f : Fig) (l : List (List Int)) (first : List Int) (rec_ : List Int → Int) (best : Int) (start : Nat) : Int :=
 if first ≠ [] ∧ Qqd f (l[first.length - 1]?.getD []) (first[first.length - 1]?.getD 0) start = false then best
 else if 0 ≤ rec_ (first ++ [(start : Int)]) ∧ (best < 0 ∨ rec_ (first ++ [(start : Int)]) < best) then rec_ (first ++ [(start : Int)]) else best
def Qg7 (f : Fig) (l : List (List Int)) : Nat → List Int → Int
 | 0, first => if Qjt f l first then first.sum else -1
 | k + 1, first => (Zx f.period.toNat).foldl (fun best start => Qhc f l first (Qg7 f l k) best start) (-1)
def Qg8 (f : Fig) (first : List Int) : Int := Qg7 f (Qbx f) (f.starts.length - first.length) first
end Go.C02
set_option linter.unusedSimpArgs false
set_option linter.unusedVariables false
namespace Go.C02
open Go.Fam Go.Proofs
structure NB (r : Ring) (near : Int) (l : List Int) : Prop where
 len : l.length = r.moves.length
 in_ : ∀ x ∈ l, 0 ≤ x ∧ x < r.fig.period
 meet : ∀ i : Nat, i < r.moves.length → Qdb r.fig.period (Qca r i) (modN (l.getD ((i + 1) % r.moves.length) 0 - l.getD i 0) r.fig.period) near = 1
structure Part (r : Ring) (near first : Int) (k : Nat) (l : List Int) (a : Int) : Prop where
 len : l.length = k + 1
 hd : l.getD 0 0 = first
 lst : l.getD k 0 = a
 in_ : ∀ x ∈ l, 0 ≤ x ∧ x < r.fig.period
 meet : ∀ i : Nat, i < k → Qdb r.fig.period (Qca r i) (modN (l.getD (i + 1) 0 - l.getD i 0) r.fig.period) near = 1
theorem Qke {r : Ring} {near : Int} {k : Nat} (h : k < r.moves.length) : (Qb2 r near)[k]? = some (Qcd r near k r.fig.period.toNat) := by
 unfold Qb2 Qcu
 rw [Qz, List.getElem?_range h]; rfl
theorem Qfu {r : Ring} {near : Int} {k n : Nat} {s : Int} : s ∈ Qcd r near k n ↔ (0 ≤ s ∧ s < n) ∧ Qdb r.fig.period (Qca r k) s near = 1 := by
 unfold Qcd
 simp only [Xh, Zp, Xb, decide_eq_true_eq]
 constructor
 ·rintro ⟨⟨i, hi, rfl⟩, h⟩
  exact ⟨by omega, h⟩
 ·rintro ⟨h1, h2⟩
  exact ⟨⟨s.toNat, by omega, by omega⟩, h2⟩
theorem Qtd {p a : Int} (hp : 0 < p) (h : 0 ≤ a ∧ a < p) : modN a p = a := by
 rw [Qds hp, Xk h.1 h.2]
theorem Qnp {p a s : Int} (hp : 0 < p) (hs : 0 ≤ s ∧ s < p) : modN (modN (a + s) p - a) p = s := by
 rw [Qds hp, Qds hp, Xa, show a + s - a = s by omega, Xk hs.1 hs.2]
theorem Qno {p a b : Int} (hp : 0 < p) (hb : 0 ≤ b ∧ b < p) : modN (a + modN (b - a) p) p = b := by
 rw [Qds hp, Qds hp, Int.add_emod_emod, show a + (b - a) = b by omega, Xk hb.1 hb.2]
theorem Qch {l m : List Int} {i : Nat} (h : i < l.length) : (l ++ m).getD i 0 = l.getD i 0 := by
 simp only [Qf]; rw [Xs h]
theorem Qdy {l : List Int} {x : Int} {i : Nat} (h : i = l.length) : (l ++ [x]).getD i 0 = x := by
 subst h
 simp only [Qf]; rw [Zu (Zq _), Xe]; rfl
theorem Qos {l : List Int} {i : Nat} {P : Int → Prop} (h : i < l.length) (hP : ∀ x ∈ l, P x) : P (l.getD i 0) := hP _ (Qsn h)
theorem Qpj {r : Ring} (h : OkR r) {near first : Int} (hf : 0 ≤ first ∧ first < r.fig.period) : ∀ (k : Nat) (l : List Int) (a : Int), k < r.moves.length → (Wy r.fig.period first ((Qb2 r near).take k) l a ↔ Part r near first k l a) := by
  have hp := h.period
  intro k
  induction k with
  | zero =>
    intro l a _
    rw [Qr]
    constructor
    · intro hw
      obtain ⟨rfl, rfl⟩ := Qw6 hw
      exact ⟨rfl, rfl, rfl, fun x hx => by have : x = a := by simpa using hx
                                           rw [this]; exact hf, fun i hi => by omega⟩
    · rintro ⟨h1, h2, h3, _, _⟩
      obtain ⟨x, rfl⟩ := List.length_eq_one_iff.1 h1
      simp at h2 h3
      subst h2 h3
      exact .nil
  | succ k ih =>
    intro l a hk
    rw [Qb4 (Qke (by omega))]
    constructor
    · intro hw
      obtain ⟨l0, a0, s, hw1, hs, rfl, rfl⟩ := Qua hw
      obtain ⟨h1, h2, h3, h4, h5⟩ := (ih l0 a0 (by omega)).1 hw1
      rw [Qfu] at hs
      obtain ⟨hs1, hs2⟩ := hs
      have hm := Qjw (a := a0 + s) (p := r.fig.period) (by omega)
      refine ⟨by simp [h1], by rw [Qch (by omega)]; exact h2, Qdy h1.symm, fun x hx => ?_, fun i hi => ?_⟩
      · rcases Z7.1 hx with hx | hx
        · exact h4 x hx
        · have : x = modN (a0 + s) r.fig.period := by simpa using hx
          rw [this]; exact hm
      · by_cases e : i = k
        · subst e
          rw [Qdy h1.symm, Qch (by omega), h3, Qnp (by omega) (by omega)]
          exact hs2
        · rw [Qch (by omega), Qch (by omega)]
          exact h5 i (by omega)
    · rintro ⟨h1, h2, h3, h4, h5⟩
      have hne : l ≠ [] := fun e => by rw [e] at h1; simp at h1
      obtain ⟨l0, x, rfl⟩ : ∃ l0 x, l = l0 ++ [x] := ⟨_, _, (List.dropLast_concat_getLast hne).symm⟩
      have hl0 : l0.length = k + 1 := by simpa using h1
      rw [Qdy hl0.symm] at h3
      subst h3
      have hx := h4 x (by simp)
      have hpart : Part r near first k l0 (l0.getD k 0) := by
        refine ⟨hl0, by rw [Qch (by omega)] at h2; exact h2, rfl, fun y hy => h4 y (by simp [hy]), fun i hi => ?_⟩
        have := h5 i (by omega)
        rwa [Qch (by omega), Qch (by omega)] at this
      have hw := (ih l0 _ (by omega)).2 hpart
      have h6 := h5 k (by omega)
      rw [Qdy hl0.symm, Qch (by omega)] at h6
      have hb := Qjw (a := x - l0.getD k 0) (p := r.fig.period) (by omega)
      have := Wy.snoc (st := Qcd r near k r.fig.period.toNat) (s := modN (x - l0.getD k 0) r.fig.period) hw (Qfu.2 ⟨by omega, h6⟩)
      rw [Qno (by omega) hx] at this
      exact this
theorem Qpm {r : Ring} (h : OkR r) (near : Int) (l : List Int) : Begs r near l ↔ NB r near l := by
 have hp := h.period
 have hlen := h.len
 obtain ⟨n, hn⟩ : ∃ n, r.moves.length = n + 1 := ⟨r.moves.length - 1, by omega⟩
 constructor
 ·rintro ⟨first, hf, a, hw, hm⟩
  rw [hn, Xi] at hw
  obtain ⟨h1, h2, h3, h4, h5⟩ := (Qpj h hf n l a (by omega)).1 hw
  refine ⟨by omega, h4, fun i hi => ?_⟩
  by_cases e : i = n
  ·subst e
   rw [hn, Nat.mod_self, h2, h3]
   have e : ((i + 1 : Nat) : Int) - 1 = (i : Nat) := by omega
   rw [hn, e] at hm
   exact hm
  ·rw [hn, Jd (by omega)]
   exact h5 i (by omega)
 ·rintro ⟨h1, h2, h3⟩
  have hf : 0 ≤ l.getD 0 0 ∧ l.getD 0 0 < r.fig.period := Qos (P := fun x => 0 ≤ x ∧ x < r.fig.period) (by omega) h2
  refine ⟨l.getD 0 0, hf, l.getD n 0, ?_, ?_⟩
  ·rw [hn, Xi]
   refine (Qpj h hf n l _ (by omega)).2 ⟨by omega, rfl, rfl, h2, fun i hi => ?_⟩
   have := h3 i (by omega)
   rwa [hn, Jd (by omega)] at this
  ·have := h3 n (by omega)
   rw [hn, Nat.mod_self] at this
   have e : ((n + 1 : Nat) : Int) - 1 = (n : Nat) := by omega
   rw [hn, e]
   exact this
theorem Qxi {p : Int} (steps : List (List Int)) : ∀ (k : Nat), k ≤ steps.length → ∀ y, atS p (steps.take k) (· = 0) y ↔ ∃ l, Wy p 0 (steps.take k) l y := by
 intro k
 induction k with
 | zero =>
  intro _ y
  rw [Qr]
  constructor
  ·intro h
   have : y = 0 := h
   subst this
   exact ⟨[0], .nil⟩
  ·rintro ⟨l, hw⟩
   exact (Qw6 hw).2
 | succ k ih =>
  intro hk y
  obtain ⟨st, hst⟩ : ∃ st, steps[k]? = some st := ⟨_, Qu hk⟩
  rw [Qb4 hst]
  unfold atS at ih ⊢
  rw [Z9]
  constructor
  ·rintro ⟨a, ha, s, hs, rfl⟩
   obtain ⟨l, hw⟩ := (ih (by omega) a).1 ha
   exact ⟨_, .snoc hw hs⟩
  ·rintro ⟨l, hw⟩
   obtain ⟨l0, a, s, hw, hs, e, _⟩ := Qua hw
   exact ⟨a, (ih (by omega) a).2 ⟨l0, hw⟩, s, hs, e⟩
theorem NB.shift {r : Ring} (h : OkR r) {near : Int} {l : List Int} (hl : NB r near l) (c : Int) : NB r near (l.map fun x => modN (x + c) r.fig.period) := by
 have hp := h.period
 have hlen := h.len
 refine ⟨by rw [Qo]; exact hl.len, fun x hx => ?_, fun i hi => ?_⟩
 ·obtain ⟨y, _, rfl⟩ := Zp.1 hx
  exact Qjw (by omega)
 ·have hg : ∀ j, j < r.moves.length → (l.map fun x => modN (x + c) r.fig.period).getD j 0 = modN (l.getD j 0 + c) r.fig.period := fun j hj => by
   simp only [Qf, Qz]
   rw [Qu (by rw [hl.len]; exact hj)]; rfl
  rw [hg _ (Nat.mod_lt _ (by omega)), hg _ hi]
  have := hl.meet i hi
  rw [← this]
  congr 1
  simp only [Qds (show 0 < r.fig.period by omega)]
  rw [Xa, Xj]
  congr 1; omega
theorem Qr4 {r : Ring} (h : OkR r) (near : Int) : Qib r near ↔ ∃ l, NB r near l := by
 have hp := h.period
 have hlen := h.len
 obtain ⟨n, hn⟩ : ∃ n, r.moves.length = n + 1 := ⟨r.moves.length - 1, by omega⟩
 have hsl : (Qb2 r near).length = n + 1 := by simp [Qb2, Qcu, hn]
 have e0 : Qb2 r near = (Qb2 r near).take n ++ [Qcd r near n r.fig.period.toNat] := by
  rw [← Qb4 (Qke (by omega)), Z5 (by omega)]
 have key : Qib r near ↔ ∃ l, Beg r near 0 l := by
  unfold Qib Beg
  rw [e0]
  unfold atS
  rw [Z9, hn, Xi]
  have hta : List.take n ((Qb2 r near).take n ++ [Qcd r near n r.fig.period.toNat]) = (Qb2 r near).take n := by
   rw [List.take_append_of_le_length (by rw [Xl]; omega), List.take_take, Nat.min_self]
  have e1 : ((n + 1 : Nat) : Int) - 1 = (n : Nat) := by omega
  rw [hta, e1]
  constructor
  ·rintro ⟨a, ha, s, hs, e⟩
   obtain ⟨l, hw⟩ := (Qxi (p := r.fig.period) (Qb2 r near) n (by omega) a).1 ha
   rw [Qfu] at hs
   refine ⟨l, a, hw, ?_⟩
   have : modN (0 - a) r.fig.period = s := by rw [e]; exact Qnp (by omega) (by omega)
   rw [this]; exact hs.2
  ·rintro ⟨l, a, hw, hm⟩
   refine ⟨a, (Qxi (p := r.fig.period) (Qb2 r near) n (by omega) a).2 ⟨l, hw⟩, modN (0 - a) r.fig.period, Qfu.2 ⟨?_, hm⟩, (Qno (by omega) (by omega)).symm⟩
   have := Qjw (a := 0 - a) (p := r.fig.period) (by omega)
   omega
 rw [key]
 constructor
 ·rintro ⟨l, hl⟩
  exact ⟨l, (Qpm h near l).1 ⟨0, by omega, hl⟩⟩
 ·rintro ⟨l, hl⟩
  have h2 := hl.shift h (- l.getD 0 0)
  obtain ⟨first, hf, hb⟩ := (Qpm h near _).2 h2
  have : first = 0 := by
   obtain ⟨a, hw, _⟩ := hb
   rw [hn, Xi] at hw
   have hpart := (Qpj h hf n _ a (by omega)).1 hw
   have e := hpart.hd
   simp only [Qf, Qz] at e
   have hl0 := hl.len
   rw [Qu (show 0 < l.length by omega)] at e
   simp only [Q9, Qt] at e
   rw [← e, Int.add_right_neg]
   exact Qtd (by omega) (by omega)
  subst this
  exact ⟨_, hb⟩
end Go.C02
set_option linter.unusedSimpArgs false
set_option linter.unusedVariables false
namespace Go.C02
open Go.Fam Go.Proofs
def IsB (f : Fig) (l : List Int) : Prop := l.length = f.starts.length ∧ (∀ x ∈ l, 0 ≤ x ∧ x < f.period) ∧ Qjt f (Qbx f) l = true
theorem Qit (l : List Int) (i : Nat) : atL l (i : Nat) = l.getD i 0 := by
 unfold atL; rw [Q4, Qf]
theorem Qta {p : Int} {ms : List Int} {later near : Int} : Qdb p ms later near = 1 ↔ Qh6 p ms later near = ms.length := by
 unfold Qdb
 split
 ·simp_all
 ·rename_i h
  split <;> simp [h]
theorem Qi1 {f : Fig} (h : Qbi f = 0) {starts : List Int} (hl : starts.length = f.starts.length) {i : Nat} (hi : i < f.starts.length) :
  Qnl f ((Qbx f)[i]?.getD []) starts i = ((Qbx f)[i]?.getD []).length ↔
   Qdb f.period (Qca (Qbf f) i) (modN (starts.getD ((i + 1) % f.starts.length) 0 - starts.getD i 0) f.period) f.near = 1 := by
 have hv := Qdh h
 have hns := hv.ns
 have hbl : (Qbx f).length = f.dome.gores.length := by simp [Qbx]
 obtain ⟨l, hlb⟩ : ∃ l, (Qbx f)[i]? = some l := ⟨_, Qu (by omega)⟩
 obtain ⟨h1, h2⟩ := Qrl h l (Q6 hlb)
 have hm : Qca (Qbf f) i = l.map (Qg9 f) := Qm7 (by rw [Q4]; exact hlb)
 have e1 : ((i : Int) + 1).tmod starts.length = (((i + 1) % f.starts.length : Nat) : Int) := by
  rw [Xd (by omega), Int.natCast_emod, hl]; simp only [Zb, Q1]
 rw [Qta, hm, hlb, Qt, Qt9 hv.period.1 hv.run (fun s hs => by have := h2 s hs; omega), Qo, e1, Qit, Qit]
theorem Qgj {f : Fig} (h : Qbi f = 0) {starts : List Int} (hl : starts.length = f.starts.length) :
  Qjt f (Qbx f) starts = true ↔ ∀ i : Nat, i < f.starts.length → Qdb f.period (Qca (Qbf f) i) (modN (starts.getD ((i + 1) % f.starts.length) 0 - starts.getD i 0) f.period) f.near = 1 := by
 unfold Qjt
 rw [Zy]
 constructor
 ·intro ha i hi
  have := ha i (Xb.2 (by omega))
  rw [decide_eq_true_eq] at this
  exact (Qi1 h hl hi).1 this
 ·intro ha i hi
  rw [Xb] at hi
  rw [decide_eq_true_eq]
  exact (Qi1 h hl (by omega)).2 (ha i (by omega))
theorem Qou {f : Fig} (h : Qbi f = 0) (l : List Int) : IsB f l ↔ NB (Qbf f) f.near l := by
 have hns := (Qdh h).ns
 have hml : (Qbf f).moves.length = f.starts.length := by rw [hns]; simp [Qbf]
 constructor
 ·rintro ⟨h1, h2, h3⟩
  refine ⟨by rw [hml]; exact h1, h2, fun i hi => ?_⟩
  rw [hml]
  exact (Qgj h h1).1 h3 i (by omega)
 ·rintro ⟨h1, h2, h3⟩
  rw [hml] at h1 h3
  exact ⟨h1, h2, (Qgj h h1).2 h3⟩
def Qpk (f : Fig) (T : List Int → Prop) (v : Int) : Prop := (v = -1 ∧ ∀ l, ¬ (T l ∧ IsB f l)) ∨ (∃ l, T l ∧ IsB f l ∧ v = l.sum ∧ ∀ l', T l' → IsB f l' → l.sum ≤ l'.sum)
theorem Qov {f : Fig} {l : List Int} (h : IsB f l) : 0 ≤ l.sum := by
 have := Qye (l := l) (fun x hx => (h.2.1 x hx).1) l.length
 rw [Zf] at this
 exact this.1
theorem Qox {f : Fig} {l : List Int} {z b : Int} : Qqd f l z b = true ↔ l.length = (l.filter fun s => Qv2 f (modN (z + pull f.run s) f.period) b).length := by
 unfold Qqd
 rw [Zy]
 constructor
 ·intro h
  rw [Xf.2 h]
 ·intro h s hs
  have := Xf.1 (List.Sublist.eq_of_length (List.filter_sublist) h.symm)
  exact this s hs
theorem Qoy {f : Fig} (h : Qbi f = 0) : ∀ (k : Nat) (first : List Int), first.length + k = f.starts.length → (∀ x ∈ first, 0 ≤ x ∧ x < f.period) → Qpk f (fun l => first <+: l) (Qg7 f (Qbx f) k first) := by
 have hper := (Qdh h).period
 have hns := (Qdh h).ns
 intro k
 induction k with
 | zero =>
  intro first hl hf
  unfold Qg7
  by_cases hm : Qjt f (Qbx f) first = true
  ·rw [if_pos hm]
   refine .inr ⟨first, List.prefix_refl _, ⟨by omega, hf, hm⟩, rfl, fun l' hp hb => ?_⟩
   have : first = l' := hp.eq_of_length (by have := hb.1; omega)
   rw [this]; exact Int.le_refl _
  ·rw [if_neg hm]
   refine .inl ⟨rfl, fun l ⟨hp, hb⟩ => ?_⟩
   have : first = l := hp.eq_of_length (by have := hb.1; omega)
   subst this
   exact hm hb.2.2
 | succ k ih =>
  intro first hl hf
  unfold Qg7
  have key : ∀ n : Nat, (n : Int) ≤ f.period → Qpk f (fun l => first <+: l ∧ l.getD first.length 0 < n) ((Zx n).foldl (fun best start => Qhc f (Qbx f) first (Qg7 f (Qbx f) k) best start) (-1)) := by
   intro n
   induction n with
   | zero =>
    intro _
    refine .inl ⟨rfl, fun l ⟨⟨hp, hlt⟩, hb⟩ => ?_⟩
    have := Qos (P := fun x => 0 ≤ x ∧ x < f.period) (show first.length < l.length by have := hb.1; omega) hb.2.1
    omega
   | succ n ihn =>
    intro hn
    have ihn := ihn (by omega)
    rw [Xw, Z9, List.foldl_cons, List.foldl_nil]
    obtain ⟨best, hbest⟩ : ∃ best, best = (Zx n).foldl (fun best start => Qhc f (Qbx f) first (Qg7 f (Qbx f) k) best start) (-1) := ⟨_, rfl⟩
    rw [← hbest] at ihn ⊢
    have hin : ∀ x ∈ first ++ [(n : Int)], 0 ≤ x ∧ x < f.period := by
     intro x hx
     rcases Z7.1 hx with hx | hx
     ·exact hf x hx
     ·have : x = n := by simpa using hx
      omega
    have hrec := ih (first ++ [(n : Int)]) (by simp; omega) hin
    have hsplit : ∀ l, IsB f l → (first <+: l ∧ l.getD first.length 0 < ((n + 1 : Nat) : Int)) → (first <+: l ∧ l.getD first.length 0 < n) ∨ first ++ [(n : Int)] <+: l := by
     rintro l hb ⟨hp, hlt⟩
     by_cases e : l.getD first.length 0 < n
     ·exact .inl ⟨hp, e⟩
     ·right
      obtain ⟨t, rfl⟩ := hp
      have hb1 := hb.1
      cases t with
      | nil => simp at hb1; omega
      | cons x t =>
       have : (first ++ x :: t).getD first.length 0 = x := by
        simp only [Qf]; rw [Zu (Zq _), Xe]; rfl
       rw [this] at hlt e
       have : x = n := by omega
       subst this
       exact ⟨t, by simp⟩
    have hpre : ∀ l, first ++ [(n : Int)] <+: l → first <+: l ∧ l.getD first.length 0 < ((n + 1 : Nat) : Int) := by
     rintro l ⟨t, rfl⟩
     refine ⟨⟨(n : Int) :: t, by simp⟩, ?_⟩
     have : (first ++ [(n : Int)] ++ t).getD first.length 0 = n := by
      simp only [Qf, Z0]; rw [Zu (Zq _), Xe]; rfl
     rw [this]; omega
    unfold Qhc
    by_cases hj : first ≠ [] ∧ Qqd f ((Qbx f)[first.length - 1]?.getD []) (first[first.length - 1]?.getD 0) n = false
    ·rw [if_pos hj]
     have hnone : ∀ l, IsB f l → ¬ first ++ [(n : Int)] <+: l := by
      rintro l hb ⟨t, rfl⟩
      have hlen : 0 < first.length := List.length_pos_iff.2 hj.1
      have hb1 := hb.1
      have h1 := (Qgj h hb1).1 hb.2.2 (first.length - 1) (by simp at hb1; omega)
      rw [← Qi1 h hb1 (by simp at hb1; omega)] at h1
      have hnot := hj.2
      rw [X6] at hnot
      apply hnot
      rw [Qox]
      unfold Qnl at h1
      rw [← h1]
      congr 1
      refine X9 fun s _ => ?_
      unfold Qm4
      have e1 : (((first.length - 1 : Nat) : Int) + 1).tmod (first ++ [(n : Int)] ++ t).length = (first.length : Nat) := by
       rw [Xd (by omega), show ((first.length - 1 : Nat) : Int) + 1 = first.length by omega, Xk (by omega) (by simp; omega)]
      rw [e1, Qit, Qit]
      have e2 : (first ++ [(n : Int)] ++ t).getD first.length 0 = n := by
       simp only [Qf, Z0]; rw [Zu (Zq _), Xe]; rfl
      have e3 : (first ++ [(n : Int)] ++ t).getD (first.length - 1) 0 = first[first.length - 1]?.getD 0 := by
       simp only [Qf, Z0]; rw [Xs (by omega)]
      rw [e2, e3]
     rcases ihn with ⟨e, hno⟩ | ⟨l, ⟨hT, hlt⟩, hb, e, hmin⟩
     ·exact .inl ⟨e, fun l ⟨hT, hb⟩ => by
       rcases hsplit l hb hT with h' | h'
       ·exact hno l ⟨h', hb⟩
       ·exact hnone l hb h'⟩
     ·refine .inr ⟨l, ⟨hT, by omega⟩, hb, e, fun l' hT' hb' => ?_⟩
      rcases hsplit l' hb' hT' with h' | h'
      ·exact hmin l' h' hb'
      ·exact absurd h' (hnone l' hb')
    ·rw [if_neg hj]
     rcases hrec with ⟨e2, hno2⟩ | ⟨l2, hT2, hb2, e2, hmin2⟩
     ·rw [if_neg (by rw [e2]; omega)]
      rcases ihn with ⟨e, hno⟩ | ⟨l, ⟨hT, hlt⟩, hb, e, hmin⟩
      ·exact .inl ⟨e, fun l ⟨hT, hb⟩ => by
        rcases hsplit l hb hT with h' | h'
        ·exact hno l ⟨h', hb⟩
        ·exact hno2 l ⟨h', hb⟩⟩
      ·refine .inr ⟨l, ⟨hT, by omega⟩, hb, e, fun l' hT' hb' => ?_⟩
       rcases hsplit l' hb' hT' with h' | h'
       ·exact hmin l' h' hb'
       ·exact absurd ⟨h', hb'⟩ (hno2 l')
     ·have h0 := Qov hb2
      rcases ihn with ⟨e, hno⟩ | ⟨l, ⟨hT, hlt⟩, hb, e, hmin⟩
      ·rw [if_pos ⟨by omega, .inl (by omega)⟩]
       refine .inr ⟨l2, hpre l2 hT2, hb2, e2, fun l' hT' hb' => ?_⟩
       rcases hsplit l' hb' hT' with h' | h'
       ·exact absurd ⟨h', hb'⟩ (hno l')
       ·exact hmin2 l' h' hb'
      ·have h1 := Qov hb
       by_cases hlt2 : l2.sum < l.sum
       ·rw [if_pos ⟨by omega, .inr (by omega)⟩]
        refine .inr ⟨l2, hpre l2 hT2, hb2, e2, fun l' hT' hb' => ?_⟩
        rcases hsplit l' hb' hT' with h' | h'
        ·have := hmin l' h' hb'; omega
        ·exact hmin2 l' h' hb'
       ·rw [if_neg (by omega)]
        refine .inr ⟨l, ⟨hT, by omega⟩, hb, e, fun l' hT' hb' => ?_⟩
        rcases hsplit l' hb' hT' with h' | h'
        ·exact hmin l' h' hb'
        ·have := hmin2 l' h' hb'; omega
  have hk := key f.period.toNat (by omega)
  have hall : ∀ l, IsB f l → first <+: l → (first <+: l ∧ l.getD first.length 0 < (f.period.toNat : Int)) := fun l hb hp => by
   refine ⟨hp, ?_⟩
   have := Qos (P := fun x => 0 ≤ x ∧ x < f.period) (show first.length < l.length by have := hb.1; omega) hb.2.1
   omega
  rcases hk with ⟨e, hno⟩ | ⟨l, ⟨hT, hlt⟩, hb, e, hmin⟩
  ·exact .inl ⟨e, fun l ⟨hp, hb⟩ => hno l ⟨hall l hb hp, hb⟩⟩
  ·exact .inr ⟨l, hT, hb, e, fun l' hp hb' => hmin l' (hall l' hb' hp) hb'⟩
theorem Qoz {f : Fig} (h : Qbi f = 0) : (Qg8 f [] = -1 ∧ ∀ l, ¬ NB (Qbf f) f.near l) ∨ (∃ l, NB (Qbf f) f.near l ∧ Qg8 f [] = l.sum ∧ 0 ≤ l.sum ∧ ∀ l', NB (Qbf f) f.near l' → l.sum ≤ l'.sum) := by
 have := Qoy h f.starts.length [] (by simp) (by simp)
 unfold Qg8
 rw [Qh, Nat.sub_zero]
 rcases this with ⟨e, hno⟩ | ⟨l, _, hb, e, hmin⟩
 ·exact .inl ⟨e, fun l hl => hno l ⟨Jk, (Qou h l).2 hl⟩⟩
 ·exact .inr ⟨l, (Qou h l).1 hb, e, Qov hb, fun l' hl => hmin l' Jk ((Qou h l').2 hl)⟩
end Go.C02
set_option linter.unusedSimpArgs false
set_option linter.unusedVariables false
namespace Go.C02
open Go.Fam Go.Proofs
def Qcl (f : Fig) (n : Int) : Fig := { f with near := n }
theorem Qpi {f : Fig} (h : Qbi f = 0) {n : Int} (hn : 0 ≤ n ∧ n ≤ f.period / 2) : Qbi (Qcl f n) = 0 := by
 have hv := Qdh h
 have hp := hv.period
 unfold Qbi at h ⊢
 show (if Qc3 f.dome ≠ 0 then Qc3 f.dome else if Qdq (Qcl f n) then 0 else 40) = 0
 split at h
 ·rename_i h1; exact absurd h h1
 ·rename_i h1
  rw [if_neg h1, if_pos]
  have hg : Qdq f = true := by
   split at h
   ·assumption
   ·cases h
  unfold Qdq at hg ⊢
  simp only [Z2] at hg ⊢
  obtain ⟨⟨⟨⟨⟨⟨a1, a2⟩, a3⟩, a4⟩, a5⟩, a6⟩, a7⟩ := hg
  refine ⟨⟨⟨⟨⟨⟨a1, a2⟩, ?_⟩, a4⟩, a5⟩, a6⟩, a7⟩
  show Qak n 0 (f.period.tdiv 2) = true
  rw [Zm (by omega)]
  simp only [Qak, Z2, decide_eq_true_eq]
  exact hn
theorem Qtf (f : Fig) (n m : Int) (l : List Int) : NB (Qbf (Qcl f n)) m l ↔ NB (Qbf f) m l :=
 ⟨fun h => ⟨h.len, h.in_, h.meet⟩, fun h => ⟨h.len, h.in_, h.meet⟩⟩
theorem Qfa {f : Fig} (h : Qbi f = 0) {n : Int} (hn : 0 ≤ n ∧ n ≤ f.period / 2) : Qg8 (Qcl f n) [] < 0 ↔ Qcs (Qbf f) n = false := by
 have hc : Qcs (Qbf f) n = false ↔ ¬ Qib (Qbf f) n := by
  rw [← Qj5]; simp
 rw [hc, Qr4 (Qnr h) n]
 have hw := Qpi h hn
 rcases Qoz hw with ⟨e, hno⟩ | ⟨l, hl, e, h0, hmin⟩
 ·rw [e]
  constructor
  ·rintro _ ⟨l, hl⟩
   exact hno l ((Qtf f n n l).2 hl)
  ·intro _; omega
 ·rw [e]
  constructor
  ·intro h1; omega
  ·intro h1
   exact absurd ⟨l, (Qtf f n n l).1 hl⟩ h1
end Go.C02
set_option linter.unusedSimpArgs false
set_option linter.unusedVariables false
namespace Go.C02
open Go.Fam Go.Proofs
noncomputable def H24 : Gam := H7
theorem Qyq : GOk Try.prog H24 := okH7
end Go.C02
set_option linter.unusedSimpArgs false
set_option linter.unusedVariables false
namespace Go.C02
open Go.Fam Go.Proofs
noncomputable def H25 : Gam := H24
theorem Qyr : GOk Try.prog H25 := Qyq
end Go.C02
set_option linter.unusedSimpArgs false
set_option linter.unusedVariables false
namespace Go.C02
open Go.Fam Go.Proofs
noncomputable def H26 : Gam := H25
theorem Qys : GOk Try.prog H26 := by
 exact Qyr
noncomputable def H27 : Gam := H26
theorem Qyt : GOk Try.prog H27 := Qys
def exF : Fig := ⟨exD, 12, 100, 1, [0, 3, 8, 0], [5, 3, 8, 2]⟩
theorem Qq4 : Qbi exF = 0 := by kernel_rfl
theorem Quw : Qgl exF true = 0 := by kernel_rfl
theorem Qwp : Qbx exF = [[5, 6, 7, 8, 9, 10], [5, 6, 7, 8, 9, 10], [0, 1, 2, 3, 4, 5, 6, 7, 8, 9, 10], [0, 1, 2, 3, 4, 5, 6, 7, 8, 9, 10]] := by kernel_rfl
def exBs : List (List Int) := [[5, 6, 7, 8, 9, 10], [5, 6, 7, 8, 9, 10], [0, 1, 2, 3, 4, 5, 6, 7, 8, 9, 10], [0, 1, 2, 3, 4, 5, 6, 7, 8, 9, 10]]
theorem Qsf : Qg7 (Qcl exF 0) exBs 4 [] = -1 := by kernel_rfl
theorem Qsg : Qg7 (Qcl exF 1) exBs 4 [] = -1 := by kernel_rfl
theorem Qsh : Qg7 (Qcl exF 2) exBs 4 [] = 12 := by kernel_rfl
theorem Qr8 : Qde exF = (2, 0) := by
 unfold Qde
 rw [Quw, if_pos rfl]
 obtain ⟨h1, h2, h3⟩ := Qgy (Qnr Qq4)
 have e0 : Qg8 (Qcl exF 0) [] = -1 := by unfold Qg8; rw [show Qbx (Qcl exF 0) = exBs from Qwp]; exact Qsf
 have e1 : Qg8 (Qcl exF 1) [] = -1 := by unfold Qg8; rw [show Qbx (Qcl exF 1) = exBs from Qwp]; exact Qsg
 have e2 : Qg8 (Qcl exF 2) [] = 12 := by unfold Qg8; rw [show Qbx (Qcl exF 2) = exBs from Qwp]; exact Qsh
 have c0 := (Qfa Qq4 (n := 0) (by decide)).1 (by rw [e0]; decide)
 have c1 := (Qfa Qq4 (n := 1) (by decide)).1 (by rw [e1]; decide)
 have c2 : ¬ Qcs (Qbf exF) 2 = false := fun h => by
  have := (Qfa Qq4 (n := 2) (by decide)).2 h
  rw [e2] at this; exact absurd this (by decide)
 have : Qcf (Qbf exF) = 2 := by
  rcases Nat.lt_trichotomy (Qcf (Qbf exF)) 2 with h | h | h
  ·exfalso
   rcases (show Qcf (Qbf exF) = 0 ∨ Qcf (Qbf exF) = 1 by omega) with e | e
   ·rw [e] at h2; rw [show ((0 : Nat) : Int) = 0 from rfl, c0] at h2; cases h2
   ·rw [e] at h2; rw [show ((1 : Nat) : Int) = 1 from rfl, c1] at h2; cases h2
  ·exact h
  ·exact absurd (h3 2 h) c2
 rw [this]; rfl
theorem PX78 : Qa9 Try.prog 17 [] (.ag (Qaj exD)) := by
 have := O44.toPure
 exact this
noncomputable def H28 : Gam := H27.ext 17 (fnG (fun _ : Unit => []) (fun _ => ()) (fun _ => True) (fun a => a) (fun _ => .ag (Qaj exD)))
theorem Qyu : GOk Try.prog H28 := by
 exact Qyt.ext (f := 17) (fun a w => Try.call17 a w) (Qb7 (e := fun _ : Unit => []) (d := fun _ => ()) (ok := fun _ => True) (g := fun a => a) (eb := fun _ => V.ag (Qaj exD)) fun _ _ => PX78)
theorem z78 : H28 17 [] = (True, .ag (Qaj exD)) := by
 refine (show H28 17 [] = fnG (fun _ : Unit => []) (fun _ => ()) (fun _ => True) (fun a => a) (fun _ => .ag (Qaj exD)) [] from rfl).trans ?_
 simp [fnG]
theorem W49 : Qa9 Try.prog 19 [] (.ag (eFig exF)) := by
 refine Qac Qyu hmix Try.func19 cb19 cc19 cs19 cn19 ?_
 have g1 := z78
 simp only [rc19, rs19, g1, Qa7, Qa8, Qag, Qa6, putB, Qad, Qa5, Qa2, Fam.step, Qae, Qbp, Qau, putB, nv, sv, evO, opv, qv, ldV, Qaw, Qal, putAt, Qb0, Qba, V.cells, Qas, Qaz, Qaa, Qa4, flat, Qd3, Qa3, Qap, Qa0, Qa1, ↓reduceIte, Nat.reduceEqDiff, Nat.reduceAdd, Nat.reduceMul, Nat.reduceLT, Nat.reduceLeDiff, Qb, Qc, Q0, Q3, Qg, Qh, Qk, Qq, Zi, Qe, Qr, Qs, Qj, Qi, Qn, Qd, Qx, Q2, Zd, endQ, rvs, rv1, resV, vw_i, Qb3, Qb1, zipA, Qm, Qw, Q5, Xc, Qv, Qa, true_and, and_self, reduceCtorEq, not_false_eq_true, ne_eq, imp_self, Qaj, eFig]
 rfl
end Go.C02
set_option linter.unusedSimpArgs false
set_option linter.unusedVariables false
namespace Go.C02
open Go.Fam Go.Proofs
section
variable (f : Fig) (l : List Int) (n : Int)
end
end Go.C02
set_option maxRecDepth 8000
namespace Go.C02
open Go.Fam Go.Proofs
def rc8 : RC := (.seq (.reg false [(cX 1 0), (cI 2 0), (cI 3 0)]) (.keep [1,2] (.seq (.reg false [(cLd 8 1 true 6), (cQ 9 [8] (.call (kF 7) [(.t 8)])), (cMv 7 9), (cEx 10 7 0), (cEx 11 7 1), (cMv 4 10), (cMv 3 11)]) (.keep [2,3,4] (.seq (.seq (.reg false [(cMv 12 4), (cLn 13 12), (cI 14 0)]) (.keep [2,3,12,13,14] (.block 0 (.loop [2,3,12,13,14] none (.seq (.reg false [(cB 15 .lss 14 13)]) (.keep [2,3,12,13,14,15] (.seq (.cond (.t 15) .skip (.exit 0)) (.keep [2,3,12,13,14] (.seq (.block 1 (.seq (.reg false [(cA 16 1 12 14), (cLd 17 16 false 1), (cMv 6 17)]) (.keep [2,3,6,12,13,14] (.reg false [(cMv 18 2), (cMv 19 6), (cB 20 .add 18 19), (cMv 2 20)])))) (.keep [2,3,12,13,14] (.reg false [(cC 21 .add 14 1), (cMv 14 21)]))))))))))) (.keep [2,3] (.seq (.reg false [(cMv 22 2), (cMv 23 3), (cMv 2 22), (cMv 3 23)]) .ret)))))))
def pu8 : List Nat := [1]
def rs8 : List RV := [.t 2, .t 3]
theorem cc8 : CCx Try.prog Try.f8 pu8 rc8 := by unfold CCx; kernel_rfl
theorem cb8 : CBx Try.f8 := by unfold CBx; kernel_rfl
theorem cs8 : CSx Try.prog Try.f8 rs8 := by unfold CSx; kernel_rfl
theorem cn8 : 1 ≤ Try.f8.ntmps := by decide
end Go.C02
set_option linter.unusedSimpArgs false
set_option linter.unusedVariables false
namespace Go.CT
open Go.Fam Go.Proofs Go.C02
theorem eq42 : Qat Try.prog 42 2 := Qat.of (fs := _) (show Try.prog.underlying 42 = some (.struct (Try.prog.fieldsOf 42)) by kernel_rfl) (by kernel_rfl) (by kernel_rfl)
theorem Qse : Qlc exD 2 = (⟨802, 808⟩, 0) := by kernel_rfl
noncomputable def KH1 : Gam := (((Γ0.ext 17 (one [] (.ag (Qaj exD)))).ext 16 (one [.ag (Qaj exD), .i 2] (eSE (Qlc exD 2)))).ext 19 (one [] (.ag (eFig exF)))).ext 18 (one [.ag (eFig exF)] (.tp [.i (Qde exF).1, .i (Qde exF).2]))
theorem Qyv : GOk Try.prog KH1 := (((Qlu.ext (f := 17) (fun a w => Try.call17 a w) (Qcc PX78)).ext (f := 16) (fun a w => Try.call16 a w) (Qcc (P23 exD 2 (by decide)))).ext (f := 19) (fun a w => Try.call19 a w) (Qcc Go.C02.W49)).ext (f := 18) (fun a w => Try.call18 a w) (Qcc (Go.C02.W22 exF))
theorem h17 : KH1 17 [] = (True, .ag (Qaj exD)) := (show KH1 17 _ = one _ _ _ from rfl).trans (Qc8 _ _)
theorem h16 : KH1 16 [.ag (Qaj exD), .i 2] = (True, eSE (Qlc exD 2)) := (show KH1 16 _ = one _ _ _ from rfl).trans (Qc8 _ _)
theorem h19 : KH1 19 [] = (True, .ag (eFig exF)) := (show KH1 19 _ = one _ _ _ from rfl).trans (Qc8 _ _)
theorem h18 : KH1 18 [.ag (eFig exF)] = (True, .tp [.i (Qde exF).1, .i (Qde exF).2]) := (show KH1 18 _ = one _ _ _ from rfl).trans (Qc8 _ _)
theorem W6 : Qa9 Try.prog 6 [] (.b true) := by
 refine Qac Qyv hmix Try.func6 cb6 cc6 cs6 cn6 ?_
 have g1 := h17
 have g2 := h16
 have g3 := h19
 have g4 := h18
 rw [Qr8] at g4
 rw [Qse] at g2
 simp only [eFig, exF, Qb, Qc, eI] at g3 g4
 simp only [Qaj, eSE, eSpan] at g1 g2
 simp only [rc6, rs6, g1, g2, g3, g4, eq42, Qa7, Qa8, Qag, Qa6, putB, Qad, Qa5, Qa2, Fam.step, Qae, Qbp, Qbu, Qau, Qb8, ug, putB, nv, sv, evO, opv, qv, Qao, binV, ldV, Qaw, Qal, putAt, Qb0, V.cells, Qas, Qaz, Qdg, Qaa, Qa4, flat, Qd3, Qa3, Qap, Qa0, Qa1, ↓reduceIte, Nat.reduceEqDiff, Nat.reduceAdd, Nat.reduceLT, Nat.reduceLeDiff, Qb, Qc, Q0, Q3, Qg, Qh, Qk, Qq, Zi, Qe, Qr, Qs, Qj, Qi, Qn, Qd, Ql, Qt, Qx, endQ, rvs, rv1, resV, vw_i, vw_b, Qb3, Qb1, zipA, beq_self_eq_true, Qm, V.b.injEq, Qw, Q5, Xc, Qv, Qa, Zl, decide_true, true_and, and_true, and_self, forall_const, implies_true, Q9, beq_true, Qg2, Xo, imp_self]
 rfl
noncomputable def KH2 (d : Dome) : Gam := Γ0.ext 7 (one [.ag (Qaj d)] (eLE (Qcn d)))
theorem Qyw (d : Dome) : GOk Try.prog (KH2 d) := Qlu.ext (f := 7) (fun a w => Try.call7 a w) (Qcc (P33 d))
theorem h7 (d : Dome) : KH2 d 7 [.ag (Qaj d)] = (True, eLE (Qcn d)) := (show KH2 d 7 _ = one _ _ _ from rfl).trans (Qc8 _ _)
theorem Qj7 {d : Dome} (hc : Qc3 d = 0) : Qcn d = ([], 3) ∨ (Qcn d).2 = 0 ∧ (Qcn d).1.length = d.rounds.length ∧ ∀ x ∈ (Qcn d).1, 0 ≤ x ∧ x ≤ 2000 := by
 have hv := Qe4 hc
 unfold Qcn
 by_cases h : Qc1 d true = 0
 ·rw [if_pos h]
  split
  ·right
   refine ⟨rfl, Qfv _ _ _, fun x hx => ?_⟩
   unfold Qff at hx
   obtain ⟨r, hr, rfl⟩ := Zp.1 hx
   rw [Xb] at hr
   have := hv.nr
   exact Qe3 hv (by omega) _ (by omega)
  ·exact .inl rfl
 ·rw [if_neg h]
  left
  unfold Qc1 at h ⊢
  rw [if_neg (by simpa using hc)] at h ⊢
  simp only [if_true] at h ⊢
  by_cases h2 : (Qbq d).any List.isEmpty = true
  ·rw [if_pos h2]
  ·rw [if_neg h2] at h; exact absurd rfl h
theorem W8 (d : Dome) (hc : Qc3 d = 0) : Qa9 Try.prog 8 [.ag (Qaj d)] (.tp [.i (Qcn d).1.sum, .i (Qcn d).2]) := by
 refine Qac (Qyw d) hmix Try.func8 cb8 cc8 cs8 cn8 ?_
 have g1 := h7 d
 obtain ⟨l, hl⟩ : ∃ l, l = (Qcn d).1 := ⟨_, rfl⟩
 have hR : ∀ x ∈ l, 0 ≤ x ∧ x ≤ 2000 := by
  rcases Qj7 hc with h | h
  ·rw [hl, h]; simp
  ·rw [hl]; exact h.2.2
 have hL : l.length ≤ 12 := by
  have := (Qe4 hc).nr
  rcases Qj7 hc with h | h
  ·rw [hl, h]; simp
  ·rw [hl, h.2.1]; omega
 simp only [Qaj, eLE, ← hl] at g1
 rw [← hl]
 simp only [rc8, rs8, Qaj, g1, Qa7, Qa8, Qab, Qa6, Qad, Qa5, Qa2, Fam.step, Qae, evO, opv, qv, ldV, lenV, Qaw, V.cells, Qas, Qaa, Qa4, flat, Qd3, Qa3, Qa0, Qa1, ↓reduceIte, Nat.reduceEqDiff, Nat.reduceAdd, Nat.reduceLT, Nat.reduceLeDiff, Qb, Qc, Qg, Qh, Qe, Qs, Qn, Qd, Ql, Qt, vw_i, Qb3, Qb1, zipA, Qm, Qw, Q5, Qv, Qa, true_and, and_self, imp_self, Qo]
 refine Qbm l.length (fun i => ⟨lkp [(2, .i (l.take i).sum), (3, .i (Qcn d).2), (12, .sl 1 (l.map eI)), (13, .i l.length), (14, .i i)], []⟩) ?_ ?_ ?_
 ·simp only [Qy, Xv, kp, Qa0, Qa1, ↓reduceIte, Nat.reduceEqDiff, Qb, Qc, Qr]
 ·intro i hi
  obtain ⟨x, hx⟩ : ∃ x, l[i]? = some x := ⟨_, Qu hi⟩
  have hlt : (i : Int) < l.length := by omega
  have hs : (l.take (i + 1)).sum = (l.take i).sum + x := by rw [Qex hx, Xn]; simp
  have hb : ∀ i : Nat, i ≤ l.length → 0 ≤ (l.take i).sum ∧ (l.take i).sum ≤ 2000 * (i : Int) := by
   intro i
   induction i with
   | zero => intro _; simp
   | succ i ih =>
    intro hi
    have h1 := ih (by omega)
    have hx : l[i]? = some l[i] := Qu (by omega)
    have h2 := hR _ (Xu (by omega : i < l.length))
    rw [Qex hx, Xn]
    simp only [X4, Xv, Zb, Q1]
    omega
  have hb1 := hb i (by omega)
  have hx2 := hR x (Q6 hx)
  have i1 : inI ((i : Int) + 1) ∧ inI ((l.take i).sum + x) := by unfold inI; omega
  simp only [hx, hlt, hs, i1, Zb, Q1, Qah, Qa7, Qa8, Qaf, Qab, Qa6, Qad, Qai, Qa5, Qa2, Fam.step, Qae, evO, opv, qv, binV, ldV, iadV, kp, Qa3, Qa0, Qa1, ↓reduceIte, Nat.reduceEqDiff, Nat.reduceLeDiff, Qb, Qc, Qg, Qh, Qp, Qt, Za, Qm, Qa, decide_true, and_self, Q9, Qo, Q4, Qf, Qz, eI]
 ·have hlt : ¬ ((l.length : Int) < l.length) := by omega
  simp only [hlt, Zf, Qa7, Qa8, Qaf, Qar, Qag, Qa6, Qad, Qai, Qa5, Qa2, Fam.step, Qae, evO, opv, qv, binV, ldV, Qa3, Qa0, Qa1, ↓reduceIte, Nat.reduceEqDiff, Qb, Qc, Q8, endQ, rvs, rv1, resV, vw_i, Qdj, Qa, decide_false, and_self]
def Qfh (l : List Int) : List Span := l.map fun x => ⟨0, x - 1⟩
def Qxu (l : List Int) : Prop := (1 ≤ l.length ∧ l.length ≤ 4) ∧ ∀ x ∈ l, 1 ≤ x ∧ x ≤ 8
open Classical in
noncomputable def rsOf (l : List Int) : List Span := if Qxu l then Qfh l else [⟨0, 0⟩]
theorem Qnr (l : List Int) : OkR (rsOf l) := by
 unfold rsOf
 split
 ·rename_i h
  refine ⟨by unfold Qfh; rw [Qo]; exact h.1, fun s hs => ?_⟩
  obtain ⟨x, hx, rfl⟩ := Zp.1 hs
  have := h.2 x hx
  exact ⟨rfl, by show 0 ≤ x - 1; omega, by show x - 1 < 8; omega⟩
 ·exact ⟨by simp, fun s hs => by rw [Xq] at hs; subst hs; exact ⟨rfl, by decide, by decide⟩⟩
theorem Qmw {l : List Int} (h : ∀ x ∈ l, 1 ≤ x ∧ x ≤ 8) : ∀ i : Nat, i ≤ l.length → ((Qdn (Qfh l) i).length : Int) = (l.take i).sum
 | 0, _ => by simp [Qdn]
 | i + 1, hi => by
  have hx : l[i]? = some l[i] := Qu (by omega)
  have hr : (Qfh l)[i]? = some ⟨0, l[i] - 1⟩ := by unfold Qfh; rw [Qz, hx]; rfl
  have ih := Qmw h i (by omega)
  have h2 := h _ (Xu (by omega : i < l.length))
  rw [← Qrx hr, Qex hx, Xn]
  unfold cK
  rw [Zh, Qo, X8]
  simp only [X4, Xv]
  omega
noncomputable def KL (d : Dome) (rs : List Span) : Gam := ((((((KG13 rs).ext 11 (one [.ag (lapV rs)] (.tp [.ag [.i (Qmg rs), .i (Qmg rs)], .i 0]))).ext 4 (one [.ag (Qaj d)] (.b (far d)))).ext 5 (one [.ag (Qaj d)] (.i (Qc3 d)))).ext 7 (one [.ag (Qaj d)] (eLE (Qcn d)))).ext 8 (fun vs => (vs = [.ag (Qaj d)] ∧ Qc3 d = 0, .tp [.i (Qcn d).1.sum, .i (Qcn d).2]))).ext 6 (one [] (.b true))
theorem okKL (d : Dome) {rs : List Span} (h : OkR rs) : GOk Try.prog (KL d rs) := by
 refine (((((((Qvs h).ext (f := 11) (fun a w => Try.call11 a w) (Qcc (W11 rs h))).ext (f := 4) (fun a w => Try.call4 a w) (Qcc (P21 d))).ext (f := 5) (fun a w => Try.call5 a w) (Qcc (P39 d))).ext (f := 7) (fun a w => Try.call7 a w) (Qcc (P33 d))).ext (f := 8) (fun a w => Try.call8 a w) fun vs hv => ?_).ext (f := 6) (fun a w => Try.call6 a w) (Qcc W6))
 obtain ⟨rfl, hc⟩ := hv
 exact W8 d hc
theorem l6 (d : Dome) (rs : List Span) : KL d rs 6 [] = (True, .b true) := (show KL d rs 6 _ = one _ _ _ from rfl).trans (Qc8 _ _)
theorem l8 (d : Dome) (rs : List Span) : KL d rs 8 [.ag (Qaj d)] = (Qc3 d = 0, .tp [.i (Qcn d).1.sum, .i (Qcn d).2]) := Prod.ext (propext ⟨fun h => h.2, fun h => ⟨rfl, h⟩⟩) rfl
theorem l7 (d : Dome) (rs : List Span) : KL d rs 7 [.ag (Qaj d)] = (True, eLE (Qcn d)) := (show KL d rs 7 _ = one _ _ _ from rfl).trans (Qc8 _ _)
theorem l5 (d : Dome) (rs : List Span) : KL d rs 5 [.ag (Qaj d)] = (True, .i (Qc3 d)) := (show KL d rs 5 _ = one _ _ _ from rfl).trans (Qc8 _ _)
theorem l4 (d : Dome) (rs : List Span) : KL d rs 4 [.ag (Qaj d)] = (True, .b (far d)) := (show KL d rs 4 _ = one _ _ _ from rfl).trans (Qc8 _ _)
theorem l11 (d : Dome) (rs : List Span) : KL d rs 11 [.ag (lapV rs)] = (True, .tp [.ag [.i (Qmg rs), .i (Qmg rs)], .i 0]) := (show KL d rs 11 _ = one _ _ _ from rfl).trans (Qc8 _ _)
theorem l10 (d : Dome) (rs : List Span) : KL d rs 10 [.ag (lapV rs)] = (True, .tp [.i rs.length, .i 0]) := h10 rs
theorem l9 (d : Dome) (rs : List Span) : KL d rs 9 [.ag (lapV rs), .i 0, .ag [.i 0, .i 0, .i 0]] = (True, .tp [.sl 2 ((Qd2 rs).map eC), .i 0]) := h9 rs
end Go.CT
set_option maxRecDepth 8000
namespace Go.CT
open Go.Fam Go.Proofs
def rc3 : RC := (.seq (.reg false [(cX 1 0), (cQ 2 [] (.mv (kB false)))]) (.keep [1] (.seq (.seq (.reg true [(cLd 16 1 true 6), (cQ 17 [16] (.call (kF 4) [(.t 16)])), (cMv 18 17), (gQ 19 18 false [1] (.ld true 6 (.t 1))), (gQ 20 18 false [19] (.call (kF 5) [(.t 19)])), (gQ 21 18 false [20] (.bin .neq (.t 20) (kI 0))), (cQ 22 [18,21] (.pick (.t 18) (kB true) (.t 21))), (cMv 23 22), (gQ 24 23 false [1] (.fad 3 (.t 1))), (gQ 25 23 false [24] (.ld false 1 (.t 24))), (gQ 26 23 false [25] (.len (.t 25))), (gQ 27 23 false [26] (.bin .gtr (.t 26) (kI 4))), (cQ 28 [23,27] (.pick (.t 23) (kB true) (.t 27)))]) (.keep [1,28] (.cond (.t 28) (.seq (.reg false [(cQ 29 [] (.call (kF 6) [])), (cMv 2 29)]) .ret) .skip))) (.keep [1] (.seq (.reg false [(cLd 31 1 true 6), (cQ 32 [31] (.call (kF 7) [(.t 31)])), (cMv 30 32), (cEx 33 30 0), (cEx 34 30 1), (cMv 3 33), (cMv 4 34)]) (.keep [1,3,4] (.seq (.reg false [(cLd 36 1 true 6), (cQ 37 [36] (.call (kF 8) [(.t 36)])), (cMv 35 37), (cEx 38 35 0), (cEx 39 35 1), (cMv 5 38), (cMv 6 39)]) (.keep [1,3,4,5,6] (.seq (.seq (.reg true [(cMv 40 4), (cMv 41 6), (cB 42 .neq 40 41), (cMv 43 42), (gMv 44 43 false 4), (gQ 45 43 false [44] (.bin .neq (.t 44) (kI 0))), (gMv 46 43 false 45), (gMv 47 46 true 4), (gQ 48 46 true [47] (.bin .neq (.t 47) (kI 3))), (gQ 49 43 false [46,48] (.pick (.t 46) (.t 48) (kB false))), (cQ 50 [43,49] (.pick (.t 43) (kB true) (.t 49)))]) (.keep [1,3,4,5,50] (.cond (.t 50) (.seq (.reg false [(cQ 2 [] (.mv (kB false)))]) .ret) .skip))) (.keep [1,3,4,5] (.seq (.seq (.reg false [(cMv 51 4), (cC 52 .neq 51 0)]) (.keep [1,3,5,52] (.cond (.t 52) (.seq (.reg false [(cQ 53 [] (.call (kF 6) [])), (cMv 2 53)]) .ret) .skip))) (.keep [1,3,5] (.seq (.seq (.reg false [(cMv 54 3), (cLn 55 54), (cFa 56 1 3), (cLd 57 56 false 1), (cLn 58 57), (cB 59 .neq 55 58)]) (.keep [3,5,59] (.cond (.t 59) (.seq (.reg false [(cQ 2 [] (.mv (kB false)))]) .ret) .skip))) (.keep [3,5] (.seq (.reg false [(cQ 60 [] (.bld [(.z 2)] [])), ⟨(some 61), none, [60], none, .w (.bso 1 1 [(.z 2)] [(0,1, (.t 60))])⟩, (cQ 62 [61] (.bld [(.i 0), (.i 0), (.z 2), (.z 2), (.z 1)] [(0,1, (kI 8)), (1,1, (kI 12)), (4,1, (.t 61))])), ⟨(some 7), none, [], none, .w (.alc [(.i 0), (.i 0), (.z 2), (.z 2), (.z 1)])⟩, ⟨none, none, [7,62], none, .w (.st 5 (.t 7) (.t 62))⟩]) (.keep [3,5,7] (.seq (.seq (.reg false [(cI 8 0)]) (.keep [3,5,7,8] (.block 0 (.loop [3,5,7,8] none (.seq (.seq (.reg false [(cMv 63 8), (cMv 64 3), (cLn 65 64), (cB 66 .lss 63 65)]) (.keep [3,5,7,8,66] (.cond (.t 66) .skip (.exit 0)))) (.keep [3,5,7,8] (.seq (.block 1 (.seq (.seq (.reg true [(cMv 69 3), (cMv 70 8), (cA 71 1 69 70), (cLd 72 71 false 1), (cC 73 .lss 72 1), (cMv 74 73), (gMv 75 74 false 3), (gMv 76 74 false 8), (gQ 77 74 false [75,76] (.iad 1 (.t 75) (.t 76))), (gQ 78 74 false [77] (.ld false 1 (.t 77))), (gQ 79 74 false [78] (.bin .gtr (.t 78) (kI 8))), (cQ 80 [74,79] (.pick (.t 74) (kB true) (.t 79)))]) (.keep [3,5,7,8,80] (.cond (.t 80) (.seq (.reg false [(cQ 81 [] (.call (kF 6) [])), (cMv 2 81)]) .ret) .skip))) (.keep [3,5,7,8] (.any false 1 [⟨(cFa 82 7 4), [], []⟩, ⟨(cLd 83 82 false 1), [], [0]⟩, ⟨(cFa 84 7 4), [], []⟩, ⟨(cLd 85 84 false 1), [], [2]⟩, ⟨(cQ 86 [85] (.iad 1 (.t 85) (kI 0))), [], [3,2]⟩, ⟨(cFa 87 86 0), [], [4,3,2]⟩, ⟨(cLd 88 87 false 1), [], [5,4,3,2]⟩, ⟨(cMv 89 3), [], []⟩, ⟨(cMv 90 8), [], []⟩, ⟨(cA 91 1 89 90), [], [7,8]⟩, ⟨(cLd 92 91 false 1), [], [9,7,8]⟩, ⟨(cC 93 .sub 92 1), [], [10,9,7,8]⟩, ⟨(cQ 94 [93] (.bld [(.i 0), (.i 0)] [(1,1, (.t 93))])), [], [11,10,9,7,8]⟩, ⟨(cQ 95 [94] (.bsl 2 1 [(.i 0), (.i 0)] [(0,2, (.t 94))])), [], [12,11,10,9,7,8]⟩, ⟨⟨(some 96), none, [88,95], (some 0), .w (.app 2 (.t 88) (.t 95))⟩, [0,1], [6,5,4,3,2,13,12,11,10,9,7,8]⟩, ⟨(cQ 97 [83] (.iad 1 (.t 83) (kI 0))), [], [1,0,2,3,4,5,6,7,8,9,10,11,12,13,14]⟩, ⟨(cFa 98 97 0), [], [15,1,0,2,3,4,5,6,7,8,9,10,11,12,13,14]⟩, ⟨⟨none, none, [98,96], none, .w (.st 1 (.t 98) (.t 96))⟩, [], [16,15,1,0,2,3,4,5,6,7,8,9,10,11,12,13,14]⟩])))) (.keep [3,5,7,8] (.reg false [(cMv 67 8), (cC 68 .add 67 1), (cMv 8 68)]))))))))) (.keep [3,5,7] (.seq (.drp 0 (.reg false [(cLd 100 7 true 5), (cQ 101 [] (.bld [(.i 0), (.i 0), (.i 0)] [])), (cQ 102 [100,101] (.call (kF 9) [(.t 100), (kI 0), (.t 101)])), (cMv 99 102), (cEx 103 99 0), (cEx 104 99 1), (cMv 9 103), (cMv 10 104)])) (.keep [3,5,7,9,10] (.seq (.reg false [(cLd 106 7 true 5), (cQ 107 [106] (.call (kF 10) [(.t 106)])), (cMv 105 107), (cEx 108 105 0), (cEx 109 105 1), (cMv 11 108), (cMv 12 109)]) (.keep [3,5,7,9,10,11,12] (.seq (.reg false [(cLd 111 7 true 5), (cQ 112 [111] (.call (kF 11) [(.t 111)])), (cMv 110 112), (cEx 113 110 0), (cEx 114 110 1), ⟨(some 13), none, [], none, .w (.alc [(.i 0), (.i 0)])⟩, ⟨none, none, [13,113], none, .w (.st 2 (.t 13) (.t 113))⟩, (cMv 14 114)]) (.keep [3,5,9,10,11,12,13,14] (.seq (.reg false [(cMv 115 3), (cLn 116 115), (cQ 117 [116] (.bin .mul (kI 8) (.t 116))), (cMv 118 5), (cB 119 .sub 117 118), (cMv 15 119)]) (.keep [3,5,9,10,11,12,13,14,15] (.seq (.reg true [(cMv 120 10), (cC 121 .eql 120 0), (cMv 122 121), (gMv 123 122 true 12), (gQ 124 122 true [123] (.bin .eql (.t 123) (kI 0))), (cQ 125 [122,124] (.pick (.t 122) (.t 124) (kB false))), (cMv 126 125), (gMv 127 126 true 14), (gQ 128 126 true [127] (.bin .eql (.t 127) (kI 0))), (cQ 129 [126,128] (.pick (.t 126) (.t 128) (kB false))), (cMv 130 129), (gMv 131 130 true 9), (gQ 132 130 true [131] (.len (.t 131))), (gMv 133 130 true 5), (gQ 134 130 true [132,133] (.bin .eql (.t 132) (.t 133))), (cQ 135 [130,134] (.pick (.t 130) (.t 134) (kB false))), (cMv 136 135), (gMv 137 136 true 11), (gMv 138 136 true 3), (gQ 139 136 true [138] (.len (.t 138))), (gQ 140 136 true [137,139] (.bin .eql (.t 137) (.t 139))), (cQ 141 [136,140] (.pick (.t 136) (.t 140) (kB false))), (cMv 142 141), (gQ 143 142 true [13] (.ld true 2 (.t 13))), (gMv 144 142 true 15), (gMv 145 142 true 15), (gQ 146 142 true [144,145] (.bld [(.i 0), (.i 0)] [(0,1, (.t 144)), (1,1, (.t 145))])), (gQ 147 142 true [143,146] (.eqs false 42 (.t 143) (.t 146))), (cQ 148 [142,147] (.pick (.t 142) (.t 147) (kB false))), (cMv 149 148), (gQ 150 149 true [] (.call (kF 6) [])), (cQ 151 [149,150] (.pick (.t 149) (.t 150) (kB false))), (cMv 2 151)]) .ret)))))))))))))))))))))))))))
def pu3 : List Nat := [1,95]
def rs3 : List RV := [.t 2]
theorem cc3 : CCx Try.prog Try.f3 pu3 rc3 := by unfold CCx; kernel_rfl
theorem cb3 : CBx Try.f3 := by unfold CBx; kernel_rfl
theorem cs3 : CSx Try.prog Try.f3 rs3 := by unfold CSx; kernel_rfl
theorem cn3 : 1 ≤ Try.f3.ntmps := by decide
end Go.CT
set_option linter.unusedSimpArgs false
set_option linter.unusedVariables false
namespace Go.CT
open Go.Fam Go.Proofs Go.C02
def Qsu (l : List Int) : Nat → List Blk
 | 0 => [.cells 0 [.z 2], .cells 0 [.i 8, .i 12, .z 2, .z 2, .rf 0 0 0 1 1]]
 | k + 1 => [.cells 0 [.rf 2 k 0 (k + 1) 2], .cells 0 [.i 8, .i 12, .z 2, .z 2, .rf 0 0 0 1 1], .cells k (((Qfh l).take (k + 1)).map eSpan).flatten] ++ Zt k .hole
set_option maxRecDepth 100000 in
set_option maxHeartbeats 4000000 in
theorem P3 (d : Dome) : Qa9 Try.prog 3 [.ag (Qaj d)] (.b true) := by
 obtain ⟨l, hl⟩ : ∃ l, l = (Qcn d).1 := ⟨_, rfl⟩
 obtain ⟨rs, hrs⟩ : ∃ rs, rs = rsOf l := ⟨_, rfl⟩
 have hRs : OkR rs := by rw [hrs]; exact Qnr l
 refine Qac (okKL d hRs) hmix Try.func3 cb3 cc3 cs3 cn3 ?_
 have g4 := l4 d rs
 have g5 := l5 d rs
 have g6 := l6 d rs
 have g7 := l7 d rs
 have g8 := l8 d rs
 simp only [Qaj, eLE] at g4 g5 g7 g8
 by_cases hf : far d = true
 ·simp only [rc3, rs3, Qaj, g4, g6, hf, Qa7, Qa8, Qaf, Qag, Qa6, Qad, Qa5, Qa2, Fam.step, Qae, Qbu, Qb8, ug, evO, opv, qv, Qao, Qpb, binV, binW, ldV, lenV, Qaw, V.cells, Qas, Qaa, Qa4, flat, Qa3, Qa0, Qa1, ↓reduceIte, Nat.reduceEqDiff, Nat.reduceAdd, Nat.reduceLT, Nat.reduceLeDiff, Qb, Qc, Q0, Q3, Qg, Qh, Qk, Qq, Qe, Qs, Qp, Qn, endQ, rvs, rv1, resV, vw_i, vw_b, Qb3, Qb1, zipA, Qm, Qw, Q5, Qv, Zc, Qa, Zl, true_and, and_true, and_self, false_and, forall_const, false_implies, implies_true, reduceCtorEq, beq_false, imp_self, Qo]
 by_cases hc : Qc3 d = 0
 rotate_left
 ·simp only [rc3, rs3, Qaj, g4, g5, g6, hf, hc, Qa7, Qa8, Qaf, Qag, Qa6, Qad, Qa5, Qa2, Fam.step, Qae, Qbu, Qb8, ug, evO, opv, qv, Qao, binV, ldV, lenV, Qaw, V.cells, Qas, Qaa, Qa4, flat, Qa3, Qa0, Qa1, ↓reduceIte, Nat.reduceEqDiff, Nat.reduceAdd, Nat.reduceLT, Nat.reduceLeDiff, Qb, Qc, Q0, Q3, Qg, Qh, Qk, Qq, Qe, Qs, Qp, Qn, endQ, rvs, rv1, resV, vw_i, vw_b, Qb3, Qb1, zipA, beq_self_eq_true, Qm, Qw, Q5, Qv, Zc, Ze, Qa, Zl, decide_false, and_true, and_self, forall_const, implies_true, beq_false, imp_self, Qo]
 by_cases h4 : (4 : Int) < d.rounds.length
 ·simp only [rc3, rs3, Qaj, g4, g5, g6, hf, hc, h4, Qa7, Qa8, Qaf, Qag, Qa6, Qad, Qa5, Qa2, Fam.step, Qae, Qbu, Qb8, ug, evO, opv, qv, Qao, binV, ldV, lenV, Qaw, V.cells, Qas, Qaa, Qa4, flat, Qa3, Qa0, Qa1, ↓reduceIte, Nat.reduceEqDiff, Nat.reduceAdd, Nat.reduceLT, Nat.reduceLeDiff, Qb, Qc, Q0, Q3, Qg, Qh, Qk, Qq, Qe, Qs, Qp, Qn, endQ, rvs, rv1, resV, vw_i, vw_b, Qb3, Qb1, zipA, beq_self_eq_true, Qm, Qw, Qv, Zc, Qa, decide_true, and_self, forall_const, implies_true, Qo]
 have hv := Qe4 hc
 have hnr := hv.nr
 rcases Qj7 hc with hcv | ⟨h0, hlen, hrng⟩
 ·simp only [hcv, Qc, Xv] at g7 g8
  simp only [rc3, rs3, Qaj, g4, g5, g6, hf, hc, h4, g7, g8, Qah, Qa7, Qa8, Qaf, Qag, Qa6, Qad, Qa5, Qa2, Fam.step, Qae, Qbu, Qb8, ug, evO, opv, qv, Qao, binV, ldV, lenV, Qaw, V.cells, Qas, Qaa, Qa4, flat, Qd3, Qa3, Qa0, Qa1, ↓reduceIte, Nat.reduceEqDiff, Nat.reduceAdd, Nat.reduceLT, Nat.reduceLeDiff, Int.reduceEq, Qb, Qc, Q0, Q3, Qg, Qh, Qk, Qq, Qe, Qs, Qp, Qn, Qd, Ql, Qt, endQ, rvs, rv1, resV, vw_i, vw_b, Qb3, Qb1, zipA, beq_self_eq_true, Qm, Qw, Q5, Qv, Zc, Ze, Qa, Zl, decide_true, decide_false, and_self, forall_const, implies_true, imp_self, Qo]
 rw [← hl] at g7 g8 hlen hrng
 rw [h0] at g7 g8
 have hlI : (l.length : Int) = d.rounds.length := by omega
 simp only [rc3, rs3, Qaj, g4, g5, hf, hc, h4, g7, g8, hlI, Qah, Qa7, Qa8, Qaf, Qab, Qa6, putB, Qad, Qa5, Qa2, Fam.step, Qae, Qbp, Qbu, Qau, Qb8, ug, putB, nv, sv, evO, opv, qv, Qao, binV, ldV, lenV, Qaw, Qal, putAt, Qb0, Qba, V.cells, Qas, Qaz, Qaa, Qa4, flat, Qd3, Qa3, Qap, Qa0, Qa1, ↓reduceIte, Nat.reduceEqDiff, Nat.reduceAdd, Nat.reduceMul, Nat.reduceLT, Nat.reduceLeDiff, Int.reduceEq, Qb, Qc, Q0, Q3, Qg, Qh, Qk, Qq, Zi, Qe, Qr, Qs, Qp, Qj, Qi, Qn, Qd, Ql, Qt, Qx, Q7, Q2, Zd, vw_i, Qb3, Qb1, zipA, beq_self_eq_true, Qm, Qw, Q5, Xc, Qv, Zc, Ze, Qa, decide_true, decide_false, true_and, and_true, and_self, forall_const, implies_true, beq_true, imp_self, Qo]
 refine Qb5 l.length (fun i => ⟨lkp [(3, .sl 1 (l.map eI)), (5, .i l.sum), (7, .ad 1 0 0), (8, .i i)], Qsu l i⟩) (fun i => ∀ x ∈ l.take i, 1 ≤ x ∧ x ≤ 8) ?_ ?_ ?_ ?_
 ·simp only [Qy, Qsu, kp, Qa0, Qa1, ↓reduceIte, Nat.reduceEqDiff, Qb, Qc]
  rfl
 ·simp
 ·intro i hi hC
  obtain ⟨x, hx⟩ : ∃ x, l[i]? = some x := ⟨_, Qu hi⟩
  have hlt : (i : Int) < l.length := by omega
  have hx0 := hrng x (Q6 hx)
  by_cases b1 : x < 1
  ·simp only [hx, hlt, b1, g6, Qah, Qa7, Qa8, Qaf, Qab, Qag, Qa6, Qad, Qai, Qa5, Qa2, Fam.step, Qae, Qbu, Qb8, ug, evO, opv, qv, Qao, binV, ldV, iadV, lenV, Qaw, Qa4, flat, kp, Qa3, Qa0, Qa1, ↓reduceIte, Nat.reduceEqDiff, Nat.reduceLT, Nat.reduceLeDiff, Qb, Qc, Q0, Q3, Qg, Qh, Qp, Qn, Qt, endQ, rvs, rv1, resV, vw_b, Za, Qm, Qw, Q5, Zc, Qa, Zl, decide_true, and_true, and_self, forall_const, implies_true, Q9, beq_false, imp_self, Qo, Q4, Qf, Qz, eI]
  by_cases b2 : (8 : Int) < x
  ·simp only [hx, hlt, b1, b2, g6, Qah, Qa7, Qa8, Qaf, Qab, Qag, Qa6, Qad, Qai, Qa5, Qa2, Fam.step, Qae, Qbu, Qb8, ug, evO, opv, qv, Qao, binV, ldV, iadV, lenV, Qaw, Qa4, flat, kp, Qa3, Qa0, Qa1, ↓reduceIte, Nat.reduceEqDiff, Nat.reduceLT, Nat.reduceLeDiff, Qb, Qc, Q0, Q3, Qg, Qh, Qp, Qn, Qt, endQ, rvs, rv1, resV, vw_b, Za, beq_self_eq_true, Qm, Qw, Qa, decide_true, decide_false, and_self, forall_const, implies_true, Q9, Qo, Q4, Qf, Qz, eI]
  have i1 : inI ((i : Int) + 1) ∧ inI (x - 1) := by unfold inI; omega
  have hC' : ∀ y ∈ l.take (i + 1), 1 ≤ y ∧ y ≤ 8 := fun y hy => by
   rw [Qex hx] at hy
   rcases Z7.1 hy with hy | hy
   ·exact hC y hy
   ·rw [Xq] at hy; omega
  have hr : (Qfh l)[i]? = some ⟨0, x - 1⟩ := by unfold Qfh; rw [Qz, hx]; rfl
  have hrl : (Qfh l).length = l.length := by unfold Qfh; rw [Qo]
  cases i with
  | zero =>
   have f1 : Qc0 1 := by unfold Qc0; omega
   have ht : ((Qfh l).take 1).map eSpan = [[.i 0, .i (x - 1)]] := by
    have := Qex hr
    rw [this]; rfl
   have h0l : (0 : Int) < l.length := by omega
   have i2 : inI 1 := by unfold inI; omega
   simp only [hx, h0l, b1, b2, i1, i2, Qsu, f1, Qy, Q1, ht, Z8, Zz, Qah, Qa7, Qc6, Qa8, Qaf, Qab, Qa6, Qda, Qbe, optL, Qad, Qai, Qa5, Qa2, Fam.step, Qae, Qbu, Qau, Qb8, ug, runX, eff, Qbb, fpR, fpQ, fpV, Qcj, hits, nv, sv, Qd0, evO, opv, qv, Qao, binV, ldV, iadV, lenV, curG, Qal, putAt, Qb0, Qba, V.cells, Qas, Qaz, Qaa, Qa4, kp, Qa3, Qap, Qa0, Qa1, ↓reduceIte, Nat.reduceEqDiff, Nat.reduceAdd, Nat.reduceMul, Nat.reduceLeDiff, Nat.reduceBEq, Xr, Int.reduceLT, Int.reduceLE, Int.reduceAdd, Qb, Qc, Q0, Q3, Qg, Qh, Qk, Qq, Zi, Qe, Qr, Qs, Qp, Qj, Qi, Qn, Qd, Ql, Q8, Qt, Zj, Qx, Q7, Q2, Zd, Zk, Xt, vw_i, Qb1, beq_self_eq_true, Qm, Zr, Qw, Q5, Xg, Zn, Qv, X2, Zc, Ze, Qa, decide_true, decide_false, true_and, and_true, and_self, forall_const, implies_true, reduceCtorEq, not_false_eq_true, ne_eq, Q9, X3, Zs, Zv, Zg, Qo, Qf, Qz, eI]
   exact hC'
  | succ k =>
   have f1 : Qc0 (k + 1 + 1) := by unfold Qc0; omega
   have hln : (((Qfh l).take (k + 1)).map eSpan).flatten.length = (k + 1) * 2 := by rw [Qp1, Xl, Jh (by omega)]
   have ht : (((Qfh l).take (k + 1)).map eSpan).flatten ++ [V.i 0, V.i (x - 1)] = (((Qfh l).take (k + 1 + 1)).map eSpan).flatten := by rw [Qex hr]; simp [eSpan]
   simp only [hx, hlt, b1, b2, i1, Qsu, f1, hln, ht, Z8, Zz, Q1, Qah, Qa7, Qc6, Qa8, Qaf, Qab, Qa6, Qda, Qbe, optL, Qad, Qai, Qa5, Qa2, Fam.step, Qae, Qbu, Qau, Qb8, ug, runX, eff, Qbb, fpR, fpQ, fpV, Qcj, hits, nv, sv, Qd0, evO, opv, qv, Qao, binV, ldV, iadV, lenV, curG, Qal, putAt, Qb0, Qba, V.cells, Qas, Qaz, Qaa, Qa4, kp, Qa3, Qap, Qa0, Qa1, ↓reduceIte, Nat.reduceEqDiff, Nat.reduceAdd, Nat.reduceMul, Nat.reduceLeDiff, Nat.reduceBEq, Xr, Int.reduceLT, Int.reduceLE, Qb, Qc, Q0, Q3, Qg, Qh, Qk, Qq, Zi, Qe, Qr, Qs, Qp, Qj, Qi, Qn, Qd, Ql, Q8, Qt, Zj, Qx, Q7, Q2, Zd, Zk, Xt, vw_i, Qb1, Za, beq_self_eq_true, Qm, Zr, Qw, Q5, Xg, Zn, Qv, X2, Zc, Ze, Qa, decide_true, decide_false, true_and, and_self, forall_const, implies_true, reduceCtorEq, not_false_eq_true, ne_eq, Q9, X3, Zs, Zv, Zg, Qo, Q4, Qf, Qz, eI]
   have hrep : Zt k Blk.hole ++ [Blk.hole] = Zt (k + 1) Blk.hole := (List.replicate_succ').symm
   refine ⟨hC', ?_⟩
   rw [hrep]
   rfl
 ·intro hC
  have hlt : ¬ ((l.length : Int) < l.length) := by omega
  rw [Zf] at hC
  have hfine : Qxu l := ⟨by omega, hC⟩
  have hrsW : rs = Qfh l := by rw [hrs]; unfold rsOf; rw [if_pos hfine]
  have hrl : rs.length = l.length := by rw [hrsW]; unfold Qfh; rw [Qo]
  obtain ⟨k, hk⟩ : ∃ k, l.length = k + 1 := ⟨l.length - 1, by omega⟩
  have hcs := Qmw hC l.length (Zq _)
  rw [Zf, ← hrsW] at hcs
  have hcs2 : ((Qd2 rs).length : Int) = l.sum := by unfold Qd2; rw [hrl]; exact hcs
  have hst : Qsu l l.length = .cells 0 [.rf 2 k 0 (k + 1) 2] :: .cells 0 [.i 8, .i 12, .z 2, .z 2, .rf 0 0 0 1 1] :: .cells k (rs.map eSpan).flatten :: Zt k .hole := by
   rw [hk]
   show [Blk.cells 0 [.rf 2 k 0 (k + 1) 2], Blk.cells 0 [.i 8, .i 12, .z 2, .z 2, .rf 0 0 0 1 1], Blk.cells k (((Qfh l).take (k + 1)).map eSpan).flatten] ++ Zt k .hole = _
   rw [← hrsW, ← hk, ← hrl, Zf]; rfl
  rw [hst]
  have hck := Qrz rs
  have hln := Qp1 rs
  rw [hrl, hk] at hck hln
  have g9 := l9 d rs
  have g10 := l10 d rs
  have g11 := l11 d rs
  simp only [lapV] at g9 g10 g11
  have hrW : Qmg rs = 8 * (l.length : Int) - l.sum := by unfold Qmg; rw [hcs2, hrl]
  have hrlI : (rs.length : Int) = l.length := by omega
  have hb : 0 ≤ l.sum ∧ l.sum ≤ 100 := by
   have := Qec hRs rs.length
   unfold Qd2 at hcs2
   have := hRs.len
   omega
  have i1 : inI (8 * (l.length : Int)) ∧ inI (8 * (l.length : Int) - l.sum) := by unfold inI; omega
  rw [hrW] at g11
  rw [hrlI] at g10
  simp only [hlt, hpF, upB, upL, upV, Qd8 _ _ (Qfe _), hln, hck, vw_S, Zq, g9, g10, g11, g6, hcs2, i1, eq42, Qa7, Qa8, Qaf, Qar, Qag, Qa6, Qc9, Qda, ↓Qbj, cutH, putB, Qad, Qai, Qa5, Qa2, Fam.step, Qae, Qbp, Qbu, Qau, Qb8, ug, putB, nv, sv, evO, opv, qv, Qao, binV, ldV, lenV, Qaw, Qal, putAt, Qb0, V.cells, Qas, Qaz, Qdg, Qaa, Qa4, flat, Qd3, cutV, Qa3, Qap, Qa0, Qa1, ↓reduceIte, Nat.reduceEqDiff, Nat.reduceAdd, Nat.reduceMul, Nat.reduceLT, Nat.reduceLeDiff, Qb, Qc, Q0, Q3, Qg, Qh, Qk, Qq, Zi, Qe, Qr, Qs, Qj, Qi, Qn, Qd, Ql, Qt, Qx, endQ, rvs, rv1, resV, vw_i, vw_b, vw_z, Qb3, Qb1, Qhq, Qi9, beq_self_eq_true, Qm, V.b.injEq, Qw, Q5, Qv, Qa, Zl, decide_true, decide_false, true_and, and_self, forall_const, implies_true, Q9, beq_true, Qg2, Xo, imp_self, Qo]
  rfl
end Go.CT
