import Derived.Test.YtcdgojonaloclaaG7
set_option linter.all false
open List renaming getD_eq_getElem?_getD → Qa, map_cons → Qb, map_nil → Qc, getElem?_eq_getElem → Qe, length_nil → Qf, length_map → Qg, length_cons → Qh, drop_succ_cons → Qj, take_succ_cons → Qk, headD_cons → Qm, append_nil → Qn, replicate_zero → Qr, getElem?_nil → Qs, mem_of_getElem? → Qt, nil_append → Qu, drop_zero → Qv, getElem?_cons_zero → Qw, cons_append → Qx, getElem?_map → Qz, take_nil → Q0, contains_nil → Q2, all_nil → Q5, isEmpty_nil → Q8, take_zero → Za, all_cons → Zg, set_cons_zero → Zi, any_nil → Zj, range → Zk, getElem?_cons_succ → Zl, replicate_succ → Zo, contains_cons → Zp, take_length → Zs, flatten_nil → Zt, getElem?_append_right → Zu, foldl_append → Zw, foldl_nil → Zz, take_of_length_le → Z0, all_eq_true → Z3, getElem?_append_left → Z4, range_succ → Z6, replicate → Xa, isEmpty_cons → Xb, length_take → Xc, drop_nil → Xe, length_append → Xg, mem_range → Xh, drop_eq_getElem_cons → Xj, flatten_cons → Xk, append_assoc → Xl, any_cons → Xm, range_zero → Xp, foldl_cons → Xq, mem_append → Xr, length_set → Xs, getElem?_of_mem → Xu, flatten_append → Xv, length_pos_iff → Xw, filter_eq_self → Xx, set_cons_succ → Xz, filter_congr → X0, mem_map → X1, drop → X3, filter_nil → X5, map_append → X6, mem_filter → X7, nil_prefix → X8
open Nat renaming zero_add → Qi, mul_one → Zq, le_refl → Zv, add_sub_cancel → Z7, sub_self → Xn, mod_lt → Xo, mod_eq_of_lt → X4
open Bool renaming false_eq_true → Qd, or_false → Ql, and_self → Q1, not_eq_true' → Q3, and_true → Q4, false_and → Zb, not_false → Zc, and_eq_true → Ze, not_true → Zf, not_eq_true → Zn, or_eq_true → Zr, or_eq_false_iff → Zx, false_or → Zy, not_eq_false → Z2, decide_eq_true → Z5, true_and → Xf, and_false → Xi, true_eq_false → Xy, eq_false_iff → X2
open Option renaming getD_some → Qo, getD_none → Q7, map_some → Zh, some → Xt
open Int renaming natCast_add → Qp, natCast_one → Qq, lt_irrefl → Qy, natCast_zero → Q6, toNat_natCast → Q9, natCast_nonneg → Zd, tmod_eq_emod_of_nonneg → Zm, emod_sub_emod → Z1, sub_emod_emod → Z8, emod_eq_of_lt → Z9, natCast_emod → Xd
set_option linter.unusedSimpArgs false
set_option linter.unusedVariables false
namespace Go.C02
open Go.Fam Go.Proofs
def Qu0 (a : Fig × List Int × Int × Int) : List V := [.ag (eFig a.1), .sl 1 (a.2.1.map eI), .i a.2.2.1, .i a.2.2.2]
def Qy6 : List V → Fig × List Int × Int × Int | [.ag r, .sl _ l, .i n, .i m] => (dFig r, l.map dI, n, m) | _ => (dFig [], [], 0, 0)
theorem Qva (a : Fig × List Int × Int × Int) : Qy6 (Qu0 a) = a := by obtain ⟨r, l, n, m⟩ := a; simp [Qy6, Qu0, Qcw, Function.comp_def, Qfc]
def s39 : List V → Prop × V := fnG Qu0 Qy6 (fun a => Ok39 a.1 a.2.1 a.2.2.1 a.2.2.2) (fun a => Qg4 a.1 a.2.1 a.2.2.1 a.2.2.2) .b
noncomputable def H17 : Gam := H16.ext 39 s39
theorem Zas : GOk Try.prog H17 := Zch.ext (f := 39) (r := s39) (fun a w => Try.call39 a w) (Qau fun a h => W39 a.1 a.2.1 a.2.2.1 a.2.2.2 h)
theorem q39 (f : Fig) (l : List Int) (n m : Int) : H17 39 [.ag (eFig f), .sl 1 (l.map eI), .i n, .i m] = (Ok39 f l n m, .b (Qg4 f l n m)) :=
 (show H17 39 _ = s39 (Qu0 (f, l, n, m)) from rfl).trans (Qb1 _ (Qva _))
def Qdm (f : Fig) (l starts : List Int) (seam : Int) : Nat := (l.filter (Qg4 f starts seam)).length
theorem Qro {f : Fig} {l starts : List Int} {seam : Int} {i : Nat} {x : Int} (hx : l[i]? = some x) :
  Qdm f (l.take (i + 1)) starts seam = if Qg4 f starts seam x = true then Qdm f (l.take i) starts seam + 1 else Qdm f (l.take i) starts seam := by
 unfold Qdm
 rw [Qar hx, List.filter_append, Xg]
 by_cases h : Qg4 f starts seam x = true <;> simp [h]
theorem Qqa (f : Fig) (l starts : List Int) (seam : Int) : Qdm f l starts seam ≤ l.length := List.length_filter_le _ _
structure Ok76 (f : Fig) (l starts : List Int) (seam : Int) : Prop where
 len : l.length < 10000000
 s : ∀ s ∈ l, Ok39 f starts seam s
theorem W76 (f : Fig) (l starts : List Int) (seam : Int) (h : Ok76 f l starts seam) : Qab Try.prog 76 [.ag (eFig f), .sl 1 (l.map eI), .sl 1 (starts.map eI), .i seam] (.i (Qdm f l starts seam)) := by
 refine Qac Zas hmix Try.func76 cb76 cc76 cs76 cn76 ?_
 simp only [rc76, rs76, Qa7, Qa8, Qa9, Qa4, Qae, Qa5, Qa2, Fam.step, Qaf, evO, opv, qv, V.cells, Qas, Qaa, Qa6, Qa3, Qa0, Qa1, ↓reduceIte, Nat.reduceEqDiff, Nat.reduceAdd, Qb, Qc, vw_i, Qay, Qaz, zipA, Qi, Ql, true_and, and_self, reduceCtorEq, eFig]
 refine Qbg l.length (fun i => ⟨lkp [(1, .sl 1 (l.map eI)), (2, .sl 1 (starts.map eI)), (3, .i seam), (4, .pa (eFig f)), (9, .i (Qdm f (l.take i) starts seam)), (10, .i i)], []⟩) ?_ ?_ ?_
 ·simp only [Q6, Qdm, Za, X5, Qf, kp, Qa0, Qa1, ↓reduceIte, Nat.reduceEqDiff, Qb, Qc, Qf, Za, eFig]
 ·intro i hi
  obtain ⟨x, hx⟩ : ∃ x, l[i]? = some x := ⟨_, Qe hi⟩
  have hlt : (i : Int) < l.length := by omega
  have hl := h.len
  have h3 : inI ((i : Int) + 1) := by unfold inI; omega
  have hm := Qqa f (l.take i) starts seam
  rw [Xc] at hm
  have h4 : inI ((Qdm f (l.take i) starts seam : Int) + 1) := by unfold inI; omega
  have g1 := q39 f starts seam x
  unfold eFig at g1
  simp only [hx, hlt, h3, h4, g1, Qro hx, Qp, Qq, Qag, Qa7, Qbf, Qa8, Qad, Qbe, Qa9, Qa4, Qba, Qae, Qaj, Qa5, Qa2, Fam.step, Qaf, runX, eff, Qb9, fpR, fpQ, fpV, Qbp, hits, evO, opv, qv, binV, ldV, iadV, lenV, Qaw, Qaa, Qa6, flat, kp, Qa3, Qa0, Qa1, ↓reduceIte, Nat.reduceEqDiff, Nat.reduceAdd, Nat.reduceLT, Nat.reduceLeDiff, Qb, Qc, Q5, Qh, Qf, Qk, Q0, Qm, Qx, Qu, Qn, Qs, Qo, Q7, Qr, Q8, vw_i, Qay, Qaz, Zd, Qi, Q1, Q4, Zb, Ql, Zf, Zc, Qd, decide_true, true_and, and_true, and_self, implies_true, Zh, Zj, Q2, Qg, Q9, Qa, Qz, Zn, eI, eFig]
  refine ⟨h.s x (Qt hx), fun e => ?_, fun e => ?_⟩
  ·simp only [e, Qp, Qq, ↓reduceIte]
  ·simp only [e, ↓reduceIte, Qd]
 ·simp only [Zs, Qy, Qa7, Qa8, Qad, Qam, Qai, Qa4, Qae, Qaj, Qa5, Qa2, Fam.step, Qaf, evO, opv, qv, binV, lenV, Qa3, Qa0, Qa1, ↓reduceIte, Nat.reduceEqDiff, Qb, Qc, endQ, rvs, rv1, resV, vw_i, Qy, Qd, decide_false, and_self, Qg, eFig]
def Qaq (f : Fig) : List (List Int) := f.dome.gores.map fun g => Qan (Qdo f.dome g)
theorem q86r (d : Dome) (n : Int) : H17 86 [.ag (Qal d), .i n] = (d.bolts.length < 1000, eLE (Qcc d n)) := q86 d n
theorem W54 (f : Fig) (h : Qao f = 0) (hp : Qbc f.dome true = 0) : Qab Try.prog 54 [.ag (eFig f)] (.sl 1 ((Qaq f).map eCan)) := by
 refine Qac Zas hmix Try.func54 N.cb54 N.cc54 N.cs54 N.cn54 ?_
 have hv := Qbs h
 have hd := hv.dome
 have hng := hd.ng
 have hbl : (Qaq f).length = f.dome.gores.length := by simp [Qaq]
 simp only [N.rc54, N.rs54, Qa7, Qa8, Qa9, Qa4, Qgh, Qae, Qa5, Qa2, Fam.step, Qaf, evO, opv, qv, V.cells, Qas, Qaa, Qa6, Qa3, Qa0, Qa1, ↓reduceIte, Nat.reduceEqDiff, Qb, Qc, Qf, Qu, vw_i, Qay, Qaz, zipA, Ql, true_and, and_self, eFig]
 refine Qbg f.dome.gores.length (fun i => ⟨lkp [(1, .pa (eFig f)), (3, .rf 0 i 0 i 1), (4, .i i)], [.cells i (((Qaq f).take i).map eCan).flatten]⟩) ?_ ?_ ?_
 ·simp only [Q6, Za, Qc, Zt, kp, Qa0, Qa1, ↓reduceIte, Nat.reduceEqDiff, Qb, Qc, Za, eFig]
 ·intro i hi
  obtain ⟨g, hg⟩ : ∃ g, f.dome.gores[i]? = some g := ⟨_, Qe hi⟩
  have hgm := hd.gores g (Qt hg)
  have hb : Qbx f.dome g = true := by simp only [Qbx, Qak, Ze, decide_eq_true_eq]; omega
  have hlt : (i : Int) < f.dome.gores.length := by omega
  have h3 : inI ((i : Int) + 1) := by unfold inI; omega
  have hnb := hd.nb
  have g2 := q86r f.dome g
  unfold Qal at g2
  rw [Qcc, hb, if_pos hp] at g2
  simp only [eLE] at g2
  have hbi : (Qaq f)[i]? = some (Qan (Qdo f.dome g)) := by simp [Qaq, hg]
  simp only [hg, hlt, h3, g2, Qp, Qq, Qar hbi, X6, Xv, Qo9, Zq, Xk, Zt, Xc, Nat.min_eq_left (show i ≤ (Qaq f).length by omega), eCan, Qag, Qa7, Qbf, Qa8, Qad, Qa9, Qa4, Qcv, Qba, putB, Qae, Qaj, Qa5, Qa2, Fam.step, Qaf, Qbi, Qb4, runX, eff, Qb9, fpR, fpQ, fpV, Qbp, hits, putB, nv, sv, Qce, evO, opv, qv, binV, ldV, iadV, lenV, Qaw, Qap, putAt, Qb7, Qb6, V.cells, Qas, Qb3, Qaa, Qa6, flat, Qcy, kp, Qa3, Qa0, Qa1, ↓reduceIte, Nat.reduceEqDiff, Nat.reduceAdd, Nat.reduceLT, Nat.reduceLeDiff, Qb, Qc, Zg, Q5, Qh, Qf, Qj, Qv, Xe, Qk, Za, Q0, Qm, Qx, Qu, Qn, Qw, Zl, Qs, Qo, Q7, Zi, Qr, Zo, Q8, vw_i, Qay, Qaz, Zd, Qi, Q1, Q4, Zb, Ql, Zf, Zc, Qd, decide_true, true_and, and_true, and_self, reduceCtorEq, not_false_eq_true, ne_eq, Zh, Zj, Q2, imp_self, Qg, Q9, Qa, Qz, eI, eCan, eFig]
  exact ⟨by omega, by unfold Qbd; omega⟩
 ·have hne : ¬ ((Qaq f).length : Int) < f.dome.gores.length := by omega
  rw [← hbl]
  simp only [hne, Zs, Qo9, Zq, Zv, Qky, vw_C, hpF, upB, Qc8 _ _ (Qfh (Qaq f)), Qa7, Qa8, Qad, Qam, Qai, Qa4, Qc5, ↓Qbl, cutH, Qae, Qaj, Qa5, Qa2, Fam.step, Qaf, evO, opv, qv, binV, ldV, lenV, cutV, Qa3, Qa0, Qa1, ↓reduceIte, Nat.reduceEqDiff, Nat.reduceAdd, Nat.reduceLT, Nat.reduceLeDiff, Qb, Qc, Qh, Qf, Qj, Qv, Za, Qm, Qu, Qw, endQ, rvs, rv1, resV, Qay, Qdw, Qi, Qd, decide_false, and_self, Qg, eFig]
def Qye (a : Fig × List Int × List Int × Int) : List V := [.ag (eFig a.1), .sl 1 (a.2.1.map eI), .sl 1 (a.2.2.1.map eI), .i a.2.2.2]
def Za2 : List V → Fig × List Int × List Int × Int | [.ag r, .sl _ l, .sl _ k, .i m] => (dFig r, l.map dI, k.map dI, m) | _ => (dFig [], [], [], 0)
theorem Za3 (a : Fig × List Int × List Int × Int) : Za2 (Qye a) = a := by obtain ⟨r, l, n, m⟩ := a; simp [Za2, Qye, Qcw, Function.comp_def, Qfc]
def s76 : List V → Prop × V := fnG Qye Za2 (fun a => Ok76 a.1 a.2.1 a.2.2.1 a.2.2.2) (fun a => ((Qdm a.1 a.2.1 a.2.2.1 a.2.2.2 : Nat) : Int)) .i
def s54 : List V → Prop × V := fnG (fun f => [.ag (eFig f)]) decF (fun f => Qao f = 0 ∧ Qbc f.dome true = 0) Qaq (fun l => .sl 1 (l.map eCan))
noncomputable def H18 : Gam := (H17.ext 76 s76).ext 54 s54
theorem Zci : GOk Try.prog H18 := by
 have k1 := Zas.ext (f := 76) (r := s76) (fun a w => Try.call76 a w) (Qau fun a h => W76 a.1 a.2.1 a.2.2.1 a.2.2.2 h)
 exact k1.ext (f := 54) (r := s54) (fun a w => Try.call54 a w) (Qau fun a h => W54 a h.1 h.2)
theorem q76 (f : Fig) (l k : List Int) (m : Int) : H18 76 [.ag (eFig f), .sl 1 (l.map eI), .sl 1 (k.map eI), .i m] = (Ok76 f l k m, .i (Qdm f l k m)) :=
 (show H18 76 _ = s76 (Qye (f, l, k, m)) from rfl).trans (Qb1 _ (Za3 _))
theorem q54 (f : Fig) : H18 54 [.ag (eFig f)] = (Qao f = 0 ∧ Qbc f.dome true = 0, .sl 1 ((Qaq f).map eCan)) :=
 (show H18 54 _ = s54 [.ag (eFig f)] from rfl).trans (Qb1 _ (Qcw _))
theorem q61' (f : Fig) (n : Int) : H18 61 [.ag (eFig f), .i n] = (f.starts.length < 10000000 ∧ f.times.length < 10000000, .i (Qc2 f (Qak n 0 (f.dome.gores.length - 1)))) := q61 f n
theorem Qym {p a u b : Int} (hp : 0 < p) (hu : 0 ≤ u) : farN p (modN (a + u) p) b = farN p (u.tmod p) (modN (b - a) p) := by
 unfold farN
 have hp0 : p ≠ 0 := by omega
 simp only [Qeg hp]
 rw [Zm hu]
 have h1 : ((a + u) % p - b) % p = (u % p - (b - a) % p) % p := by
  rw [Z1, Z8, Z1]
  congr 1; omega
 have h2 : (b - (a + u) % p) % p = ((b - a) % p - u % p) % p := by
  rw [Z1, Z8, Z8]
  congr 1; omega
 rw [h1, h2]
theorem Qwn (f : Fig) (s : Int) : Qht f s = (pull f.run s).tmod f.period := rfl
theorem Quf {f : Fig} (hp : 1 ≤ f.period) (hr : 0 ≤ f.run ∧ f.run ≤ 2000) {starts : List Int} {seam s : Int} (hs : 0 ≤ s ∧ s ≤ 1000) :
  Qg4 f starts seam s = decide (farN f.period (Qht f s) (modN (atL starts ((seam + 1).tmod starts.length) - atL starts seam) f.period) ≤ f.near) := by
 unfold Qg4 Qok
 rw [Qym (by omega) (Qjt hr hs).1, Qwn]
theorem Qq9 {f : Fig} (hp : 1 ≤ f.period) (hr : 0 ≤ f.run ∧ f.run ≤ 2000) {l starts : List Int} {seam : Int} (hs : ∀ s ∈ l, 0 ≤ s ∧ s ≤ 1000) :
  Qdm f l starts seam = Qim f.period (l.map (Qht f)) (modN (atL starts ((seam + 1).tmod starts.length) - atL starts seam) f.period) f.near := by
 unfold Qdm Qim
 rw [List.filter_map, Qg]
 congr 1
 refine X0 fun s h => ?_
 exact Quf hp hr (hs s h)
theorem Qhf {f : Fig} (h : Qao f = 0) : ∀ l ∈ Qaq f, l.length < 1000 ∧ ∀ s ∈ l, 0 ≤ s ∧ s ≤ 60 := by
 have hv := Qbs h
 have hd := hv.dome
 intro l hl
 obtain ⟨g, hg, rfl⟩ := X1.1 hl
 have hgm := hd.gores g hg
 obtain ⟨b, hbb⟩ : ∃ b, f.dome.bolts[g.toNat]? = some b := ⟨_, Qe (by omega)⟩
 have hvb := hd.bolts b (Qt hbb)
 have hba : Qdo f.dome g = b := by simp [Qdo, hbb]
 have hst := hvb.st
 have hnl := Qcf hvb
 rw [hba]
 refine ⟨by omega, fun s hs => ?_⟩
 simp only [Qan, X7, Qiw] at hs
 omega
theorem Qrq (f : Fig) : (Qb0 f).moves = (Qaq f).map fun l => l.map (Qht f) := by
 simp [Qb0, Qaq, Qgv]
theorem Qs7 {n : Nat} {seam : Int} (h : Qak seam 0 ((n : Int) - 1) = true) : 0 ≤ seam ∧ seam < n := by
 simp only [Qak, Ze, decide_eq_true_eq] at h; omega
theorem Qix {f : Fig} {seam : Int} {l : List Int} (h : (Qaq f)[seam.toNat]? = some l) : Qbt (Qb0 f) seam = l.map (Qht f) := by
 unfold Qbt
 rw [Qrq, Qz, h]; rfl
theorem W42 (f : Fig) (seam : Int) (hs : f.starts.length < 10000000) (ht : f.times.length < 10000000) : Qab Try.prog 42 [.ag (eFig f), .i seam] (.tp [.i (Qec f seam).1, .i (Qec f seam).2]) := by
 refine Qac Zci hmix Try.func42 cb42 cc42 cs42 cn42 ?_
 have g1 := q61' f seam
 unfold eFig at g1
 simp only [rc42, rs42, g1, Qag, Qa7, Qa8, Qad, Qbe, Qa9, Qai, Qa4, Qae, Qaj, Qa5, Qa2, Fam.step, Qaf, evO, opv, qv, binV, ldV, iadV, lenV, Qaw, V.cells, Qas, Qaa, Qa6, flat, Qa3, Qa0, Qa1, ↓reduceIte, Nat.reduceEqDiff, Nat.reduceAdd, Nat.reduceLT, Nat.reduceLeDiff, Qb, Qc, Qh, Qf, Qj, Qv, Qk, Q0, Qm, Qn, Qs, endQ, rvs, rv1, resV, vw_i, Qay, Qaz, Qcg, zipA, Qi, Ql, Zy, Qd, decide_eq_false_iff_not, true_and, and_true, and_self, false_implies, implies_true, reduceCtorEq, Q3, Qa, Zn, Classical.not_not, eFig]
 refine ⟨⟨hs, ht⟩, fun h => by simp [Qec, h], fun h => ?_⟩
 obtain ⟨h1, h2, h3⟩ := Qek h
 have hv := Qbs h1
 have hd := hv.dome
 have hng := hd.ng
 have hsm := Qs7 h2
 have hbl : (Qaq f).length = f.dome.gores.length := by simp [Qaq]
 obtain ⟨l, hl⟩ : ∃ l, (Qaq f)[seam.toNat]? = some l := ⟨_, Qe (by omega)⟩
 obtain ⟨hl1, hl2⟩ := Qhf h1 l (Qt hl)
 have g2 := q54 f
 have g3 := q76 f l f.starts seam
 unfold eFig at g2 g3
 have hlt : seam < (Qaq f).length := by omega
 simp only [g2, g3, hl, hlt, hsm.1, eCan, Qaa, flat, Nat.reduceLeDiff, Qh, Qf, Qm, Qo, Qay, Qi, Qd, decide_eq_true_eq, decide_eq_false_iff_not, true_and, and_true, and_self, implies_true, Zh, Qg, Qz, eCan]
 have hns := hv.ns
 have hok : Ok76 f l f.starts seam := ⟨by omega, fun s hs => ⟨hv.period, hv.run, by have := hl2 s hs; omega, by omega, by omega, fun x hx => by have := hv.starts x hx; have := hv.period; unfold tame; omega⟩⟩
 have hme : Qec f seam = (if Qdm f l f.starts seam = l.length then 1 else if Qdm f l f.starts seam = 0 then 2 else 3, 0) := by
  unfold Qec
  rw [if_pos h]
  congr 1
  unfold ownN Qci
  rw [Qix hl, Qq9 hv.period.1 hv.run (fun s hs => by have := hl2 s hs; omega), Qg]
  have hml : (Qb0 f).moves.length = f.starts.length := by rw [hns]; simp [Qb0]
  rw [hml]; rfl
 rw [hme]
 refine ⟨⟨h1, h3⟩, hok, fun e => ?_, fun e => ⟨fun e2 => ?_, fun e2 => ?_⟩⟩
 ·rw [if_pos (by omega)]
 ·rw [if_neg (by omega), if_pos (by omega)]
 ·rw [if_neg (by omega), if_neg (by omega)]
end Go.C02
set_option linter.unusedSimpArgs false
set_option linter.unusedVariables false
namespace Go.C02
open Go.Fam Go.Proofs
def s42 : List V → Prop × V := fnG eFN dFN (fun a => a.1.starts.length < 10000000 ∧ a.1.times.length < 10000000) (fun a => Qec a.1 a.2) (fun r => .tp [.i r.1, .i r.2])
noncomputable def H19 : Gam := H18.ext 42 s42
theorem Zat : GOk Try.prog H19 := Zci.ext (f := 42) (r := s42) (fun a w => Try.call42 a w) (Qau fun a h => W42 a.1 a.2 h.1 h.2)
theorem q42 (f : Fig) (n : Int) : H19 42 [.ag (eFig f), .i n] = (f.starts.length < 10000000 ∧ f.times.length < 10000000, .tp [.i (Qec f n).1, .i (Qec f n).2]) :=
 (show H19 42 _ = s42 (eFN (f, n)) from rfl).trans (Qb1 _ (Zby _))
theorem q61s (f : Fig) (n : Int) : H19 61 [.ag (eFig f), .i n] = (f.starts.length < 10000000 ∧ f.times.length < 10000000, .i (Qc2 f (Qak n 0 (f.dome.gores.length - 1)))) := q61 f n
theorem Zbg {f : Fig} (h : Qao f = 0) : Qak 0 0 ((f.dome.gores.length : Int) - 1) = true := by
 have := (Qbs h).dome.ng
 simp only [Qak, Ze, decide_eq_true_eq]; omega
theorem Qta (f : Fig) : Qc2 f (Qak 0 0 ((f.dome.gores.length : Int) - 1)) = Qc2 f true := by
 by_cases h : Qao f = 0
 ·rw [Zbg h]
 ·simp [Qc2, h]
theorem W43 (f : Fig) (hs : f.starts.length < 10000000) (ht : f.times.length < 10000000) : Qab Try.prog 43 [.ag (eFig f)] (eLE (badR f)) := by
 refine Qac Zat hmix Try.func43 N.cb43 N.cc43 N.cs43 N.cn43 ?_
 have g1 := q61s f 0
 rw [Qta] at g1
 unfold eFig at g1
 simp only [N.rc43, N.rs43, g1, Qag, Qa7, Qa8, Qad, Qbe, Qa9, Qai, Qa4, Qgh, Qae, Qa5, Qa2, Fam.step, Qaf, evO, opv, qv, binV, ldV, Qaw, V.cells, Qas, Qaa, Qa6, flat, Qa3, Qa0, Qa1, ↓reduceIte, Nat.reduceEqDiff, Nat.reduceAdd, Nat.reduceLT, Nat.reduceLeDiff, Qb, Qc, Qh, Qf, Qk, Q0, Qu, Qn, Qs, endQ, rvs, rv1, resV, vw_i, vw_z, Qay, Qaz, Qcg, zipA, Qi, Ql, Qd, decide_eq_false_iff_not, true_and, and_true, and_self, implies_true, Q3, Classical.not_not, eFig]
 refine ⟨⟨hs, ht⟩, fun h => ?_, fun h => ?_⟩
 ·simp only [badR, if_neg h, eLE, Qc]
 ·obtain ⟨h1, h2, h3⟩ := Qek h
  have hv := Qbs h1
  have hns := hv.ns
  have hng := hv.dome.ng
  refine Qbg f.starts.length (fun i => ⟨lkp [(1, .pa (eFig f)), (5, .rf 0 (Qfz f i).length 0 (Qfz f i).length 1), (6, .i i)],
   [.cells (Qfz f i).length ((Qfz f i).map eI).flatten]⟩) ?_ ?_ ?_
  ·simp only [Q6, Qfz, Xp, Qc, X5, Qf, Zt, kp, Qa0, Qa1, ↓reduceIte, Nat.reduceEqDiff, Qb, Qc, Qf, ne_eq, eFig]
  ·intro i hi
   have hlt : (i : Int) < f.starts.length := by omega
   have h4 : inI ((i : Int) + 1) := by unfold inI; omega
   have h5 := Qp7 f i
   have g2 := q42 f i
   have hw : Qak i 0 ((f.dome.gores.length : Int) - 1) = true := by simp only [Qak, Ze, decide_eq_true_eq]; omega
   have hme : (Qec f i).1 = ownN (Qb0 f) i := by unfold Qec; rw [hw, if_pos h]
   rw [hme] at g2
   unfold eFig at g2
   simp only [hlt, h4, g2, Qp, Qq, Qmm, Qet, Zq, Qag, Qa7, Qa8, Qad, Qbe, Qa9, Qa4, Qcv, putB, Qae, Qaj, Qa5, Qa2, Fam.step, Qaf, Qbi, Qb4, putB, nv, sv, Qce, evO, opv, qv, binV, ldV, lenV, Qaw, Qap, putAt, Qb7, Qb6, V.cells, Qas, Qb3, Qaa, Qa6, flat, Qcy, kp, Qa3, Qa0, Qa1, ↓reduceIte, Nat.reduceEqDiff, Nat.reduceAdd, Nat.reduceLT, Nat.reduceLeDiff, Qb, Qc, Zg, Q5, Qh, Qf, Qj, Qv, Qk, Za, Q0, Qm, Qx, Qu, Qn, Qw, Zl, Qo, Zi, Qr, Zo, vw_i, Qay, Qaz, Qi, Q1, Ql, Qd, decide_true, decide_eq_false_iff_not, true_and, and_true, and_self, implies_true, reduceCtorEq, not_false_eq_true, ne_eq, Q3, Qg, Classical.not_not, eFig]
   refine ⟨⟨hs, ht⟩, fun e => ?_, fun e => ?_⟩
   ·simp only [e, not_false_eq_true, Xg, X6, Xv, ↓reduceIte, Qb, Qc, Qh, Qf, Qi, and_true, not_false_eq_true, eI]
    unfold Qbd; omega
   ·simp only [e, not_true_eq_false, ↓reduceIte, not_true_eq_false]
  ·have hne : ¬ (f.dome.gores.length : Int) < f.starts.length := by omega
   rw [hns]
   simp only [hne, badR, h, eLE, Qet, Zq, Zv, Qdp, vw_I, hpF, upB, Qc8 _ _ (Qdu (Qfz f f.dome.gores.length)), Qa7, Qa8, Qad, Qam, Qai, Qa4, Qc5, ↓Qbl, cutH, Qae, Qaj, Qa5, Qa2, Fam.step, Qaf, evO, opv, qv, binV, ldV, lenV, cutV, Qa3, Qa0, Qa1, ↓reduceIte, Nat.reduceEqDiff, Nat.reduceAdd, Nat.reduceLT, Nat.reduceLeDiff, Qb, Qc, Qh, Qf, Qj, Qv, Za, Qm, Qu, Qw, Qs, endQ, rvs, rv1, resV, vw_i, Qay, Qcg, Qdw, Qi, Qd, decide_false, and_self, Qg, eFig]
def Qe3 (f : Fig) (l : List (List Int)) (starts : List Int) : Bool := (Zk starts.length).all fun i : Nat => decide (Qdm f (l[i]?.getD []) starts i = (l[i]?.getD []).length)
theorem Qgk {p : Nat → Bool} {i : Nat} (h : (Zk i).all p = true) (hp : p i = true) : (Zk (i + 1)).all p = true := by
 rw [Z6, List.all_append, h]; simp [hp]
theorem Qh5 {p : Nat → Bool} {i n : Nat} (hi : i < n) (h : p i = false) : (Zk n).all p = false := by
 rw [X2]; intro h'
 have := Z3.1 h' i (Xh.2 hi)
 rw [h] at this; cases this
structure Ok53 (f : Fig) (l : List (List Int)) (starts : List Int) : Prop where
 len : starts.length = l.length ∧ l.length ≤ 1000
 s : ∀ i : Nat, i < l.length → Ok76 f (l[i]?.getD []) starts i
theorem q76s (f : Fig) (l k : List Int) (m : Int) : H19 76 [.ag (eFig f), .sl 1 (l.map eI), .sl 1 (k.map eI), .i m] = (Ok76 f l k m, .i (Qdm f l k m)) := q76 f l k m
theorem W53 (f : Fig) (l : List (List Int)) (starts : List Int) (h : Ok53 f l starts) : Qab Try.prog 53 [.ag (eFig f), .sl 1 (l.map eCan), .sl 1 (starts.map eI)] (.b (Qe3 f l starts)) := by
 refine Qac Zat hmix Try.func53 cb53 cc53 cs53 cn53 ?_
 have hlen := h.len
 simp only [rc53, rs53, Qa7, Qa8, Qa9, Qa4, Qae, Qa5, Qa2, Fam.step, Qaf, evO, opv, qv, V.cells, Qas, Qaa, Qa6, Qa3, Qa0, Qa1, ↓reduceIte, Nat.reduceEqDiff, Nat.reduceAdd, Qb, Qc, vw_i, Qay, Qaz, zipA, Qi, Ql, true_and, and_self, reduceCtorEq, eFig]
 refine Qb8 starts.length (fun i => ⟨lkp [(1, .sl 1 (l.map eCan)), (2, .sl 1 (starts.map eI)), (3, .pa (eFig f)), (7, .i i)], []⟩) (fun i => (Zk i).all (fun i : Nat => decide (Qdm f (l[i]?.getD []) starts i = (l[i]?.getD []).length)) = true) ?_ rfl ?_ ?_
 ·simp only [Q6, kp, Qa0, Qa1, ↓reduceIte, Nat.reduceEqDiff, Qb, Qc, eFig]
 ·intro i hi hC
  obtain ⟨x, hx⟩ : ∃ x, l[i]? = some x := ⟨_, Qe (by omega)⟩
  have hlt : (i : Int) < starts.length := by omega
  have hlt2 : (i : Int) < l.length := by omega
  have h3 : inI ((i : Int) + 1) := by unfold inI; omega
  have g1 := q76s f x starts i
  unfold eFig at g1
  have hok := h.s i (by omega)
  rw [hx, Qo] at hok
  have hle := Qqa f x starts i
  simp only [hlt, hlt2, h3, hx, eCan, g1, Qp, Qq, Qag, Qa7, Qbf, Qa8, Qad, Qbe, Qa9, Qai, Qa4, Qba, Qae, Qaj, Qa5, Qa2, Fam.step, Qaf, runX, eff, Qb9, fpR, fpQ, fpV, Qbp, hits, evO, opv, qv, binV, ldV, iadV, lenV, Qaw, Qaa, Qa6, flat, kp, Qa3, Qa0, Qa1, ↓reduceIte, Nat.reduceEqDiff, Nat.reduceAdd, Nat.reduceLT, Nat.reduceLeDiff, Qb, Qc, Q5, Qh, Qf, Qk, Q0, Qm, Qx, Qu, Qn, Qs, Qo, Q7, Qr, Q8, endQ, rvs, rv1, resV, vw_i, vw_b, Qay, Qaz, Zd, Qi, V.b.injEq, Q1, Q4, Zb, Ql, Zf, Zc, Qd, decide_true, decide_eq_true_eq, true_and, and_true, and_self, implies_true, Zh, Zj, Q2, Qg, Q9, Qa, Qz, eCan, eFig]
  refine ⟨hok, fun e => ?_, fun e => ?_⟩
  ·unfold Qe3
   rw [Qh5 hi]
   simp only [hx, Qo, decide_eq_false_iff_not]; omega
  ·exact Qgk hC (by simp only [hx, Qo, decide_eq_true_eq]; omega)
 ·intro hC
  simp only [Qy, Qe3, hC, Qa7, Qa8, Qad, Qam, Qai, Qa4, Qae, Qaj, Qa5, Qa2, Fam.step, Qaf, evO, opv, qv, binV, lenV, Qa3, Qa0, Qa1, ↓reduceIte, Nat.reduceEqDiff, Qb, Qc, endQ, rvs, rv1, resV, vw_b, Qy, Qd, decide_false, and_self, Qg, eFig]
def eFCL (a : Fig × List (List Int) × List Int) : List V := [.ag (eFig a.1), .sl 1 (a.2.1.map eCan), .sl 1 (a.2.2.map eI)]
def dFCL : List V → Fig × List (List Int) × List Int | [.ag r, .sl _ l, .sl _ k] => (dFig r, l.map dCan, k.map dI) | _ => (dFig [], [], [])
theorem Zbw (a : Fig × List (List Int) × List Int) : dFCL (eFCL a) = a := by obtain ⟨r, l, k⟩ := a; simp [dFCL, eFCL, Qcw, Function.comp_def, Qfc, Qv9]
def s53 : List V → Prop × V := fnG eFCL dFCL (fun a => Ok53 a.1 a.2.1 a.2.2) (fun a => Qe3 a.1 a.2.1 a.2.2) .b
noncomputable def H20 : Gam := (H19.ext 53 s53).ext 43 (fnG (fun f => [.ag (eFig f)]) decF (fun f => f.starts.length < 10000000 ∧ f.times.length < 10000000) badR eLE)
theorem Zau : GOk Try.prog H20 := by
 have k1 := Zat.ext (f := 53) (r := s53) (fun a w => Try.call53 a w) (Qau fun a h => W53 a.1 a.2.1 a.2.2 h)
 exact k1.ext (f := 43) (fun a w => Try.call43 a w) (Qau fun f h => W43 f h.1 h.2)
theorem q53 (f : Fig) (l : List (List Int)) (k : List Int) : H20 53 [.ag (eFig f), .sl 1 (l.map eCan), .sl 1 (k.map eI)] = (Ok53 f l k, .b (Qe3 f l k)) :=
 (show H20 53 _ = s53 (eFCL (f, l, k)) from rfl).trans (Qb1 _ (Zbw _))
theorem q54s (f : Fig) : H20 54 [.ag (eFig f)] = (Qao f = 0 ∧ Qbc f.dome true = 0, .sl 1 ((Qaq f).map eCan)) := q54 f
theorem q52s (l : List Int) (m lo up : Int) : H20 52 [.sl 1 (l.map eI), .i m, .i lo, .i up] = (l.length < 10000000, .b (allN l m lo up)) := h52 l m lo up
def areR (f : Fig) (starts : List Int) : Bool := allN starts f.starts.length 0 (f.period - 1) && Qe3 f (Qaq f) starts
theorem Qwu {f : Fig} (h : Qao f = 0) {starts : List Int} (hl : starts.length = f.starts.length) (hs : ∀ x ∈ starts, tame 1000000 x) : Ok53 f (Qaq f) starts := by
 have hv := Qbs h
 have hns := hv.ns
 have hng := hv.dome.ng
 have hbl : (Qaq f).length = f.dome.gores.length := by simp [Qaq]
 refine ⟨by omega, fun i hi => ?_⟩
 obtain ⟨l, hl⟩ : ∃ l, (Qaq f)[i]? = some l := ⟨_, Qe hi⟩
 obtain ⟨h1, h2⟩ := Qhf h l (Qt hl)
 rw [hl, Qo]
 exact ⟨by omega, fun s hs' => ⟨hv.period, hv.run, by have := h2 s hs'; omega, by omega, by omega, hs⟩⟩
theorem W20 (f : Fig) (starts : List Int) (h : Qao f = 0) (hp : Qbc f.dome true = 0) (hl : starts.length < 10000000) : Qab Try.prog 20 [.ag (eFig f), .sl 1 (starts.map eI)] (.b (areR f starts)) := by
 refine Qac Zau hmix Try.func20 cb20 cc20 cs20 cn20 ?_
 have hv := Qbs h
 have hper := hv.period
 have hin : inI (f.period - 1) := by unfold inI; omega
 have g1 := q54s f
 have g2 := q53 f (Qaq f) starts
 unfold eFig at g1 g2
 simp only [rc20, rs20, hin, q52s, g1, g2, Qag, Qa7, Qbf, Qa8, Qad, Qbe, Qai, Qa4, Qba, Qae, Qa5, Qa2, Fam.step, Qaf, runX, eff, Qb9, fpR, fpQ, fpV, Qbp, hits, evO, opv, qv, binV, ldV, lenV, Qaw, V.cells, Qas, Qaa, Qa6, flat, Qa3, Qa0, Qa1, ↓reduceIte, Nat.reduceEqDiff, Nat.reduceAdd, Nat.reduceLT, Nat.reduceLeDiff, Qb, Qc, Q5, Qh, Qf, Qj, Qv, Qk, Q0, Qm, Qx, Qu, Qn, Qs, Q7, Qr, Q8, endQ, rvs, rv1, resV, vw_i, vw_b, Qay, Qaz, zipA, Qi, V.b.injEq, Q1, Q4, Zb, Ql, Zf, Zc, Qd, true_and, and_true, and_self, implies_true, reduceCtorEq, Zj, Q2, Q3, imp_self, Qg, Qa, Z2, eFig]
 refine ⟨hl, fun e => by simp [areR, e], fun e => ?_⟩
 have e' := e
 rw [Qnm, Ze, decide_eq_true_eq, Z3] at e'
 refine ⟨⟨h, hp⟩, Qwu h e'.1 fun x hx => ?_, by simp [areR, e]⟩
 have := e'.2 x hx
 simp only [Qak, Ze, decide_eq_true_eq] at this
 unfold tame; omega
def Qit (f : Fig) (l : List Int) (a b : Int) : Bool := l.all fun s => Qok f (modN (a + pull f.run s) f.period) b
theorem q71s (a n : Int) : H20 71 [.i a, .i n] = (0 < n ∧ n ≤ 1000000, .i (modN a n)) := rfl
theorem q72s (l s : Int) : H20 72 [.i l, .i s] = (tame 1000000 l ∧ tame 1000000 s, .i (pull l s)) := rfl
theorem q73s (f : Fig) (a b : Int) : H20 73 [.ag (eFig f), .i a, .i b] = ((0 < f.period ∧ f.period ≤ 1000000) ∧ tame 100000000 a ∧ tame 100000000 b, .b (Qok f a b)) := q73 f a b
structure Ok91 (f : Fig) (l : List Int) (a b : Int) : Prop where
 p : 1 ≤ f.period ∧ f.period ≤ 60
 run : 0 ≤ f.run ∧ f.run ≤ 2000
 l : l.length < 1000 ∧ ∀ s ∈ l, 0 ≤ s ∧ s ≤ 1000
 ab : tame 1000000 a ∧ tame 1000000 b
theorem W91 (f : Fig) (l : List Int) (a b : Int) (h : Ok91 f l a b) : Qab Try.prog 91 [.ag (eFig f), .sl 1 (l.map eI), .i a, .i b] (.b (Qit f l a b)) := by
 refine Qac Zau hmix Try.func91 cb91 cc91 cs91 cn91 ?_
 have hll := h.l.1
 simp only [rc91, rs91, Qa7, Qa8, Qa9, Qa4, Qae, Qa5, Qa2, Fam.step, Qaf, evO, opv, qv, V.cells, Qas, Qaa, Qa6, Qa3, Qa0, Qa1, ↓reduceIte, Nat.reduceEqDiff, Nat.reduceAdd, Qb, Qc, vw_i, Qay, Qaz, zipA, Qi, Ql, true_and, and_self, reduceCtorEq, eFig]
 refine Qb8 l.length (fun i => ⟨lkp [(1, .sl 1 (l.map eI)), (2, .i a), (3, .i b), (4, .pa (eFig f)), (9, .i i)], []⟩) (fun i => (l.take i).all (fun s => Qok f (modN (a + pull f.run s) f.period) b) = true) ?_ ?_ ?_ ?_
 ·simp only [Q6, kp, Qa0, Qa1, ↓reduceIte, Nat.reduceEqDiff, Qb, Qc, eFig]
 ·simp
 ·intro i hi hC
  obtain ⟨x, hx⟩ : ∃ x, l[i]? = some x := ⟨_, Qe hi⟩
  have hlt : (i : Int) < l.length := by omega
  have h3 : inI ((i : Int) + 1) := by unfold inI; omega
  have hxx := h.l.2 x (Qt hx)
  have b3 := Qjt h.run hxx
  have hp := h.p
  have hr := h.run
  have hab := h.ab
  unfold tame at hab
  have hm := Qfg (a := a + pull f.run x) (p := f.period) (by omega)
  have g1 := q73s f (modN (a + pull f.run x) f.period) b
  unfold eFig at g1
  simp only [hx, hlt, h3, q71s, q72s, g1, Qkh hx, hC, Qp, Qq, Qag, Qa7, Qbf, Qa8, Qad, Qbe, Qa9, Qai, Qa4, Qba, Qae, Qaj, Qa5, Qa2, Fam.step, Qaf, runX, eff, Qb9, fpR, fpQ, fpV, Qbp, hits, evO, opv, qv, binV, ldV, iadV, lenV, Qaw, Qaa, Qa6, flat, kp, Qa3, Qa0, Qa1, ↓reduceIte, Nat.reduceEqDiff, Nat.reduceAdd, Nat.reduceLT, Nat.reduceLeDiff, Qb, Qc, Q5, Qh, Qf, Qj, Qv, Qk, Q0, Qm, Qx, Qu, Qn, Qs, Qo, Q7, Qr, Q8, endQ, rvs, rv1, resV, vw_i, vw_b, Qay, Qaz, Zd, Qi, V.b.injEq, Q1, Q4, Xf, Zb, Ql, Zf, Zc, Qd, decide_true, true_and, and_true, and_self, implies_true, Zh, Zj, Q2, Q3, imp_self, Qg, Q9, Qa, Qz, Z2, eI, eFig]
  refine ⟨⟨by unfold tame; omega, by unfold tame; omega⟩, by unfold inI; omega, by omega, ⟨by omega, by unfold tame; omega, by unfold tame; omega⟩, fun e => ?_⟩
  unfold Qit
  rw [Qhe hx e]
 ·intro hC
  rw [Zs] at hC
  simp only [Qy, Qit, hC, Qa7, Qa8, Qad, Qam, Qai, Qa4, Qae, Qaj, Qa5, Qa2, Fam.step, Qaf, evO, opv, qv, binV, lenV, Qa3, Qa0, Qa1, ↓reduceIte, Nat.reduceEqDiff, Qb, Qc, endQ, rvs, rv1, resV, vw_b, Qy, Qd, decide_false, and_self, Qg, eFig]
end Go.C02
set_option linter.unusedSimpArgs false
set_option linter.unusedVariables false
namespace Go.C02
open Go.Fam Go.Proofs
def s91 : List V → Prop × V := fnG Qu0 Qy6 (fun a => Ok91 a.1 a.2.1 a.2.2.1 a.2.2.2) (fun a => Qit a.1 a.2.1 a.2.2.1 a.2.2.2) .b
noncomputable def H21 : Gam := H20.ext 91 s91
theorem Zav : GOk Try.prog H21 := Zau.ext (f := 91) (r := s91) (fun a w => Try.call91 a w) (Qau fun a h => W91 a.1 a.2.1 a.2.2.1 a.2.2.2 h)
def Qc7 (f : Fig) (l : List (List Int)) (first : List Int) (rec_ : List Int → Int) (best : Int) (start : Nat) : Int :=
 if first ≠ [] ∧ Qit f (l[first.length - 1]?.getD []) (first[first.length - 1]?.getD 0) start = false then best
 else if 0 ≤ rec_ (first ++ [(start : Int)]) ∧ (best < 0 ∨ rec_ (first ++ [(start : Int)]) < best) then rec_ (first ++ [(start : Int)]) else best
def Qdt (f : Fig) (l : List (List Int)) : Nat → List Int → Int
 | 0, first => if Qe3 f l first then first.sum else -1
 | k + 1, first => (Zk f.period.toNat).foldl (fun best start => Qc7 f l first (Qdt f l k) best start) (-1)
structure Ok62 (k : Nat) (f : Fig) (first : List Int) : Prop where
 ok : Qao f = 0
 in_ : ∀ x ∈ first, 0 ≤ x ∧ x < f.period
 len : first.length ≤ f.starts.length
 k : f.starts.length - first.length ≤ k
def Qbw (f : Fig) (first : List Int) : Int := Qdt f (Qaq f) (f.starts.length - first.length) first
def eFC (a : Fig × List Int) : List V := [.ag (eFig a.1), .sl 1 ((Qaq a.1).map eCan), .sl 1 (a.2.map eI)]
def dFC : List V → Fig × List Int | [.ag r, _, .sl _ k] => (dFig r, k.map dI) | _ => (dFig [], [])
theorem Zdf (a : Fig × List Int) : dFC (eFC a) = a := by obtain ⟨r, k⟩ := a; simp [dFC, eFC, Qcw, Function.comp_def, Qfc]
def s62 (k : Nat) : List V → Prop × V := fnG eFC dFC (fun a => Ok62 k a.1 a.2) (fun a => Qbw a.1 a.2) .i
noncomputable def HL (k : Nat) : Gam := H21.ext 62 (s62 k)
theorem qL62 (k : Nat) (f : Fig) (first : List Int) : HL k 62 [.ag (eFig f), .sl 1 ((Qaq f).map eCan), .sl 1 (first.map eI)] = (Ok62 k f first, .i (Qbw f first)) :=
 (show HL k 62 _ = s62 k (eFC (f, first)) from rfl).trans (Qb1 _ (Zdf _))
theorem qL91 (k : Nat) (f : Fig) (l : List Int) (n m : Int) : HL k 91 [.ag (eFig f), .sl 1 (l.map eI), .i n, .i m] = (Ok91 f l n m, .b (Qit f l n m)) :=
 (show HL k 91 _ = s91 (Qu0 (f, l, n, m)) from rfl).trans (Qb1 _ (Qva _))
theorem q53' (f : Fig) (l : List (List Int)) (k : List Int) : H21 53 [.ag (eFig f), .sl 1 (l.map eCan), .sl 1 (k.map eI)] = (Ok53 f l k, .b (Qe3 f l k)) := q53 f l k
theorem Zbf {f : Fig} (hp : f.period ≤ 60) {first : List Int} (h : ∀ x ∈ first, 0 ≤ x ∧ x < f.period) : ∀ x ∈ first, tame 1000000 x := fun x hx => by have := h x hx; unfold tame; omega
theorem Zd1 {first : List Int} {p : Int} (h : ∀ x ∈ first, 0 ≤ x ∧ x < p) (hp : p ≤ 60) (i : Nat) : 0 ≤ (first.take i).sum ∧ (first.take i).sum ≤ first.length * 60 := by
 have h1 := Qxk (l := first) (fun x hx => (h x hx).1) i
 have h2 := Qni (l := first) (b := 60) fun x hx => by have := h x hx; omega
 omega
theorem W62z (f : Fig) (first : List Int) (h : Ok62 0 f first) : Qab Try.prog 62 [.ag (eFig f), .sl 1 ((Qaq f).map eCan), .sl 1 (first.map eI)] (.i (Qbw f first)) := by
 refine Qac Zav hmix Try.func62 cb62 cc62 cs62 cn62 ?_
 have hv := Qbs h.ok
 have hl := h.len
 have hk := h.k
 have hns := hv.ns
 have hng := hv.dome.ng
 have hfl : first.length = f.starts.length := by omega
 have hper := hv.period
 have g1 := q53' f (Qaq f) first
 unfold eFig at g1
 have hcond : (first.length : Int) = f.starts.length := by omega
 have hle : Qbw f first = if Qe3 f (Qaq f) first then first.sum else -1 := by unfold Qbw; rw [show f.starts.length - first.length = 0 by omega]; rfl
 simp only [rc62, rs62, g1, hcond, Qag, Qa7, Qa8, Qad, Qbe, Qa9, Qai, Qa4, Qae, Qa5, Qa2, Fam.step, Qaf, evO, opv, qv, binV, ldV, lenV, Qaw, V.cells, Qas, Qaa, Qa6, flat, Qa3, Qa0, Qa1, ↓reduceIte, Nat.reduceEqDiff, Nat.reduceAdd, Nat.reduceLT, Nat.reduceLeDiff, Int.reduceNeg, Qb, Qc, Qh, Qf, Qj, Qv, Qk, Q0, Qm, Qn, endQ, rvs, rv1, resV, vw_i, Qay, Qaz, zipA, Qi, V.i.injEq, Ql, Qd, decide_true, true_and, and_true, and_self, implies_true, reduceCtorEq, Q3, Qg, Z2, eFig]
 refine ⟨Qwu h.ok hfl (Zbf hper.2 h.in_), fun e => by rw [hle, e]; rfl, fun e => ?_⟩
 rw [hle, e, if_pos rfl]
 refine Qbg first.length (fun i => ⟨lkp [(2, .sl 1 (first.map eI)), (7, .i f.starts.length), (8, .i (first.take i).sum), (9, .i i)], []⟩) ?_ ?_ ?_
 ·simp only [Q6, List.sum_nil, kp, Qa0, Qa1, ↓reduceIte, Nat.reduceEqDiff, Qb, Qc, Za]
 ·intro i hi
  obtain ⟨x, hx⟩ : ∃ x, first[i]? = some x := ⟨_, Qe hi⟩
  have hlt : (i : Int) < f.starts.length := by omega
  have hlt2 : (i : Int) < first.length := by omega
  have h3 : inI ((i : Int) + 1) := by unfold inI; omega
  have h5 := Zd1 h.in_ hper.2 (i + 1)
  rw [Qkq hx] at h5
  have h6 : inI ((first.take i).sum + x) := by unfold inI; omega
  simp only [hx, hlt, hlt2, h3, h6, Qkq hx, Qp, Qq, Qag, Qa7, Qa8, Qad, Qa9, Qa4, Qae, Qaj, Qa5, Qa2, Fam.step, Qaf, evO, opv, qv, binV, ldV, iadV, kp, Qa3, Qa0, Qa1, ↓reduceIte, Nat.reduceEqDiff, Nat.reduceLeDiff, Int.reduceNeg, Qb, Qc, Qh, Qf, Qm, Qo, Zd, Qi, Qd, decide_true, and_self, Zh, Qg, Q9, Qa, Qz, eI]
 ·simp only [Zs, hcond, Qy, Qa7, Qa8, Qad, Qam, Qai, Qa4, Qae, Qaj, Qa5, Qa2, Fam.step, Qaf, evO, opv, qv, binV, Qa3, Qa0, Qa1, ↓reduceIte, Nat.reduceEqDiff, Int.reduceNeg, Qb, Qc, endQ, rvs, rv1, resV, vw_i, Qy, Qd, decide_false, and_self]
theorem Qvi {l : List Int} {k : Nat} {z : Int} (h : l[k]? = some z) : (X3 k (l.map eI).flatten).headD .u = .i z := by
 have e : (l.map eI).flatten = l.map V.i := by
  clear h
  induction l with
  | nil => rfl
  | cons a l ih => rw [Qb, Xk, ih]; rfl
 rw [e, ← List.map_drop]
 have hk := Qav h
 rw [Xj hk]
 rw [Qe hk] at h
 rw [Xt.inj h]; rfl
set_option maxHeartbeats 1000000 in
theorem W62 (k : Nat) (hG : GOk Try.prog (HL k)) (f : Fig) (first : List Int) (h : Ok62 (k + 1) f first) (hn : first.length < f.starts.length) : Qab Try.prog 62 [.ag (eFig f), .sl 1 ((Qaq f).map eCan), .sl 1 (first.map eI)] (.i (Qbw f first)) := by
 refine Qac hG hmix Try.func62 cb62 cc62 cs62 cn62 ?_
 have hv := Qbs h.ok
 have hk := h.k
 have hns := hv.ns
 have hng := hv.dome.ng
 have hper := hv.period
 have hpn : (f.period.toNat : Int) = f.period := by omega
 have hcond : ¬ (first.length : Int) = f.starts.length := by omega
 obtain ⟨j, hj⟩ : ∃ j, f.starts.length - first.length = j + 1 := ⟨f.starts.length - first.length - 1, by omega⟩
 have hle : Qbw f first = (Zk f.period.toNat).foldl (fun best start => Qc7 f (Qaq f) first (Qdt f (Qaq f) j) best start) (-1) := by unfold Qbw; rw [hj]; rfl
 rw [hle]
 simp only [rc62, rs62, hcond, Qag, Qa7, Qa8, Qad, Qa9, Qa4, Qae, Qa5, Qa2, Fam.step, Qaf, evO, opv, qv, binV, ldV, lenV, V.cells, Qas, Qaa, Qa6, Qa3, Qa0, Qa1, ↓reduceIte, Nat.reduceEqDiff, Nat.reduceAdd, Nat.reduceLeDiff, Int.reduceNeg, Qb, Qc, Qh, Qf, Qj, Qv, Qm, vw_i, Qay, Qaz, zipA, Qi, Ql, Qd, decide_false, true_and, and_self, reduceCtorEq, Qg, eFig]
 refine Qbg f.period.toNat (fun i => ⟨lkp [(1, .sl 1 ((Qaq f).map eCan)), (2, .sl 1 (first.map eI)), (3, .pa (eFig f)), (7, .i first.length), (10, .i ((Zk i).foldl (fun best start => Qc7 f (Qaq f) first (Qdt f (Qaq f) j) best start) (-1))), (11, .i i)], []⟩) ?_ ?_ ?_
 ·simp only [Q6, Xp, Zz, Zz, cutH, kp, cutV, Qa0, Qa1, ↓reduceIte, Nat.reduceEqDiff, Int.reduceNeg, Qb, Qc, Q0, eFig]
 ·intro i hi
  have hlt : (i : Int) < f.period := by omega
  have h3 : inI ((i : Int) + 1) := by unfold inI; omega
  obtain ⟨best, hb⟩ : ∃ best, best = (Zk i).foldl (fun best start => Qc7 f (Qaq f) first (Qdt f (Qaq f) j) best start) (-1) := ⟨_, rfl⟩
  rw [Z6, Zw, Xq, Zz, ← hb]
  have hfl : (first.map eI).flatten ++ [[V.i (i : Int)]].flatten = ((first ++ [(i : Int)]).map eI).flatten := by simp [eI]
  have hrec : Qdt f (Qaq f) j (first ++ [(i : Int)]) = Qbw f (first ++ [(i : Int)]) := by
   unfold Qbw
   rw [Xg, List.length_singleton, show f.starts.length - (first.length + 1) = j by omega]
  have hin : ∀ x ∈ first ++ [(i : Int)], 0 ≤ x ∧ x < f.period := by
   intro x hx
   rcases Xr.1 hx with hx | hx
   ·exact h.in_ x hx
   ·have : x = i := by simpa using hx
    omega
  have hok : Ok62 k f (first ++ [(i : Int)]) := ⟨h.ok, hin, by simp; omega, by simp; omega⟩
  have g1 := qL62 k f (first ++ [(i : Int)])
  unfold eFig at g1
  have hll : (first ++ [(i : Int)]).length = first.length + 1 := by simp
  have hci := Qdp (first ++ [(i : Int)])
  rw [hll] at hci
  have hfit : Qbd first.length ∧ Qbd (first.length + 1) := by unfold Qbd; omega
  have hlenI : ((first.map eI).flatten).length = first.length := by rw [Qet, Zq]
  have hlenI2 : (((first ++ [(i : Int)]).map eI).flatten).length = first.length + 1 := by rw [Qet, hll, Zq]
  have hres : ∀ b : Int, Qc7 f (Qaq f) first (Qdt f (Qaq f) j) best i = b → ∀ τ : Int, τ = b → τ = Qc7 f (Qaq f) first (Qdt f (Qaq f) j) best i := fun b h τ h' => by rw [h, h']
  by_cases h0 : first = []
  ·have h0' : ¬ (0 : Int) < first.length := by rw [h0]; simp
   have hstep : Qc7 f (Qaq f) first (Qdt f (Qaq f) j) best i = if 0 ≤ Qbw f (first ++ [(i : Int)]) ∧ (best < 0 ∨ Qbw f (first ++ [(i : Int)]) < best) then Qbw f (first ++ [(i : Int)]) else best := by
    unfold Qc7
    rw [if_neg (fun h => h.1 h0), hrec]
   rw [hstep]
   simp only [hlt, h3, h0', Zt, hfl, hlenI, hlenI2, hfit.1, hfit.2, Zq, Qg, Zv, hci, vw_I, g1, Qag, Qa7, Qbf, Qa8, Qad, Qbe, Qa9, Qa4, Qc5, Qcv, ↓Qbl, Qba, cutH, putB, Qae, Qaj, Qa5, Qa2, Fam.step, Qaf, Qbi, Qbz, Qb4, Qbq, ug, runX, eff, Qb9, fpR, fpQ, fpV, Qbp, hits, putB, nv, sv, Qce, evO, opv, qv, Qb2, Qru, binV, ldV, iadV, Qaw, Qap, putAt, Qb7, Qb6, V.cells, Qas, Qb3, Qaa, Qa6, flat, kp, cutV, Qa3, Qa0, Qa1, ↓reduceIte, Nat.reduceEqDiff, Nat.reduceAdd, Nat.reduceLT, Nat.reduceLeDiff, Int.reduceNeg, Qb, Qc, Zg, Q5, Qh, Qf, Qj, Qv, Qk, Za, Q0, Qm, Qx, Qu, Qn, Qw, Qs, Q7, Zi, Qr, Zo, Q8, vw_i, Qay, Qaz, Qdw, Qi, Q1, Q4, Zb, Ql, Zy, Bool.or_true, Zf, Zc, Qd, decide_true, decide_false, decide_eq_true_eq, decide_eq_false_iff_not, true_and, and_true, and_self, false_and, forall_const, implies_true, reduceCtorEq, not_false_eq_true, ne_eq, Zj, Zp, Q2, beq_true, beq_false, Qff, Qf1, imp_self, Qg, Qa, Qz, Zn, eFig]
   refine ⟨hok, fun e => ⟨e, fun e2 => ?_⟩, fun e => ?_, fun e => ?_⟩
   ·simp [e, e2]
   ·rw [Ze, Zr, decide_eq_true_eq, decide_eq_true_eq, decide_eq_true_eq] at e
    rw [if_pos e]
    simp only [Qp, Qq]
   ·rw [if_neg (fun h => by
     have : (decide (0 ≤ Qbw f (first ++ [(i : Int)])) && (decide (best < 0) || decide (Qbw f (first ++ [(i : Int)]) < best))) = true := by
      rw [Ze, Zr, decide_eq_true_eq, decide_eq_true_eq, decide_eq_true_eq]; exact h
     rw [this] at e; cases e)]
    simp only [Qp, Qq]
  ·have h0' : (0 : Int) < first.length := by have := Xw.2 h0; omega
   have ht : ((first.length : Int) - 1).toNat = first.length - 1 := by omega
   have hbl : (Qaq f).length = f.dome.gores.length := by simp [Qaq]
   obtain ⟨lb, hlb⟩ : ∃ lb, (Qaq f)[first.length - 1]? = some lb := ⟨_, Qe (by omega)⟩
   obtain ⟨z, hz⟩ : ∃ z, first[first.length - 1]? = some z := ⟨_, Qe (by omega)⟩
   have hz2 : (first ++ [(i : Int)])[first.length - 1]? = some z := by rw [Z4 (by omega), hz]
   have hdh := Qvi hz2
   have hzi := h.in_ z (Qt hz)
   obtain ⟨hl1, hl2⟩ := Qhf h.ok lb (Qt hlb)
   have g2 := qL91 k f lb z i
   unfold eFig at g2
   have i1 : inI ((first.length : Int) - 1) := by unfold inI; omega
   have i2 : (0 : Int) ≤ (first.length : Int) - 1 := by omega
   have i3 : (first.length : Int) - 1 < (Qaq f).length := by omega
   have i4 : (first.length : Int) - 1 < ((first.length + 1 : Nat) : Int) := by omega
   have i5 : first.length - 1 ≤ first.length := by omega
   have hok91 : Ok91 f lb z i := ⟨hper, hv.run, ⟨hl1, fun s hs => by have := hl2 s hs; omega⟩, by unfold tame; omega⟩
   simp only [hlt, h3, h0', Zt, hfl, hlenI, hlenI2, hfit.1, hfit.2, Zq, Qg, Zv, hci, vw_I, g1, ht, hlb, eCan, hdh, g2, i1, i2, i3, i4, i5, Qag, Qa7, Qbf, Qa8, Qad, Qbe, Qa9, Qam, Qa4, Qc5, Qcv, ↓Qbl, Qba, cutH, putB, Qae, Qaj, Qa5, Qa2, Fam.step, Qaf, Qbi, Qbz, Qb4, Qbq, ug, runX, eff, Qb9, fpR, fpQ, fpV, Qbp, hits, putB, nv, sv, Qce, evO, opv, qv, Qb2, binV, ldV, iadV, Qaw, Qap, putAt, Qb7, Qb6, V.cells, Qas, Qb3, Qaa, Qa6, flat, kp, cutV, Qa3, Qa0, Qa1, ↓reduceIte, Nat.reduceEqDiff, Nat.reduceAdd, Nat.reduceLT, Nat.reduceLeDiff, Int.reduceNeg, Qb, Qc, Zg, Q5, Qh, Qf, Qj, Qv, Qk, Za, Q0, Qm, Qx, Qu, Qn, Qw, Qs, Qo, Q7, Zi, Qr, Zo, Q8, vw_i, Qay, Qaz, Qdw, beq_self_eq_true, Qi, Q1, Q4, Zb, Ql, Bool.or_true, Zf, Zc, Qd, Xy, decide_true, decide_eq_true_eq, decide_eq_false_iff_not, true_and, and_true, and_self, forall_const, implies_true, reduceCtorEq, not_false_eq_true, ne_eq, Zh, Zj, Zp, Q2, beq_true, beq_false, Q3, Qff, Qf1, imp_self, Qg, Qa, Qz, Zn, Z2, eCan, eFig]
   refine ⟨hok91, fun hJ => ?_, fun hJ => ?_⟩
   ·have hstep : Qc7 f (Qaq f) first (Qdt f (Qaq f) j) best i = best := by
     unfold Qc7
     rw [if_pos ⟨h0, by rw [hlb, hz]; exact hJ⟩]
    rw [hstep]
    simp only [Qp, Qq]
   ·have hstep : Qc7 f (Qaq f) first (Qdt f (Qaq f) j) best i = if 0 ≤ Qbw f (first ++ [(i : Int)]) ∧ (best < 0 ∨ Qbw f (first ++ [(i : Int)]) < best) then Qbw f (first ++ [(i : Int)]) else best := by
     unfold Qc7
     rw [if_neg (fun h => by have h2 := h.2; rw [hlb, hz] at h2; simp only [Qo] at h2; rw [hJ] at h2; cases h2), hrec]
    rw [hstep]
    refine ⟨hok, fun e => ⟨e, fun e2 => ?_⟩, fun e => ?_, fun e => ?_⟩
    ·simp [e, e2]
    ·rw [Ze, Zr, decide_eq_true_eq, decide_eq_true_eq, decide_eq_true_eq] at e
     rw [if_pos e]
     simp only [Qp, Qq]
    ·rw [if_neg (fun h => by
      have : (decide (0 ≤ Qbw f (first ++ [(i : Int)])) && (decide (best < 0) || decide (Qbw f (first ++ [(i : Int)]) < best))) = true := by
       rw [Ze, Zr, decide_eq_true_eq, decide_eq_true_eq, decide_eq_true_eq]; exact h
      rw [this] at e; cases e)]
     simp only [Qp, Qq]
 ·simp only [hpn, Qy, Qa7, Qa8, Qad, Qam, Qai, Qa4, Qae, Qaj, Qa5, Qa2, Fam.step, Qaf, evO, opv, qv, binV, ldV, Qa3, Qa0, Qa1, ↓reduceIte, Nat.reduceEqDiff, Nat.reduceAdd, Nat.reduceLeDiff, Int.reduceNeg, Qb, Qc, Qh, Qf, Qj, Qv, Qm, endQ, rvs, rv1, resV, vw_i, Qy, Qi, Qd, decide_false, and_self, eFig]
theorem okHL : ∀ k, GOk Try.prog (HL k) := by
 intro k
 induction k with
 | zero => exact Zav.ext (f := 62) (r := s62 0) (fun a w => Try.call62 a w) (Qau fun a h => W62z a.1 a.2 h)
 | succ k ih =>
  refine Zav.ext (f := 62) (r := s62 (k + 1)) (fun a w => Try.call62 a w) (Qau fun a h => ?_)
  by_cases hn : a.2.length < a.1.starts.length
  ·exact W62 k ih a.1 a.2 h hn
  ·exact W62z a.1 a.2 ⟨h.ok, h.in_, h.len, by omega⟩
noncomputable def H22 : Gam := HL 100
theorem Zaw : GOk Try.prog H22 := okHL 100
theorem q62 (f : Fig) (first : List Int) : H22 62 [.ag (eFig f), .sl 1 ((Qaq f).map eCan), .sl 1 (first.map eI)] = (Ok62 100 f first, .i (Qbw f first)) := qL62 100 f first
end Go.C02
set_option linter.unusedSimpArgs false
set_option linter.unusedVariables false
namespace Go.C02
open Go.Fam Go.Proofs
structure NB (r : Ring) (near : Int) (l : List Int) : Prop where
 len : l.length = r.moves.length
 in_ : ∀ x ∈ l, 0 ≤ x ∧ x < r.fig.period
 meet : ∀ i : Nat, i < r.moves.length → Qci r.fig.period (Qbt r i) (modN (l.getD ((i + 1) % r.moves.length) 0 - l.getD i 0) r.fig.period) near = 1
structure Part (r : Ring) (near first : Int) (k : Nat) (l : List Int) (a : Int) : Prop where
 len : l.length = k + 1
 hd : l.getD 0 0 = first
 lst : l.getD k 0 = a
 in_ : ∀ x ∈ l, 0 ≤ x ∧ x < r.fig.period
 meet : ∀ i : Nat, i < k → Qci r.fig.period (Qbt r i) (modN (l.getD (i + 1) 0 - l.getD i 0) r.fig.period) near = 1
theorem Qm9 {r : Ring} {near : Int} {k : Nat} (h : k < r.moves.length) : (Qax r near)[k]? = some (Qcs r near k r.fig.period.toNat) := by
 unfold Qax Qct
 rw [Qz, List.getElem?_range h]; rfl
theorem Qhd {r : Ring} {near : Int} {k n : Nat} {s : Int} : s ∈ Qcs r near k n ↔ (0 ≤ s ∧ s < n) ∧ Qci r.fig.period (Qbt r k) s near = 1 := by
 unfold Qcs
 simp only [X7, X1, Xh, decide_eq_true_eq]
 constructor
 ·rintro ⟨⟨i, hi, rfl⟩, h⟩
  exact ⟨by omega, h⟩
 ·rintro ⟨h1, h2⟩
  exact ⟨⟨s.toNat, by omega, by omega⟩, h2⟩
theorem Qwm {p a : Int} (hp : 0 < p) (h : 0 ≤ a ∧ a < p) : modN a p = a := by
 rw [Qeg hp, Z9 h.1 h.2]
theorem Qqf {p a s : Int} (hp : 0 < p) (hs : 0 ≤ s ∧ s < p) : modN (modN (a + s) p - a) p = s := by
 rw [Qeg hp, Qeg hp, Z1, show a + s - a = s by omega, Z9 hs.1 hs.2]
theorem Qqe {p a b : Int} (hp : 0 < p) (hb : 0 ≤ b ∧ b < p) : modN (a + modN (b - a) p) p = b := by
 rw [Qeg hp, Qeg hp, Int.add_emod_emod, show a + (b - a) = b by omega, Z9 hb.1 hb.2]
theorem Qd1 {l m : List Int} {i : Nat} (h : i < l.length) : (l ++ m).getD i 0 = l.getD i 0 := by
 simp only [Qa]; rw [Z4 h]
theorem Qf5 {l : List Int} {x : Int} {i : Nat} (h : i = l.length) : (l ++ [x]).getD i 0 = x := by
 subst h
 simp only [Qa]; rw [Zu (Zv _), Xn]; rfl
theorem Ql8 {l : List Int} {i : Nat} {P : Int → Prop} (h : i < l.length) (hP : ∀ x ∈ l, P x) : P (l.getD i 0) := hP _ (Ql9 h)
theorem Qs8 {r : Ring} (h : OkR r) {near first : Int} (hf : 0 ≤ first ∧ first < r.fig.period) : ∀ (k : Nat) (l : List Int) (a : Int), k < r.moves.length → (Wy r.fig.period first ((Qax r near).take k) l a ↔ Part r near first k l a) := by
  have hp := h.period
  intro k
  induction k with
  | zero =>
    intro l a _
    rw [Za]
    constructor
    · intro hw
      obtain ⟨rfl, rfl⟩ := Qtr hw
      exact ⟨rfl, rfl, rfl, fun x hx => by have : x = a := by simpa using hx
                                           rw [this]; exact hf, fun i hi => by omega⟩
    · rintro ⟨h1, h2, h3, _, _⟩
      obtain ⟨x, rfl⟩ := List.length_eq_one_iff.1 h1
      simp at h2 h3
      subst h2 h3
      exact .nil
  | succ k ih =>
    intro l a hk
    rw [Qar (Qm9 (by omega))]
    constructor
    · intro hw
      obtain ⟨l0, a0, s, hw1, hs, rfl, rfl⟩ := Qp1 hw
      obtain ⟨h1, h2, h3, h4, h5⟩ := (ih l0 a0 (by omega)).1 hw1
      rw [Qhd] at hs
      obtain ⟨hs1, hs2⟩ := hs
      have hm := Qfg (a := a0 + s) (p := r.fig.period) (by omega)
      refine ⟨by simp [h1], by rw [Qd1 (by omega)]; exact h2, Qf5 h1.symm, fun x hx => ?_, fun i hi => ?_⟩
      · rcases Xr.1 hx with hx | hx
        · exact h4 x hx
        · have : x = modN (a0 + s) r.fig.period := by simpa using hx
          rw [this]; exact hm
      · by_cases e : i = k
        · subst e
          rw [Qf5 h1.symm, Qd1 (by omega), h3, Qqf (by omega) (by omega)]
          exact hs2
        · rw [Qd1 (by omega), Qd1 (by omega)]
          exact h5 i (by omega)
    · rintro ⟨h1, h2, h3, h4, h5⟩
      have hne : l ≠ [] := fun e => by rw [e] at h1; simp at h1
      obtain ⟨l0, x, rfl⟩ : ∃ l0 x, l = l0 ++ [x] := ⟨_, _, (List.dropLast_concat_getLast hne).symm⟩
      have hl0 : l0.length = k + 1 := by simpa using h1
      rw [Qf5 hl0.symm] at h3
      subst h3
      have hx := h4 x (by simp)
      have hpart : Part r near first k l0 (l0.getD k 0) := by
        refine ⟨hl0, by rw [Qd1 (by omega)] at h2; exact h2, rfl, fun y hy => h4 y (by simp [hy]), fun i hi => ?_⟩
        have := h5 i (by omega)
        rwa [Qd1 (by omega), Qd1 (by omega)] at this
      have hw := (ih l0 _ (by omega)).2 hpart
      have h6 := h5 k (by omega)
      rw [Qf5 hl0.symm, Qd1 (by omega)] at h6
      have hb := Qfg (a := x - l0.getD k 0) (p := r.fig.period) (by omega)
      have := Wy.snoc (st := Qcs r near k r.fig.period.toNat) (s := modN (x - l0.getD k 0) r.fig.period) hw (Qhd.2 ⟨by omega, h6⟩)
      rw [Qqe (by omega) hx] at this
      exact this
theorem Qno {r : Ring} (h : OkR r) (near : Int) (l : List Int) : Begs r near l ↔ NB r near l := by
 have hp := h.period
 have hlen := h.len
 obtain ⟨n, hn⟩ : ∃ n, r.moves.length = n + 1 := ⟨r.moves.length - 1, by omega⟩
 constructor
 ·rintro ⟨first, hf, a, hw, hm⟩
  rw [hn, Z7] at hw
  obtain ⟨h1, h2, h3, h4, h5⟩ := (Qs8 h hf n l a (by omega)).1 hw
  refine ⟨by omega, h4, fun i hi => ?_⟩
  by_cases e : i = n
  ·subst e
   rw [hn, Nat.mod_self, h2, h3]
   have e : ((i + 1 : Nat) : Int) - 1 = (i : Nat) := by omega
   rw [hn, e] at hm
   exact hm
  ·rw [hn, X4 (by omega)]
   exact h5 i (by omega)
 ·rintro ⟨h1, h2, h3⟩
  have hf : 0 ≤ l.getD 0 0 ∧ l.getD 0 0 < r.fig.period := Ql8 (P := fun x => 0 ≤ x ∧ x < r.fig.period) (by omega) h2
  refine ⟨l.getD 0 0, hf, l.getD n 0, ?_, ?_⟩
  ·rw [hn, Z7]
   refine (Qs8 h hf n l _ (by omega)).2 ⟨by omega, rfl, rfl, h2, fun i hi => ?_⟩
   have := h3 i (by omega)
   rwa [hn, X4 (by omega)] at this
  ·have := h3 n (by omega)
   rw [hn, Nat.mod_self] at this
   have e : ((n + 1 : Nat) : Int) - 1 = (n : Nat) := by omega
   rw [hn, e]
   exact this
theorem Zbm {p : Int} (steps : List (List Int)) : ∀ (k : Nat), k ≤ steps.length → ∀ y, atS p (steps.take k) (· = 0) y ↔ ∃ l, Wy p 0 (steps.take k) l y := by
 intro k
 induction k with
 | zero =>
  intro _ y
  rw [Za]
  constructor
  ·intro h
   have : y = 0 := h
   subst this
   exact ⟨[0], .nil⟩
  ·rintro ⟨l, hw⟩
   exact (Qtr hw).2
 | succ k ih =>
  intro hk y
  obtain ⟨st, hst⟩ : ∃ st, steps[k]? = some st := ⟨_, Qe hk⟩
  rw [Qar hst]
  unfold atS at ih ⊢
  rw [Zw]
  constructor
  ·rintro ⟨a, ha, s, hs, rfl⟩
   obtain ⟨l, hw⟩ := (ih (by omega) a).1 ha
   exact ⟨_, .snoc hw hs⟩
  ·rintro ⟨l, hw⟩
   obtain ⟨l0, a, s, hw, hs, e, _⟩ := Qp1 hw
   exact ⟨a, (ih (by omega) a).2 ⟨l0, hw⟩, s, hs, e⟩
theorem NB.shift {r : Ring} (h : OkR r) {near : Int} {l : List Int} (hl : NB r near l) (c : Int) : NB r near (l.map fun x => modN (x + c) r.fig.period) := by
 have hp := h.period
 have hlen := h.len
 refine ⟨by rw [Qg]; exact hl.len, fun x hx => ?_, fun i hi => ?_⟩
 ·obtain ⟨y, _, rfl⟩ := X1.1 hx
  exact Qfg (by omega)
 ·have hg : ∀ j, j < r.moves.length → (l.map fun x => modN (x + c) r.fig.period).getD j 0 = modN (l.getD j 0 + c) r.fig.period := fun j hj => by
   simp only [Qa, Qz]
   rw [Qe (by rw [hl.len]; exact hj)]; rfl
  rw [hg _ (Xo _ (by omega)), hg _ hi]
  have := hl.meet i hi
  rw [← this]
  congr 1
  simp only [Qeg (show 0 < r.fig.period by omega)]
  rw [Z1, Z8]
  congr 1; omega
theorem Qty {r : Ring} (h : OkR r) (near : Int) : Qjz r near ↔ ∃ l, NB r near l := by
 have hp := h.period
 have hlen := h.len
 obtain ⟨n, hn⟩ : ∃ n, r.moves.length = n + 1 := ⟨r.moves.length - 1, by omega⟩
 have hsl : (Qax r near).length = n + 1 := by simp [Qax, Qct, hn]
 have e0 : Qax r near = (Qax r near).take n ++ [Qcs r near n r.fig.period.toNat] := by
  rw [← Qar (Qm9 (by omega)), Z0 (by omega)]
 have key : Qjz r near ↔ ∃ l, Beg r near 0 l := by
  unfold Qjz Beg
  rw [e0]
  unfold atS
  rw [Zw, hn, Z7]
  have hta : List.take n ((Qax r near).take n ++ [Qcs r near n r.fig.period.toNat]) = (Qax r near).take n := by
   rw [List.take_append_of_le_length (by rw [Xc]; omega), List.take_take, Nat.min_self]
  have e1 : ((n + 1 : Nat) : Int) - 1 = (n : Nat) := by omega
  rw [hta, e1]
  constructor
  ·rintro ⟨a, ha, s, hs, e⟩
   obtain ⟨l, hw⟩ := (Zbm (p := r.fig.period) (Qax r near) n (by omega) a).1 ha
   rw [Qhd] at hs
   refine ⟨l, a, hw, ?_⟩
   have : modN (0 - a) r.fig.period = s := by rw [e]; exact Qqf (by omega) (by omega)
   rw [this]; exact hs.2
  ·rintro ⟨l, a, hw, hm⟩
   refine ⟨a, (Zbm (p := r.fig.period) (Qax r near) n (by omega) a).2 ⟨l, hw⟩, modN (0 - a) r.fig.period, Qhd.2 ⟨?_, hm⟩, (Qqe (by omega) (by omega)).symm⟩
   have := Qfg (a := 0 - a) (p := r.fig.period) (by omega)
   omega
 rw [key]
 constructor
 ·rintro ⟨l, hl⟩
  exact ⟨l, (Qno h near l).1 ⟨0, by omega, hl⟩⟩
 ·rintro ⟨l, hl⟩
  have h2 := hl.shift h (- l.getD 0 0)
  obtain ⟨first, hf, hb⟩ := (Qno h near _).2 h2
  have : first = 0 := by
   obtain ⟨a, hw, _⟩ := hb
   rw [hn, Z7] at hw
   have hpart := (Qs8 h hf n _ a (by omega)).1 hw
   have e := hpart.hd
   simp only [Qa, Qz] at e
   have hl0 := hl.len
   rw [Qe (show 0 < l.length by omega)] at e
   simp only [Zh, Qo] at e
   rw [← e, Int.add_right_neg]
   exact Qwm (by omega) (by omega)
  subst this
  exact ⟨_, hb⟩
end Go.C02
set_option linter.unusedSimpArgs false
set_option linter.unusedVariables false
namespace Go.C02
open Go.Fam Go.Proofs
def IsB (f : Fig) (l : List Int) : Prop := l.length = f.starts.length ∧ (∀ x ∈ l, 0 ≤ x ∧ x < f.period) ∧ Qe3 f (Qaq f) l = true
theorem Qkl (l : List Int) (i : Nat) : atL l (i : Nat) = l.getD i 0 := by
 unfold atL; rw [Q9, Qa]
theorem Qwj {p : Int} {ms : List Int} {later near : Int} : Qci p ms later near = 1 ↔ Qim p ms later near = ms.length := by
 unfold Qci
 split
 ·simp_all
 ·rename_i h
  split <;> simp [h]
theorem Qjl {f : Fig} (h : Qao f = 0) {starts : List Int} (hl : starts.length = f.starts.length) {i : Nat} (hi : i < f.starts.length) :
  Qdm f ((Qaq f)[i]?.getD []) starts i = ((Qaq f)[i]?.getD []).length ↔
   Qci f.period (Qbt (Qb0 f) i) (modN (starts.getD ((i + 1) % f.starts.length) 0 - starts.getD i 0) f.period) f.near = 1 := by
 have hv := Qbs h
 have hns := hv.ns
 have hbl : (Qaq f).length = f.dome.gores.length := by simp [Qaq]
 obtain ⟨l, hlb⟩ : ∃ l, (Qaq f)[i]? = some l := ⟨_, Qe (by omega)⟩
 obtain ⟨h1, h2⟩ := Qhf h l (Qt hlb)
 have hm : Qbt (Qb0 f) i = l.map (Qht f) := Qix (by rw [Q9]; exact hlb)
 have e1 : ((i : Int) + 1).tmod starts.length = (((i + 1) % f.starts.length : Nat) : Int) := by
  rw [Zm (by omega), Xd, hl]; simp only [Qp, Qq]
 rw [Qwj, hm, hlb, Qo, Qq9 hv.period.1 hv.run (fun s hs => by have := h2 s hs; omega), Qg, e1, Qkl, Qkl]
theorem Qi5 {f : Fig} (h : Qao f = 0) {starts : List Int} (hl : starts.length = f.starts.length) :
  Qe3 f (Qaq f) starts = true ↔ ∀ i : Nat, i < f.starts.length → Qci f.period (Qbt (Qb0 f) i) (modN (starts.getD ((i + 1) % f.starts.length) 0 - starts.getD i 0) f.period) f.near = 1 := by
 unfold Qe3
 rw [Z3]
 constructor
 ·intro ha i hi
  have := ha i (Xh.2 (by omega))
  rw [decide_eq_true_eq] at this
  exact (Qjl h hl hi).1 this
 ·intro ha i hi
  rw [Xh] at hi
  rw [decide_eq_true_eq]
  exact (Qjl h hl (by omega)).2 (ha i (by omega))
theorem Qrj {f : Fig} (h : Qao f = 0) (l : List Int) : IsB f l ↔ NB (Qb0 f) f.near l := by
 have hns := (Qbs h).ns
 have hml : (Qb0 f).moves.length = f.starts.length := by rw [hns]; simp [Qb0]
 constructor
 ·rintro ⟨h1, h2, h3⟩
  refine ⟨by rw [hml]; exact h1, h2, fun i hi => ?_⟩
  rw [hml]
  exact (Qi5 h h1).1 h3 i (by omega)
 ·rintro ⟨h1, h2, h3⟩
  rw [hml] at h1 h3
  exact ⟨h1, h2, (Qi5 h h1).2 h3⟩
def Qs9 (f : Fig) (T : List Int → Prop) (v : Int) : Prop := (v = -1 ∧ ∀ l, ¬ (T l ∧ IsB f l)) ∨ (∃ l, T l ∧ IsB f l ∧ v = l.sum ∧ ∀ l', T l' → IsB f l' → l.sum ≤ l'.sum)
theorem Qrk {f : Fig} {l : List Int} (h : IsB f l) : 0 ≤ l.sum := by
 have := Qxk (l := l) (fun x hx => (h.2.1 x hx).1) l.length
 rw [Zs] at this
 exact this.1
theorem Qrl {f : Fig} {l : List Int} {z b : Int} : Qit f l z b = true ↔ l.length = (l.filter fun s => Qok f (modN (z + pull f.run s) f.period) b).length := by
 unfold Qit
 rw [Z3]
 constructor
 ·intro h
  rw [Xx.2 h]
 ·intro h s hs
  have := Xx.1 (List.Sublist.eq_of_length (List.filter_sublist) h.symm)
  exact this s hs
theorem Qrm {f : Fig} (h : Qao f = 0) : ∀ (k : Nat) (first : List Int), first.length + k = f.starts.length → (∀ x ∈ first, 0 ≤ x ∧ x < f.period) → Qs9 f (fun l => first <+: l) (Qdt f (Qaq f) k first) := by
 have hper := (Qbs h).period
 have hns := (Qbs h).ns
 intro k
 induction k with
 | zero =>
  intro first hl hf
  unfold Qdt
  by_cases hm : Qe3 f (Qaq f) first = true
  ·rw [if_pos hm]
   refine .inr ⟨first, List.prefix_refl _, ⟨by omega, hf, hm⟩, rfl, fun l' hp hb => ?_⟩
   have : first = l' := hp.eq_of_length (by have := hb.1; omega)
   rw [this]; exact Int.le_refl _
  ·rw [if_neg hm]
   refine .inl ⟨rfl, fun l ⟨hp, hb⟩ => ?_⟩
   have : first = l := hp.eq_of_length (by have := hb.1; omega)
   subst this
   exact hm hb.2.2
 | succ k ih =>
  intro first hl hf
  unfold Qdt
  have key : ∀ n : Nat, (n : Int) ≤ f.period → Qs9 f (fun l => first <+: l ∧ l.getD first.length 0 < n) ((Zk n).foldl (fun best start => Qc7 f (Qaq f) first (Qdt f (Qaq f) k) best start) (-1)) := by
   intro n
   induction n with
   | zero =>
    intro _
    refine .inl ⟨rfl, fun l ⟨⟨hp, hlt⟩, hb⟩ => ?_⟩
    have := Ql8 (P := fun x => 0 ≤ x ∧ x < f.period) (show first.length < l.length by have := hb.1; omega) hb.2.1
    omega
   | succ n ihn =>
    intro hn
    have ihn := ihn (by omega)
    rw [Z6, Zw, Xq, Zz]
    obtain ⟨best, hbest⟩ : ∃ best, best = (Zk n).foldl (fun best start => Qc7 f (Qaq f) first (Qdt f (Qaq f) k) best start) (-1) := ⟨_, rfl⟩
    rw [← hbest] at ihn ⊢
    have hin : ∀ x ∈ first ++ [(n : Int)], 0 ≤ x ∧ x < f.period := by
     intro x hx
     rcases Xr.1 hx with hx | hx
     ·exact hf x hx
     ·have : x = n := by simpa using hx
      omega
    have hrec := ih (first ++ [(n : Int)]) (by simp; omega) hin
    have hsplit : ∀ l, IsB f l → (first <+: l ∧ l.getD first.length 0 < ((n + 1 : Nat) : Int)) → (first <+: l ∧ l.getD first.length 0 < n) ∨ first ++ [(n : Int)] <+: l := by
     rintro l hb ⟨hp, hlt⟩
     by_cases e : l.getD first.length 0 < n
     ·exact .inl ⟨hp, e⟩
     ·right
      obtain ⟨t, rfl⟩ := hp
      have hb1 := hb.1
      cases t with
      | nil => simp at hb1; omega
      | cons x t =>
       have : (first ++ x :: t).getD first.length 0 = x := by
        simp only [Qa]; rw [Zu (Zv _), Xn]; rfl
       rw [this] at hlt e
       have : x = n := by omega
       subst this
       exact ⟨t, by simp⟩
    have hpre : ∀ l, first ++ [(n : Int)] <+: l → first <+: l ∧ l.getD first.length 0 < ((n + 1 : Nat) : Int) := by
     rintro l ⟨t, rfl⟩
     refine ⟨⟨(n : Int) :: t, by simp⟩, ?_⟩
     have : (first ++ [(n : Int)] ++ t).getD first.length 0 = n := by
      simp only [Qa, Xl]; rw [Zu (Zv _), Xn]; rfl
     rw [this]; omega
    unfold Qc7
    by_cases hj : first ≠ [] ∧ Qit f ((Qaq f)[first.length - 1]?.getD []) (first[first.length - 1]?.getD 0) n = false
    ·rw [if_pos hj]
     have hnone : ∀ l, IsB f l → ¬ first ++ [(n : Int)] <+: l := by
      rintro l hb ⟨t, rfl⟩
      have hlen : 0 < first.length := Xw.2 hj.1
      have hb1 := hb.1
      have h1 := (Qi5 h hb1).1 hb.2.2 (first.length - 1) (by simp at hb1; omega)
      rw [← Qjl h hb1 (by simp at hb1; omega)] at h1
      have hnot := hj.2
      rw [X2] at hnot
      apply hnot
      rw [Qrl]
      unfold Qdm at h1
      rw [← h1]
      congr 1
      refine X0 fun s _ => ?_
      unfold Qg4
      have e1 : (((first.length - 1 : Nat) : Int) + 1).tmod (first ++ [(n : Int)] ++ t).length = (first.length : Nat) := by
       rw [Zm (by omega), show ((first.length - 1 : Nat) : Int) + 1 = first.length by omega, Z9 (by omega) (by simp; omega)]
      rw [e1, Qkl, Qkl]
      have e2 : (first ++ [(n : Int)] ++ t).getD first.length 0 = n := by
       simp only [Qa, Xl]; rw [Zu (Zv _), Xn]; rfl
      have e3 : (first ++ [(n : Int)] ++ t).getD (first.length - 1) 0 = first[first.length - 1]?.getD 0 := by
       simp only [Qa, Xl]; rw [Z4 (by omega)]
      rw [e2, e3]
     rcases ihn with ⟨e, hno⟩ | ⟨l, ⟨hT, hlt⟩, hb, e, hmin⟩
     ·exact .inl ⟨e, fun l ⟨hT, hb⟩ => by
       rcases hsplit l hb hT with h' | h'
       ·exact hno l ⟨h', hb⟩
       ·exact hnone l hb h'⟩
     ·refine .inr ⟨l, ⟨hT, by omega⟩, hb, e, fun l' hT' hb' => ?_⟩
      rcases hsplit l' hb' hT' with h' | h'
      ·exact hmin l' h' hb'
      ·exact absurd h' (hnone l' hb')
    ·rw [if_neg hj]
     rcases hrec with ⟨e2, hno2⟩ | ⟨l2, hT2, hb2, e2, hmin2⟩
     ·rw [if_neg (by rw [e2]; omega)]
      rcases ihn with ⟨e, hno⟩ | ⟨l, ⟨hT, hlt⟩, hb, e, hmin⟩
      ·exact .inl ⟨e, fun l ⟨hT, hb⟩ => by
        rcases hsplit l hb hT with h' | h'
        ·exact hno l ⟨h', hb⟩
        ·exact hno2 l ⟨h', hb⟩⟩
      ·refine .inr ⟨l, ⟨hT, by omega⟩, hb, e, fun l' hT' hb' => ?_⟩
       rcases hsplit l' hb' hT' with h' | h'
       ·exact hmin l' h' hb'
       ·exact absurd ⟨h', hb'⟩ (hno2 l')
     ·have h0 := Qrk hb2
      rcases ihn with ⟨e, hno⟩ | ⟨l, ⟨hT, hlt⟩, hb, e, hmin⟩
      ·rw [if_pos ⟨by omega, .inl (by omega)⟩]
       refine .inr ⟨l2, hpre l2 hT2, hb2, e2, fun l' hT' hb' => ?_⟩
       rcases hsplit l' hb' hT' with h' | h'
       ·exact absurd ⟨h', hb'⟩ (hno l')
       ·exact hmin2 l' h' hb'
      ·have h1 := Qrk hb
       by_cases hlt2 : l2.sum < l.sum
       ·rw [if_pos ⟨by omega, .inr (by omega)⟩]
        refine .inr ⟨l2, hpre l2 hT2, hb2, e2, fun l' hT' hb' => ?_⟩
        rcases hsplit l' hb' hT' with h' | h'
        ·have := hmin l' h' hb'; omega
        ·exact hmin2 l' h' hb'
       ·rw [if_neg (by omega)]
        refine .inr ⟨l, ⟨hT, by omega⟩, hb, e, fun l' hT' hb' => ?_⟩
        rcases hsplit l' hb' hT' with h' | h'
        ·exact hmin l' h' hb'
        ·have := hmin2 l' h' hb'; omega
  have hk := key f.period.toNat (by omega)
  have hall : ∀ l, IsB f l → first <+: l → (first <+: l ∧ l.getD first.length 0 < (f.period.toNat : Int)) := fun l hb hp => by
   refine ⟨hp, ?_⟩
   have := Ql8 (P := fun x => 0 ≤ x ∧ x < f.period) (show first.length < l.length by have := hb.1; omega) hb.2.1
   omega
  rcases hk with ⟨e, hno⟩ | ⟨l, ⟨hT, hlt⟩, hb, e, hmin⟩
  ·exact .inl ⟨e, fun l ⟨hp, hb⟩ => hno l ⟨hall l hb hp, hb⟩⟩
  ·exact .inr ⟨l, hT, hb, e, fun l' hp hb' => hmin l' (hall l' hb' hp) hb'⟩
theorem Qll {f : Fig} (h : Qao f = 0) : (Qbw f [] = -1 ∧ ∀ l, ¬ NB (Qb0 f) f.near l) ∨ (∃ l, NB (Qb0 f) f.near l ∧ Qbw f [] = l.sum ∧ 0 ≤ l.sum ∧ ∀ l', NB (Qb0 f) f.near l' → l.sum ≤ l'.sum) := by
 have := Qrm h f.starts.length [] (by simp) (by simp)
 unfold Qbw
 rw [Qf, Nat.sub_zero]
 rcases this with ⟨e, hno⟩ | ⟨l, _, hb, e, hmin⟩
 ·exact .inl ⟨e, fun l hl => hno l ⟨X8, (Qrj h l).2 hl⟩⟩
 ·exact .inr ⟨l, (Qrj h l).1 hb, e, Qrk hb, fun l' hl => hmin l' X8 ((Qrj h l').2 hl)⟩
theorem Qlk {f : Fig} (h : Qao f = 0) : Qbw f [] = (Qlh (Begs (Qb0 f) f.near)).getD (-1) ∧ (Qbw f [] < 0 ↔ Qlh (Begs (Qb0 f) f.near) = none) := by
 have hb := fun l => Qno (Qiz h) f.near l
 rcases Qll h with ⟨e, hno⟩ | ⟨l, hl, e, h0, hmin⟩
 ·have : Qcu (Begs (Qb0 f) f.near) none := fun l hl => hno l ((hb l).1 hl)
  rw [Qli this, e]; simp
 ·have : Qcu (Begs (Qb0 f) f.near) (some l) := ⟨(hb l).2 hl, fun l' hl' => hmin l' ((hb l').1 hl')⟩
  rw [Qli this, e]; simp; omega
end Go.C02
set_option linter.unusedSimpArgs false
set_option linter.unusedVariables false
namespace Go.C02
open Go.Fam Go.Proofs
theorem Qon {f : Fig} (h : Qao f = 0) : Ok62 100 f [] := ⟨h, by simp, by simp, by have hv := Qbs h; have := hv.ns; have := hv.dome.ng; simp; omega⟩
theorem q61w (f : Fig) (n : Int) : H22 61 [.ag (eFig f), .i n] = (f.starts.length < 10000000 ∧ f.times.length < 10000000, .i (Qc2 f (Qak n 0 (f.dome.gores.length - 1)))) := q61 f n
theorem q54w (f : Fig) : H22 54 [.ag (eFig f)] = (Qao f = 0 ∧ Qbc f.dome true = 0, .sl 1 ((Qaq f).map eCan)) := q54 f
theorem W30 (f : Fig) (hs : f.starts.length < 10000000) (ht : f.times.length < 10000000) : Qab Try.prog 30 [.ag (eFig f)] (.tp [.i (Qe9 f).1, .i (Qe9 f).2]) := by
 refine Qac Zaw hmix Try.func30 cb30 cc30 cs30 cn30 ?_
 have g1 := q61w f 0
 rw [Qta] at g1
 have g2 := q54w f
 have g3 := q62 f []
 unfold eFig at g1 g2 g3
 simp only [rc30, rs30, g1, Qag, Qa7, Qbf, Qa8, Qad, Qbe, Qai, Qa4, Qba, Qae, Qa5, Qa2, Fam.step, Qaf, runX, eff, Qb9, fpR, fpQ, fpV, Qbp, hits, evO, opv, qv, binV, ldV, Qaw, V.cells, Qas, Qaa, Qa6, flat, Qa3, Qa0, Qa1, ↓reduceIte, Nat.reduceEqDiff, Nat.reduceAdd, Nat.reduceLT, Nat.reduceLeDiff, Qb, Qc, Q5, Qh, Qf, Qk, Q0, Qx, Qu, Qn, Qs, Q7, Qr, Q8, endQ, rvs, rv1, resV, vw_i, vw_z, Qay, Qaz, Qcg, zipA, Qi, Q1, Q4, Zb, Ql, Zy, Zf, Zc, Qd, decide_eq_false_iff_not, true_and, and_true, and_self, false_implies, implies_true, Zj, Q2, Q3, Qa, Zn, Classical.not_not, eFig]
 refine ⟨⟨hs, ht⟩, fun h => by simp [Qe9, h], fun h => ?_⟩
 obtain ⟨h1, h2, h3⟩ := Qek h
 simp only [Qc] at g3
 simp only [g2, g3, Qaa, flat, vw_i, Qay, Qd, decide_eq_true_eq, decide_eq_false_iff_not, true_and, and_true, implies_true]
 obtain ⟨b1, b2⟩ := Qlk h1
 refine ⟨⟨h1, h3⟩, Qon h1, fun e => ?_, fun e => ?_⟩
 ·simp only [Qe9, h, if_pos, b2.1 e]
 ·cases hb : Qlh (Begs (Qb0 f) f.near) with
  | none => exact absurd (b2.2 hb) e
  | some n => rw [hb] at b1; simp only [Qe9, h, if_pos, hb, b1, Qo]
def Qbo (f : Fig) (n : Int) : Fig := { f with near := n }
theorem Qia {f : Fig} (h : Qao f = 0) {n : Int} (hn : 0 ≤ n ∧ n ≤ f.period / 2) : Qao (Qbo f n) = 0 := by
 have hv := Qbs h
 have hp := hv.period
 unfold Qao at h ⊢
 show (if Qcl f.dome ≠ 0 then Qcl f.dome else if Qdz (Qbo f n) then 0 else 40) = 0
 split at h
 ·rename_i h1; exact absurd h h1
 ·rename_i h1
  rw [if_neg h1, if_pos]
  have hg : Qdz f = true := by
   split at h
   ·assumption
   ·cases h
  unfold Qdz at hg ⊢
  simp only [Ze] at hg ⊢
  obtain ⟨⟨⟨⟨⟨⟨a1, a2⟩, a3⟩, a4⟩, a5⟩, a6⟩, a7⟩ := hg
  refine ⟨⟨⟨⟨⟨⟨a1, a2⟩, ?_⟩, a4⟩, a5⟩, a6⟩, a7⟩
  show Qak n 0 (f.period.tdiv 2) = true
  rw [Int.tdiv_eq_ediv_of_nonneg (by omega)]
  simp only [Qak, Ze, decide_eq_true_eq]
  exact hn
theorem Qwp (f : Fig) (n m : Int) (l : List Int) : NB (Qb0 (Qbo f n)) m l ↔ NB (Qb0 f) m l :=
 ⟨fun h => ⟨h.len, h.in_, h.meet⟩, fun h => ⟨h.len, h.in_, h.meet⟩⟩
theorem Qea {f : Fig} (h : Qao f = 0) {n : Int} (hn : 0 ≤ n ∧ n ≤ f.period / 2) : Qbw (Qbo f n) [] < 0 ↔ Qdg (Qb0 f) n = false := by
 have hc : Qdg (Qb0 f) n = false ↔ ¬ Qjz (Qb0 f) n := by
  rw [← Qkz]; simp
 rw [hc, Qty (Qiz h) n]
 have hw := Qia h hn
 rcases Qll hw with ⟨e, hno⟩ | ⟨l, hl, e, h0, hmin⟩
 ·rw [e]
  constructor
  ·rintro _ ⟨l, hl⟩
   exact hno l ((Qwp f n n l).2 hl)
  ·intro _; omega
 ·rw [e]
  constructor
  ·intro h1; omega
  ·intro h1
   exact absurd ⟨l, (Qwp f n n l).1 hl⟩ h1
theorem W31 (f : Fig) (hs : f.starts.length < 10000000) (ht : f.times.length < 10000000) : Qab Try.prog 31 [.ag (eFig f)] (.tp [.i (Qco f).1, .i (Qco f).2]) := by
 refine Qac Zaw hmix Try.func31 cb31 cc31 cs31 cn31 ?_
 have g1 := q61w f 0
 rw [Qta] at g1
 unfold eFig at g1
 simp only [rc31, rs31, g1, Qag, Qa7, Qa8, Qad, Qbe, Qa9, Qai, Qa4, putB, Qae, Qa5, Qa2, Fam.step, Qaf, Qbi, Qb4, putB, nv, sv, evO, opv, qv, binV, ldV, curG, Qaw, putAt, V.cells, Qas, Qb3, Qaa, Qa6, flat, Qa3, Qat, Qa0, Qa1, ↓reduceIte, Nat.reduceEqDiff, Nat.reduceAdd, Nat.reduceLT, Nat.reduceLeDiff, Qb, Qc, Zg, Q5, Qh, Qf, Qj, Qv, Qk, Za, Q0, Qx, Qu, Qn, Qw, Zi, endQ, rvs, rv1, resV, vw_i, Qay, Qaz, Qcg, zipA, beq_self_eq_true, Qi, Q1, Ql, Qd, decide_eq_false_iff_not, true_and, and_true, and_self, implies_true, Q3, Classical.not_not, eFig]
 refine ⟨⟨hs, ht⟩, fun h => by simp [Qco, h], fun h => ?_⟩
 obtain ⟨h1, h2, h3⟩ := Qek h
 have hR := Qiz h1
 have hp := hR.period
 obtain ⟨c1, c2, c3⟩ := Qg0 hR
 have hpe : (Qb0 f).fig.period = f.period := rfl
 rw [hpe] at c1 hp
 refine Qbg (Qc1 (Qb0 f)) (fun i => ⟨lkp [(1, .ad 0 0 0)], [.cells 0 (eFig (Qbo f (i : Nat)))]⟩) ?_ ?_ ?_
 ·simp only [Q6, Qbo, kp, Qa0, Qa1, ↓reduceIte, Qb, Qc, eFig]
 ·intro i hi
  have hin : 0 ≤ (i : Int) ∧ (i : Int) ≤ f.period / 2 := by omega
  have g2 := q54w (Qbo f i)
  have g3 := q62 (Qbo f i) []
  simp only [Qc] at g3
  have hlt := (Qea h1 hin).2 (c3 i hi)
  have hw := Qia h1 hin
  have h4 : inI ((i : Int) + 1) := by unfold inI; omega
  simp only [eFig, Qbo] at g2 g3 hlt hw
  simp only [Qbo, g2, g3, hlt, h4, Qp, Qq, Qag, Qa7, Qbf, Qa8, Qad, Qa9, Qa4, Qba, putB, Qae, Qaj, Qa5, Qa2, Fam.step, Qaf, Qbi, Qb4, runX, eff, Qb9, fpR, fpQ, fpV, Qbp, hits, putB, nv, sv, evO, opv, qv, binV, ldV, curG, Qaw, putAt, V.cells, Qas, Qb3, Qaa, Qa6, flat, kp, Qa3, Qat, Qa0, Qa1, ↓reduceIte, Nat.reduceEqDiff, Nat.reduceAdd, Nat.reduceLT, Nat.reduceLeDiff, Qb, Qc, Zg, Q5, Qh, Qf, Qj, Qv, Qk, Za, Q0, Qm, Qx, Qu, Qn, Qw, Qs, Q7, Zi, Qr, Q8, vw_i, vw_z, Qay, Qaz, beq_self_eq_true, Qi, Q1, Q4, Zb, Ql, Zf, Zc, Qd, decide_true, true_and, and_true, and_self, implies_true, Zj, Zp, Q2, imp_self, Qa, eFig]
  exact ⟨⟨hw, h3⟩, Qon hw⟩
 ·have hin : 0 ≤ (Qc1 (Qb0 f) : Int) ∧ (Qc1 (Qb0 f) : Int) ≤ f.period / 2 := by omega
  have g2 := q54w (Qbo f (Qc1 (Qb0 f)))
  have g3 := q62 (Qbo f (Qc1 (Qb0 f))) []
  simp only [Qc] at g3
  have hlt : ¬ Qbw (Qbo f (Qc1 (Qb0 f))) [] < 0 := fun h => by
   have := (Qea h1 hin).1 h
   rw [c2] at this; cases this
  have hw := Qia h1 hin
  simp only [eFig, Qbo] at g2 g3 hlt hw
  simp only [Qbo, g2, g3, hlt, Qco, h, Qa7, Qbf, Qa8, Qad, Qam, Qai, Qa4, Qba, Qae, Qaj, Qa5, Qa2, Fam.step, Qaf, runX, eff, Qb9, fpR, fpQ, fpV, Qbp, hits, evO, opv, qv, binV, ldV, curG, Qaw, Qaa, Qa6, flat, Qa3, Qa0, Qa1, ↓reduceIte, Nat.reduceEqDiff, Nat.reduceAdd, Nat.reduceLT, Nat.reduceLeDiff, Qb, Qc, Q5, Qh, Qf, Qj, Qv, Qk, Q0, Qm, Qx, Qu, Qn, Qw, Qs, Q7, Qr, Q8, endQ, rvs, rv1, resV, vw_i, vw_z, Qay, Qaz, Qcg, beq_self_eq_true, Qi, Q1, Q4, Zb, Ql, Zf, Zc, Qd, decide_false, true_and, and_true, and_self, implies_true, Zj, Zp, Q2, imp_self, Qa, eFig]
  exact ⟨⟨hw, h3⟩, Qon hw⟩
end Go.C02
set_option linter.unusedSimpArgs false
set_option linter.unusedVariables false
namespace Go.C02
open Go.Fam Go.Proofs
noncomputable def H23 : Gam := (H22.ext 30 (fnG (fun f => [.ag (eFig f)]) decF (fun f => f.starts.length < 10000000 ∧ f.times.length < 10000000) Qe9 (fun r => .tp [.i r.1, .i r.2]))).ext 31 (fnG (fun f => [.ag (eFig f)]) decF (fun f => f.starts.length < 10000000 ∧ f.times.length < 10000000) Qco (fun r => .tp [.i r.1, .i r.2]))
theorem Zax : GOk Try.prog H23 := by
 have k1 := Zaw.ext (f := 30) (fun a w => Try.call30 a w) (Qau (e := fun f => [.ag (eFig f)]) (d := decF) (ok := fun f => f.starts.length < 10000000 ∧ f.times.length < 10000000) (g := Qe9) (eb := fun r => .tp [.i r.1, .i r.2]) fun f h => W30 f h.1 h.2)
 exact k1.ext (f := 31) (fun a w => Try.call31 a w) (Qau fun f h => W31 f h.1 h.2)
theorem Qxg (t : List Int) (f m : Nat) : seg t (f % t.length) m = seg t f m := by
 unfold seg
 refine List.map_congr_left fun q _ => ?_
 rw [Nat.mod_add_mod]
def Qu1 (a : Fig × Nat × Nat) : List V := [.ag (eFig a.1), .i a.2.1, .i a.2.2]
def Za4 : List V → Fig × Nat × Nat | [.ag r, .i n, .i m] => (dFig r, n.toNat, m.toNat) | _ => (dFig [], 0, 0)
theorem Za5 (a : Fig × Nat × Nat) : Za4 (Qu1 a) = a := by obtain ⟨r, n, m⟩ := a; simp [Za4, Qu1, Qcw]
structure Ok64 (k : Nat) (f : Fig) (fr m : Nat) : Prop where
 t : OkT f.times
 hfr : fr + 20 * m ≤ 1000
 hm : m ≤ 16
 hk : m ≤ k
def s64 (k : Nat) : List V → Prop × V := fnG Qu1 Za4 (fun a => Ok64 k a.1 a.2.1 a.2.2) (fun a => Dn (seg a.1.times (a.2.1 + 1) a.2.2)) .i
noncomputable def HS (k : Nat) : Gam := H23.ext 64 (s64 k)
theorem q64 (k : Nat) (f : Fig) (fr m : Nat) : HS k 64 [.ag (eFig f), .i fr, .i m] = (Ok64 k f fr m, .i (Dn (seg f.times (fr + 1) m))) :=
 (show HS k 64 _ = s64 k (Qu1 (f, fr, m)) from rfl).trans (Qb1 _ (Za5 _))
def Qfn (l : List Int) (i : Nat) : Int := if i = 0 then -1 else minL (l.take i)
theorem Qku {l : List Int} {i : Nat} {x : Int} (hx : l[i]? = some x) (h0 : ∀ y ∈ l, 0 ≤ y) : Qfn l (i + 1) = if Qfn l i < 0 ∨ x < Qfn l i then x else Qfn l i := by
 unfold Qfn
 rw [if_neg (by omega), Qar hx, Qgu]
 have hl := Qav hx
 by_cases hi : i = 0
 ·subst hi; simp
 ·rw [if_neg hi]
  have hne : l.take i ≠ [] := by intro e; have := congrArg List.length e; rw [Xc, Qf] at this; omega
  have := h0 _ (List.mem_of_mem_take (Qoj hne))
  have h2 : ¬ minL (l.take i) < 0 := by omega
  simp only [hne, false_or, h2]
theorem W64z (f : Fig) (fr : Nat) : Qab Try.prog 64 [.ag (eFig f), .i fr, .i ((0 : Nat) : Int)] (.i (Dn (seg f.times (fr + 1) 0))) := by
 refine Qac Zax hmix Try.func64 cb64 cc64 cs64 cn64 ?_
 simp only [rc64, rs64, Q6, Qa7, Qa8, Qad, Qai, Qa4, Qae, Qa5, Qa2, Fam.step, Qaf, evO, opv, qv, binV, V.cells, Qas, Qaa, Qa6, Qa3, Qa0, Qa1, ↓reduceIte, Nat.reduceEqDiff, Nat.reduceAdd, Int.reduceNeg, Qb, Qc, endQ, rvs, rv1, resV, vw_i, Qay, Qaz, zipA, Qi, V.i.injEq, Ql, decide_true, true_and, and_self, reduceCtorEq, eFig]
 rfl
theorem W64 (k : Nat) (hG : GOk Try.prog (HS k)) (f : Fig) (fr m : Nat) (h : Ok64 (k + 1) f fr m) (hm : m ≠ 0) : Qab Try.prog 64 [.ag (eFig f), .i fr, .i m] (.i (Dn (seg f.times (fr + 1) m))) := by
 refine Qac hG hmix Try.func64 cb64 cc64 cs64 cn64 ?_
 have hT := h.t
 have hl1 := hT.1
 have hl2 := hT.2.1
 have hm16 := h.hm
 have hfr := h.hfr
 have hk := h.hk
 have hm0 : ¬ (m : Int) = 0 := by omega
 obtain ⟨C, hC⟩ : ∃ C, C = Qgm (seg f.times (fr + 1) m) := ⟨_, rfl⟩
 have hCl : C.length = m := by rw [hC, Qgo, Qg7]
 have hCp : ∀ y ∈ C, 0 ≤ y := by
  intro y hy
  obtain ⟨i, hi⟩ := Xu hy
  have hil := Qav hi
  rw [hCl] at hil
  rw [hC, Qgn (by rw [Qg7]; exact hil)] at hi
  rw [← Xt.inj hi, Qow (Nat.le_of_lt hil), Qrz hil]
  have d1 := Qgc hT (f := fr + 1) (m := i) (by omega)
  have := Ql8 (P := fun x => 1 ≤ x ∧ x ≤ 99) (Xo (fr + 1 + i) (show 0 < f.times.length by omega)) hT.2.2
  omega
 simp only [rc64, rs64, hm0, Qag, Qa7, Qa8, Qad, Qa9, Qa4, Qae, Qa5, Qa2, Fam.step, Qaf, evO, opv, qv, binV, ldV, lenV, V.cells, Qas, Qaa, Qa6, Qa3, Qa0, Qa1, ↓reduceIte, Nat.reduceEqDiff, Nat.reduceAdd, Nat.reduceLeDiff, Int.reduceNeg, Qb, Qc, Qh, Qf, Qj, Qv, Qm, vw_i, Qay, Qaz, zipA, Qi, Ql, Qd, decide_false, true_and, and_self, reduceCtorEq, Qg, eFig]
 refine Qbg m (fun i => ⟨lkp [(1, .i fr), (2, .i m), (3, .pa (eFig f)), (7, .i f.times.length), (8, .i (Qfn C i)), (9, .i ((i : Int) + 1))], []⟩) ?_ ?_ ?_
 ·simp only [Q6, Qfn, kp, Qa0, Qa1, ↓reduceIte, Nat.reduceEqDiff, Int.reduceNeg, Int.reduceAdd, Qb, Qc, eFig]
 ·intro i hi
  have hlt : (i : Int) + 1 ≤ m := by omega
  have i1 : inI ((i : Int) + 1 + 1) := by unfold inI; omega
  have i2 : inI ((i : Int) + 1 - 1) := by unfold inI; omega
  have i3 : inI ((fr : Int) + ((i : Int) + 1)) := by unfold inI; omega
  have i4 : inI ((m : Int) - ((i : Int) + 1)) := by unfold inI; omega
  have e1 : (i : Int) + 1 - 1 = (i : Nat) := by omega
  have e2 : (fr : Int) + ((i : Int) + 1) = ((fr + i + 1 : Nat) : Int) := by omega
  have e3 : (m : Int) - ((i : Int) + 1) = ((m - i - 1 : Nat) : Int) := by omega
  have g1 := q64 k f fr i
  have g2 := q64 k f (fr + i + 1) (m - i - 1)
  unfold eFig at g1 g2
  have hcg := Qgn (l := seg f.times (fr + 1) m) (i := i) (by rw [Qg7]; exact hi)
  rw [Qow (Nat.le_of_lt hi), Qrz hi, Qtn, Qxg, ← hC] at hcg
  have hmod : (fr + 1 + i) % f.times.length < f.times.length := Xo _ (by omega)
  obtain ⟨x, hx⟩ : ∃ x, f.times[(fr + 1 + i) % f.times.length]? = some x := ⟨_, Qe hmod⟩
  have hx1 := hT.2.2 x (Qt hx)
  have hx2 : f.times.getD ((fr + 1 + i) % f.times.length) 0 = x := by rw [Qa, hx]; rfl
  rw [hx2] at hcg
  have d1 := Qgc hT (f := fr + 1) (m := i) (by omega)
  have d2 := Qgc hT (f := fr + i + 1 + 1) (m := m - i - 1) (by omega)
  have e4 : ((fr + i + 1 : Nat) : Int).tmod f.times.length = (((fr + 1 + i) % f.times.length : Nat) : Int) := by
   rw [Zm (by omega), Xd, show fr + i + 1 = fr + 1 + i by omega]
  have i5 : (((fr + 1 + i) % f.times.length : Nat) : Int) < f.times.length := by omega
  rw [show fr + 1 + i + 1 = fr + i + 1 + 1 by omega] at hcg
  obtain ⟨y, hy⟩ : ∃ y, y = max (Dn (seg f.times (fr + 1) i)) (Dn (seg f.times (fr + i + 1 + 1) (m - i - 1))) + x := ⟨_, rfl⟩
  rw [← hy] at hcg
  have i6 : inI y := by unfold inI; omega
  have i7 : ¬ (f.times.length : Int) = 0 := by omega
  rw [Qku hcg hCp]
  have i9 : (0 : Int) ≤ ((fr + i + 1 : Nat) : Int) := by omega
  simp only [hlt, i1, e1, e2, e3, g1, g2, e4, i5, hx, ← hy, i6, i7, Qag, Qa7, Qbf, Qa8, Qad, Qbe, Qa9, Qa4, Qba, Qae, Qaj, Qa5, Qa2, Fam.step, Qaf, Qbz, Qbq, ug, runX, eff, Qb9, fpR, fpQ, fpV, Qbp, hits, evO, opv, qv, Qb2, binV, ldV, iadV, Qaw, Qaa, Qa6, flat, kp, Qa3, Qa0, Qa1, ↓reduceIte, Nat.reduceEqDiff, Nat.reduceAdd, Nat.reduceLT, Nat.reduceLeDiff, Qb, Qc, Zg, Q5, Qh, Qf, Qj, Qv, Qk, Q0, Qm, Qx, Qu, Qn, Qs, Qo, Q7, Qr, Q8, vw_i, Qay, Qaz, Zd, Qi, Q1, Q4, Zb, Ql, Zf, Zc, Qd, decide_true, decide_eq_true_eq, decide_eq_false_iff_not, true_and, and_true, and_self, implies_true, not_false_eq_true, ne_eq, Zh, Zj, Q2, beq_false, Q3, Qf1, imp_self, Qg, Q9, Qa, Qz, Zn, eI, eFig]
  refine ⟨by unfold inI; omega, ⟨hT, by omega, by omega, by omega⟩, by unfold inI; omega, by unfold inI; omega, ⟨hT, by omega, by omega, by omega⟩, by unfold inI; omega, fun e => ?_, fun e => ?_⟩
  ·rw [Zr, decide_eq_true_eq, decide_eq_true_eq] at e
   simp only [if_pos e, Qp, Qq]
  ·rw [Zx, decide_eq_false_iff_not, decide_eq_false_iff_not] at e
   simp only [if_neg (not_or.2 e), Qp, Qq]
 ·have hne : ¬ (m : Int) + 1 ≤ m := by omega
  have hfull : Qfn C m = Dn (seg f.times (fr + 1) m) := by
   unfold Qfn
   rw [if_neg hm, Qxt, ← hC, Z0 (by omega)]
  simp only [hne, hfull, Qa7, Qa8, Qad, Qam, Qai, Qa4, Qae, Qaj, Qa5, Qa2, Fam.step, Qaf, evO, opv, qv, binV, Qa3, Qa0, Qa1, ↓reduceIte, Nat.reduceEqDiff, Qb, Qc, endQ, rvs, rv1, resV, vw_i, Qd, decide_false, and_self, eFig]
theorem okHS : ∀ k, GOk Try.prog (HS k) := by
 intro k
 induction k with
 | zero =>
  refine Zax.ext (f := 64) (r := s64 0) (fun a w => Try.call64 a w) (Qau fun a h => ?_)
  have := h.hk
  have e : a.2.2 = 0 := by omega
  unfold Qu1
  rw [e]
  exact W64z a.1 a.2.1
 | succ k ih =>
  refine Zax.ext (f := 64) (r := s64 (k + 1)) (fun a w => Try.call64 a w) (Qau fun a h => ?_)
  by_cases hm : a.2.2 = 0
  ·unfold Qu1
   rw [hm]
   exact W64z a.1 a.2.1
  ·exact W64 k ih a.1 a.2.1 a.2.2 h hm
noncomputable def H24 : Gam := HS 100
theorem Qyv : GOk Try.prog H24 := okHS 100
theorem q64' (f : Fig) (fr m : Nat) : H24 64 [.ag (eFig f), .i fr, .i m] = (Ok64 100 f fr m, .i (Dn (seg f.times (fr + 1) m))) := q64 100 f fr m
theorem q25x (f : Fig) : H24 25 [.ag (eFig f)] = (f.starts.length < 10000000 ∧ f.times.length < 10000000, .i (Qao f)) := q25 f
def Qhn (f : Fig) : Int × Int := if Qao f ≠ 0 then (0, Qao f) else (minL (Qh1 f.times), 0)
theorem Qx9 {t : List Int} (h : OkT t) : ∀ y ∈ Qh1 t, 0 ≤ y ∧ y ≤ 2000 := by
 intro y hy
 obtain ⟨i, hi⟩ := Xu hy
 have hil := Qav hi
 rw [Qey] at hil
 rw [Qj3 hil] at hi
 rw [← Xt.inj hi]
 have := h.2.1
 have d1 := Qgc h (f := (i + 1) % t.length) (m := t.length - 1) (by omega)
 have := Ql8 (P := fun x => 1 ≤ x ∧ x ≤ 99) hil h.2.2
 omega
theorem W34 (f : Fig) (hs : f.starts.length < 10000000) (ht : f.times.length < 10000000) : Qab Try.prog 34 [.ag (eFig f)] (.tp [.i (Qhn f).1, .i (Qhn f).2]) := by
 refine Qac Qyv hmix Try.func34 cb34 cc34 cs34 cn34 ?_
 have g1 := q25x f
 unfold eFig at g1
 simp only [rc34, rs34, g1, Qag, Qa7, Qa8, Qad, Qbe, Qa9, Qai, Qa4, Qae, Qa5, Qa2, Fam.step, Qaf, evO, opv, qv, binV, ldV, Qaw, V.cells, Qas, Qaa, Qa6, flat, Qa3, Qa0, Qa1, ↓reduceIte, Nat.reduceEqDiff, Nat.reduceAdd, Nat.reduceLT, Nat.reduceLeDiff, Int.reduceNeg, Qb, Qc, Qh, Qf, Qk, Q0, Qn, Qs, endQ, rvs, rv1, resV, vw_i, Qay, Qaz, Qcg, zipA, Qi, Ql, Qd, decide_eq_false_iff_not, true_and, and_true, and_self, implies_true, Q3, Classical.not_not, eFig]
 refine ⟨⟨hs, ht⟩, fun h => by simp [Qhn, h], fun h => ?_⟩
 have hT := Qwv h
 have hl1 := hT.1
 have hl2 := hT.2.1
 have hCl := Qey f.times
 refine Qbg f.times.length (fun i => ⟨lkp [(1, .pa (eFig f)), (5, .i (Qfn (Qh1 f.times) i)), (6, .i i)], []⟩) ?_ ?_ ?_
 ·simp only [Q6, Qfn, kp, Qa0, Qa1, ↓reduceIte, Nat.reduceEqDiff, Int.reduceNeg, Qb, Qc, eFig]
 ·intro i hi
  have hlt : (i : Int) < f.times.length := by omega
  have i1 : inI ((i : Int) + 1) := by unfold inI; omega
  have e3 : (f.times.length : Int) - 1 = ((f.times.length - 1 : Nat) : Int) := by omega
  have g2 := q64' f i (f.times.length - 1)
  unfold eFig at g2
  have hcg := Qj3 hi
  rw [Qxg] at hcg
  obtain ⟨x, hx⟩ : ∃ x, f.times[i]? = some x := ⟨_, Qe hi⟩
  have hx1 := hT.2.2 x (Qt hx)
  have hx2 : f.times.getD i 0 = x := by rw [Qa, hx]; rfl
  rw [hx2] at hcg
  have d1 := Qgc hT (f := i + 1) (m := f.times.length - 1) (by omega)
  obtain ⟨y, hy⟩ : ∃ y, y = Dn (seg f.times (i + 1) (f.times.length - 1)) + x := ⟨_, rfl⟩
  rw [← hy] at hcg
  have i6 : inI y := by unfold inI; omega
  rw [Qku hcg fun y hy => (Qx9 hT y hy).1]
  simp only [hlt, i1, e3, g2, hx, ← hy, i6, Qag, Qa7, Qbf, Qa8, Qad, Qbe, Qa9, Qa4, Qba, Qae, Qaj, Qa5, Qa2, Fam.step, Qaf, Qbz, Qbq, ug, runX, eff, Qb9, fpR, fpQ, fpV, Qbp, hits, evO, opv, qv, Qb2, binV, ldV, iadV, lenV, Qaw, Qaa, Qa6, flat, kp, Qa3, Qa0, Qa1, ↓reduceIte, Nat.reduceEqDiff, Nat.reduceAdd, Nat.reduceLT, Nat.reduceLeDiff, Qb, Qc, Zg, Q5, Qh, Qf, Qj, Qv, Qk, Q0, Qm, Qx, Qu, Qn, Qs, Qo, Q7, Qr, Q8, vw_i, Qay, Qaz, Zd, Qi, Q1, Q4, Zb, Ql, Zf, Zc, Qd, decide_true, decide_eq_true_eq, decide_eq_false_iff_not, true_and, and_true, and_self, implies_true, Zh, Zj, Q2, beq_false, Q3, Qf1, imp_self, Qg, Q9, Qa, Qz, Zn, eI, eFig]
  refine ⟨by unfold inI; omega, ⟨hT, by omega, by omega, by omega⟩, fun e => ?_, fun e => ?_⟩
  ·rw [Zr, decide_eq_true_eq, decide_eq_true_eq] at e
   simp only [if_pos e, Qp, Qq]
  ·rw [Zx, decide_eq_false_iff_not, decide_eq_false_iff_not] at e
   simp only [if_neg (not_or.2 e), Qp, Qq]
 ·have hfull : Qfn (Qh1 f.times) f.times.length = minL (Qh1 f.times) := by
   unfold Qfn
   rw [if_neg (by omega), Z0 (by omega)]
  simp only [Qy, hfull, Qhn, h, Qa7, Qa8, Qad, Qam, Qai, Qa4, Qae, Qaj, Qa5, Qa2, Fam.step, Qaf, evO, opv, qv, binV, ldV, lenV, Qa3, Qa0, Qa1, ↓reduceIte, Nat.reduceEqDiff, Nat.reduceLeDiff, Qb, Qc, Qh, Qf, Qj, Qv, Qm, Qs, endQ, rvs, rv1, resV, vw_i, Qcg, Qy, Qi, Qd, decide_false, and_self, not_true_eq_false, ne_eq, Qg, eFig]
def endF (t b : List Int) : Nat → Int
 | 0 => 0
 | i + 1 => max (endF t b i) (b.getD i 0 + t.getD i 0)
theorem W28 (f : Fig) (b : List Int) (hl : b.length ≤ f.times.length) (hn : f.times.length < 100000) (ht : ∀ x ∈ f.times, tame 1000000 x) (hb : ∀ x ∈ b, tame 10000000 x) : Qab Try.prog 28 [.ag (eFig f), .sl 1 (b.map eI)] (.i (endF f.times b b.length)) := by
 refine Qac Qyv hmix Try.func28 cb28 cc28 cs28 cn28 ?_
 simp only [rc28, rs28, Qa7, Qa8, Qa9, Qa4, Qae, Qa5, Qa2, Fam.step, Qaf, evO, opv, qv, V.cells, Qas, Qaa, Qa6, Qa3, Qa0, Qa1, ↓reduceIte, Nat.reduceEqDiff, Qb, Qc, vw_i, Qay, Qaz, zipA, Qi, Ql, true_and, and_self, reduceCtorEq, eFig]
 refine Qbg b.length (fun i => ⟨lkp [(1, .sl 1 (b.map eI)), (2, .pa (eFig f)), (5, .i (endF f.times b i)), (6, .i i)], []⟩) ?_ ?_ ?_
 ·simp only [Q6, endF, kp, Qa0, Qa1, ↓reduceIte, Nat.reduceEqDiff, Qb, Qc, eFig]
 ·intro i hi
  obtain ⟨x, hx⟩ : ∃ x, f.times[i]? = some x := ⟨_, Qe (by omega)⟩
  obtain ⟨y, hy⟩ : ∃ y, b[i]? = some y := ⟨_, Qe hi⟩
  have hx1 := ht x (Qt hx)
  have hy1 := hb y (Qt hy)
  have hlt : (i : Int) < b.length := by omega
  have hlt2 : (i : Int) < f.times.length := by omega
  have i1 : inI ((i : Int) + 1) := by unfold inI; omega
  have i2 : inI (y + x) := by unfold tame at hx1 hy1; unfold inI; omega
  have e1 : b.getD i 0 = y := by rw [Qa, hy]; rfl
  have e2 : f.times.getD i 0 = x := by rw [Qa, hx]; rfl
  simp only [hlt, hlt2, i1, i2, hx, hy, endF, e1, e2, Qp, Qq, Qag, Qa7, Qbf, Qa8, Qad, Qa9, Qa4, Qba, Qae, Qaj, Qa5, Qa2, Fam.step, Qaf, runX, eff, Qb9, fpR, fpQ, fpV, Qbp, hits, evO, opv, qv, binV, ldV, iadV, lenV, kp, Qa3, Qa0, Qa1, ↓reduceIte, Nat.reduceEqDiff, Nat.reduceLeDiff, Qb, Qc, Q5, Qh, Qf, Qj, Qv, Qm, Qx, Qu, Qn, Qs, Qo, Q7, Qr, Q8, Zd, Qi, Q1, Q4, Zb, Ql, Zf, Zc, Qd, decide_true, and_self, Zh, Zj, Q2, Qg, Q9, Qa, Qz, eI, eFig]
 ·simp only [Qy, Qa7, Qa8, Qad, Qam, Qai, Qa4, Qae, Qaj, Qa5, Qa2, Fam.step, Qaf, evO, opv, qv, binV, lenV, Qa3, Qa0, Qa1, ↓reduceIte, Nat.reduceEqDiff, Qb, Qc, endQ, rvs, rv1, resV, vw_i, Qy, Qd, decide_false, and_self, Qg, eFig]
end Go.C02
set_option linter.unusedSimpArgs false
set_option linter.unusedVariables false
namespace Go.C02
open Go.Fam Go.Proofs
def occ1 (t b : List Int) (seam : Nat) (out : List Bool) (i : Nat) : List Bool :=
 if b.getD i 0 + t.getD i 0 ≤ b.getD seam 0 ∧ (out.getD i false = true ∨ out.getD ((i + 1) % b.length) false = true) then (out.set i true).set ((i + 1) % b.length) true else out
def occR (t b : List Int) (seam : Nat) (out : List Bool) (j : Nat) : List Bool := (Zk j).foldl (occ1 t b seam) out
def occ0 (b : List Int) (seam : Nat) : List Bool := ((Xa b.length false).set seam true).set ((seam + 1) % b.length) true
def occI (t b : List Int) (seam : Nat) : Nat → List Bool
 | 0 => occ0 b seam
 | k + 1 => occR t b seam (occI t b seam k) b.length
def occN (t b : List Int) (seam : Nat) : List Bool := occI t b seam b.length
theorem Qyu (t b : List Int) (seam : Nat) (out : List Bool) (i : Nat) : (occ1 t b seam out i).length = out.length := by
 unfold occ1; split <;> simp
theorem Qt8 (t b : List Int) (seam : Nat) (out : List Bool) (j : Nat) : (occR t b seam out j).length = out.length := by
 unfold occR
 induction j with
 | zero => rfl
 | succ j ih => rw [Z6, Zw, Xq, Zz, Qyu]; exact ih
theorem Qol (t b : List Int) (seam k : Nat) : (occI t b seam k).length = b.length := by
 induction k with
 | zero => simp [occI, occ0]
 | succ k ih => rw [occI, Qt8, ih]
theorem Qwt (t b : List Int) (seam : Nat) (out : List Bool) (j : Nat) : occR t b seam out (j + 1) = occ1 t b seam (occR t b seam out j) j := by
 unfold occR; rw [Z6, Zw]; rfl
def eB (x : Bool) : List V := [.b x]
theorem Qko {l : List Bool} {i : Nat} (h : i < l.length) (v : Bool) : (l.map V.b).take i ++ [V.b v] ++ (l.map V.b).drop (i + 1) = (l.set i v).map V.b := by
 have := Qlw i (.b v) (l.map V.b) (by simpa using h)
 rw [List.map_set, ← this]; rfl
theorem Qmz {l : List Bool} {k : Nat} (h : k < l.length) : (X3 k (l.map V.b)).headD .u = .b (l.getD k false) := by
 rw [← List.map_drop, Xj h, Qa, Qe h]; rfl
theorem Qzx (l : List Bool) : Qd8 1 (l.map V.b) 0 l.length = l.map eB := by
 have := Qd6 (e := eB) (k := 1) (fun _ => rfl) l
 have e : (l.map eB).flatten = l.map V.b := by
  clear this
  induction l with
  | nil => rfl
  | cons a l ih => rw [Qb, Xk, ih]; rfl
 rwa [e] at this
theorem vw_B (hp : List Blk) (n : Nat) (l : List Bool) : (l.map eB).map (fun r => r.map (vw hp (n + 1))) = l.map eB := Qcq (e := eB) hp (n + 1) (fun _ => rfl) l
structure Ok60 (t b : List Int) (seam : Nat) : Prop where
 hb : b.length = t.length ∧ t.length ≤ 1000
 hs : seam < b.length
 ht : ∀ x ∈ t, tame 1000000 x
 hv : ∀ x ∈ b, tame 1000000 x
set_option maxHeartbeats 1000000 in
theorem W60 (f : Fig) (b : List Int) (seam : Nat) (h : Ok60 f.times b seam) : Qab Try.prog 60 [.ag (eFig f), .sl 1 (b.map eI), .i seam] (.sl 1 ((occN f.times b seam).map eB)) := by
 refine Qac Qyv hmix Try.func60 cb60 cc60 cs60 cn60 ?_
 have hb1 := h.hb.1
 have hb2 := h.hb.2
 have hsm := h.hs
 have hn1 : (seam + 1) % b.length < b.length := Xo _ (by omega)
 have e1 : ((seam : Int) + 1).tmod b.length = (((seam + 1) % b.length : Nat) : Int) := by
  rw [Zm (by omega), Xd]; simp only [Qp, Qq]
 have i1 : inI ((seam : Int) + 1) := by unfold inI; omega
 have i2 : ¬ (b.length : Int) = 0 := by omega
 have i3 : (seam : Int) < b.length := by omega
 have i4 : (((seam + 1) % b.length : Nat) : Int) < b.length := by omega
 have hrep : (Xa b.length [V.b false]).flatten = (Xa b.length false).map V.b := by
  rw [List.flatten_replicate_singleton, List.map_replicate]
 have hp1 := Qko (l := Xa b.length false) (i := seam) (by simpa using hsm) true
 have hp2 := Qko (l := (Xa b.length false).set seam true) (i := (seam + 1) % b.length) (by simpa using hn1) true
 simp only [rc60, rs60, e1, i1, i2, i3, i4, hrep, Zq, hp1, hp2, Xs, Q9, Qa7, Qbf, Qa8, Qa9, Qa4, Qba, optL, Qae, Qa5, Qa2, Fam.step, Qaf, Qbi, Qb4, runX, eff, Qb9, fpR, fpQ, fpV, Qbp, hits, nv, sv, evO, opv, qv, binV, iadV, lenV, putAt, V.cells, Qas, Qb3, Qaa, Qa6, Qa3, Qat, Qa0, Qa1, ↓reduceIte, Nat.reduceEqDiff, Nat.reduceAdd, Qb, Qc, Zg, Q5, Qh, Qf, Qx, Qu, Qn, Qw, Zl, Qs, Qo, Q7, Zi, Qr, Q8, Xb, vw_i, Qay, Qaz, zipA, Zd, Qi, Q1, Q4, Xf, Zb, Ql, Zy, Zf, Zc, true_and, and_true, and_self, reduceCtorEq, not_false_eq_true, ne_eq, Xm, Zj, Zp, Q2, Qg, Q9, Qa, List.length_replicate, eFig]
 refine ⟨⟨Int.le_refl _, by omega⟩, by omega, by omega, ?_⟩
 refine Qbg b.length (fun j => ⟨lkp [(1, .sl 1 (b.map eI)), (2, .i seam), (3, .pa (eFig f)), (7, .i b.length), (8, .rf 0 0 0 b.length 1), (9, .i j)], [.cells 0 ((occI f.times b seam j).map V.b)]⟩) ?_ ?_ ?_
 ·simp only [Q6, occI, occ0, kp, Qa0, Qa1, ↓reduceIte, Nat.reduceEqDiff, Qb, Qc, eFig]
 ·intro j hj
  have hlt : (j : Int) < b.length := by omega
  have i5 : inI ((j : Int) + 1) := by unfold inI; omega
  obtain ⟨O, hO⟩ : ∃ O, O = occI f.times b seam j := ⟨_, rfl⟩
  have hOl : O.length = b.length := by rw [hO, Qol]
  rw [← hO]
  simp only [hlt, Qag, Qa7, Qa8, Qad, Qa9, Qa4, Qae, Qa5, Qa2, Fam.step, Qaf, evO, opv, qv, binV, kp, Qa3, Qa0, Qa1, ↓reduceIte, Nat.reduceEqDiff, Qb, Qc, decide_true, true_and, eFig]
  refine Qbg b.length (fun i => ⟨lkp [(1, .sl 1 (b.map eI)), (2, .i seam), (3, .pa (eFig f)), (7, .i b.length), (8, .rf 0 0 0 b.length 1), (9, .i j), (10, .i i)], [.cells 0 ((occR f.times b seam O i).map V.b)]⟩) ?_ ?_ ?_
  ·simp only [Q6, occR, Xp, Zz, Zz, kp, Qa0, Qa1, ↓reduceIte, Nat.reduceEqDiff, Qb, Qc, eFig]
  ·intro i hi
   obtain ⟨R, hR⟩ : ∃ R, R = occR f.times b seam O i := ⟨_, rfl⟩
   have hRl : R.length = b.length := by rw [hR, Qt8, hOl]
   rw [Qwt, ← hR]
   have hlti : (i : Int) < b.length := by omega
   have hlti2 : (i : Int) < f.times.length := by omega
   have i6 : inI ((i : Int) + 1) := by unfold inI; omega
   have hn2 : (i + 1) % b.length < b.length := Xo _ (by omega)
   have i7 : (((i + 1) % b.length : Nat) : Int) < b.length := by omega
   have e2 : ((i : Int) + 1).tmod b.length = (((i + 1) % b.length : Nat) : Int) := by
    rw [Zm (by omega), Xd]; simp only [Qp, Qq]
   obtain ⟨x, hx⟩ : ∃ x, f.times[i]? = some x := ⟨_, Qe (by omega)⟩
   obtain ⟨y, hy⟩ : ∃ y, b[i]? = some y := ⟨_, Qe hi⟩
   obtain ⟨z, hz⟩ : ∃ z, b[seam]? = some z := ⟨_, Qe hsm⟩
   have hx1 := h.ht x (Qt hx)
   have hy1 := h.hv y (Qt hy)
   have i8 : inI (y + x) := by unfold tame at hx1 hy1; unfold inI; omega
   have c1 : b.getD i 0 = y := by rw [Qa, hy]; rfl
   have c2 : f.times.getD i 0 = x := by rw [Qa, hx]; rfl
   have c3 : b.getD seam 0 = z := by rw [Qa, hz]; rfl
   have hd1 := Qmz (l := R) (k := i) (by omega)
   have hd2 := Qmz (l := R) (k := (i + 1) % b.length) (by omega)
   have hl1 : i + 1 ≤ b.length := by omega
   have hl2 : (i + 1) % b.length + 1 ≤ b.length := by omega
   have hq1 := Qko (l := R) (i := i) (by omega) true
   have hq2 := Qko (l := R.set i true) (i := (i + 1) % b.length) (by rw [Xs]; omega) true
   obtain ⟨o1, ho1⟩ : ∃ o1, o1 = R.getD i false := ⟨_, rfl⟩
   obtain ⟨o2, ho2⟩ : ∃ o2, o2 = R.getD ((i + 1) % b.length) false := ⟨_, rfl⟩
   rw [← ho1] at hd1
   rw [← ho2] at hd2
   unfold occ1
   rw [c1, c2, c3, ← ho1, ← ho2]
   simp only [hlti, hlti2, i6, i7, i2, i3, e2, hx, hy, hz, i8, Zq, hd1, hd2, hRl, hl1, hl2, hq1, hq2, Xs, Qag, Qa7, Qbf, Qa8, Qad, Qbe, Qa9, Qa4, Qba, optL, Qae, Qaj, Qa5, Qa2, Fam.step, Qaf, Qbz, Qb4, Qbq, ug, runX, eff, Qb9, fpR, fpQ, fpV, Qbp, hits, nv, sv, evO, opv, qv, Qb2, binV, ldV, iadV, putAt, V.cells, Qas, Qb3, kp, Qa3, Qat, Qa0, Qa1, ↓reduceIte, Nat.reduceEqDiff, Nat.reduceLeDiff, Qb, Qc, Zg, Q5, Qh, Qf, Qj, Qv, Qm, Qx, Qu, Qn, Qw, Zl, Qs, Qo, Q7, Zi, Qr, Q8, Xb, Zd, Qi, Q1, Q4, Xf, Zb, Ql, Zy, Zf, Zc, Qd, decide_true, decide_eq_true_eq, decide_eq_false_iff_not, true_and, and_true, and_self, implies_true, not_false_eq_true, ne_eq, Zh, Xm, Zj, Zp, Q2, beq_true, beq_false, Qff, Qf1, Z5, imp_self, Qg, Q9, Qa, Qz, Zn, eI, eFig]
   refine ⟨fun e => ⟨e, fun e2 => by simp [e, e2]⟩, fun e => ?_, fun e => ?_⟩
   ·rw [Ze, decide_eq_true_eq, Zr] at e
    simp only [if_pos e, Qp, Qq]
   ·have e' : ¬ (y + x ≤ z ∧ (o1 = true ∨ o2 = true)) := fun h => by
     have : (decide (y + x ≤ z) && (o1 || o2)) = true := by rw [Ze, decide_eq_true_eq, Zr]; exact h
     rw [this] at e; cases e
    simp only [if_neg e', Qp, Qq]
  ·have e3 : occI f.times b seam (j + 1) = occR f.times b seam O b.length := by rw [occI, ← hO]
   simp only [Qy, Qp, Qq, e3, i5, Qa7, Qa8, Qad, Qam, Qa4, Qae, Qaj, Qa5, Qa2, Fam.step, Qaf, evO, opv, qv, binV, Qa3, Qa0, Qa1, ↓reduceIte, Nat.reduceEqDiff, Qb, Qc, Qy, Qd, decide_false, and_self, eFig]
 ·have e4 := Qol f.times b seam b.length
  have e5 := Qzx (occI f.times b seam b.length)
  rw [e4] at e5
  simp only [Qy, Zq, e4, e5, Zv, vw_B, Qa7, Qa8, Qad, Qam, Qai, Qa4, Qae, Qaj, Qa5, Qa2, Fam.step, Qaf, evO, opv, qv, binV, Qa3, Qa0, Qa1, ↓reduceIte, Nat.reduceEqDiff, Qb, Qc, Qw, endQ, rvs, rv1, resV, Qdw, Qy, Qi, Qd, decide_false, true_and, and_self, Qg, eFig]
  rfl
def eFBN (a : Fig × List Int × Nat) : List V := [.ag (eFig a.1), .sl 1 (a.2.1.map eI), .i a.2.2]
def dFBN : List V → Fig × List Int × Nat | [.ag r, .sl _ k, .i n] => (dFig r, k.map dI, n.toNat) | _ => (dFig [], [], 0)
theorem Zbv (a : Fig × List Int × Nat) : dFBN (eFBN a) = a := by obtain ⟨r, k, n⟩ := a; simp [dFBN, eFBN, Qcw, Function.comp_def, Qfc]
def s60 : List V → Prop × V := fnG eFBN dFBN (fun a => Ok60 a.1.times a.2.1 a.2.2) (fun a => occN a.1.times a.2.1 a.2.2) (fun l => .sl 1 (l.map eB))
noncomputable def H25 : Gam := H24.ext 60 s60
theorem Qqj : GOk Try.prog H25 := Qyv.ext (f := 60) (r := s60) (fun a w => Try.call60 a w) (Qau fun a h => W60 a.1 a.2.1 a.2.2 h)
theorem q60 (f : Fig) (b : List Int) (n : Nat) : H25 60 [.ag (eFig f), .sl 1 (b.map eI), .i n] = (Ok60 f.times b n, .sl 1 ((occN f.times b n).map eB)) :=
 (show H25 60 _ = s60 (eFBN (f, b, n)) from rfl).trans (Qb1 _ (Zbv _))
theorem q52y (l : List Int) (m lo up : Int) : H25 52 [.sl 1 (l.map eI), .i m, .i lo, .i up] = (l.length < 10000000, .b (allN l m lo up)) := h52 l m lo up
def Qjm (t b : List Int) (a c : Nat) : Bool :=
 decide (b.getD c 0 + t.getD c 0 ≤ b.getD a 0) || decide (b.getD a 0 + t.getD a 0 ≤ b.getD c 0) || (Zk b.length).all fun g => !((occN t b a).getD g false && (occN t b c).getD g false)
def Qjf (t b : List Int) : Bool := allN b t.length 0 1000000 && (Zk b.length).all fun a => (Zk a).all fun c => Qjm t b a c
theorem Qom (t b : List Int) (seam : Nat) : (occN t b seam).length = b.length := Qol _ _ _ _
set_option maxHeartbeats 1000000 in
theorem W27 (f : Fig) (b : List Int) (hT : OkT f.times) (hl : b.length < 10000000) : Qab Try.prog 27 [.ag (eFig f), .sl 1 (b.map eI)] (.b (Qjf f.times b)) := by
 refine Qac Qqj hmix Try.func27 cb27 cc27 cs27 cn27 ?_
 have hl1 := hT.1
 have hl2 := hT.2.1
 simp only [rc27, rs27, q52y, Qag, Qa7, Qa8, Qad, Qbe, Qa9, Qai, Qa4, Qae, Qa5, Qa2, Fam.step, Qaf, evO, opv, qv, ldV, lenV, Qaw, V.cells, Qas, Qaa, Qa6, flat, Qa3, Qa0, Qa1, ↓reduceIte, Nat.reduceEqDiff, Nat.reduceLT, Nat.reduceLeDiff, Qb, Qc, Qh, Qf, Qj, Qv, Qm, Qn, endQ, rvs, rv1, resV, vw_i, vw_b, Qay, Qaz, zipA, Qi, V.b.injEq, Ql, Qd, true_and, and_true, and_self, implies_true, reduceCtorEq, Q3, Qg, Z2, eFig]
 refine ⟨hl, fun e => by simp [Qjf, e], fun e => ?_⟩
 have hcs : Qjf f.times b = (Zk b.length).all fun a => (Zk a).all fun c => Qjm f.times b a c := by simp [Qjf, e]
 rw [Qnm, Ze, decide_eq_true_eq, Z3] at e
 obtain ⟨hbl, hbx⟩ := e
 have hbt : ∀ x ∈ b, tame 1000000 x := fun x hx => by have := hbx x hx; simp only [Qak, Ze, decide_eq_true_eq] at this; unfold tame; omega
 have htt : ∀ x ∈ f.times, tame 1000000 x := fun x hx => by have := hT.2.2 x hx; unfold tame; omega
 have hok : ∀ a : Nat, a < b.length → Ok60 f.times b a := fun a ha => ⟨⟨hbl, by omega⟩, ha, htt, hbt⟩
 rw [hcs]
 refine Qb8 b.length (fun a => ⟨lkp [(1, .sl 1 (b.map eI)), (2, .pa (eFig f)), (5, .i a)], []⟩) (fun a => (Zk a).all (fun a => (Zk a).all fun c => Qjm f.times b a c) = true) ?_ rfl ?_ ?_
 ·simp only [Q6, kp, Qa0, Qa1, ↓reduceIte, Nat.reduceEqDiff, Qb, Qc, eFig]
 ·intro a ha hA
  have hlta : (a : Int) < b.length := by omega
  have hlta2 : (a : Int) < f.times.length := by omega
  have i1 : inI ((a : Int) + 1) := by unfold inI; omega
  obtain ⟨xa, hxa⟩ : ∃ x, f.times[a]? = some x := ⟨_, Qe (by omega)⟩
  obtain ⟨ya, hya⟩ : ∃ y, b[a]? = some y := ⟨_, Qe ha⟩
  have hxa1 := htt xa (Qt hxa)
  have hya1 := hbt ya (Qt hya)
  have i2 : inI (ya + xa) := by unfold tame at hxa1 hya1; unfold inI; omega
  have ca1 : b.getD a 0 = ya := by rw [Qa, hya]; rfl
  have ca2 : f.times.getD a 0 = xa := by rw [Qa, hxa]; rfl
  simp only [hlta, Qag, Qa7, Qa8, Qad, Qa9, Qa4, Qae, Qa5, Qa2, Fam.step, Qaf, evO, opv, qv, binV, lenV, kp, Qa3, Qa0, Qa1, ↓reduceIte, Nat.reduceEqDiff, Qb, Qc, decide_true, true_and, Qg, eFig]
  refine Qb8 a (fun c => ⟨lkp [(1, .sl 1 (b.map eI)), (2, .pa (eFig f)), (5, .i a), (6, .i c)], []⟩) (fun c => (Zk c).all (fun c => Qjm f.times b a c) = true) ?_ rfl ?_ ?_
  ·simp only [Q6, kp, Qa0, Qa1, ↓reduceIte, Nat.reduceEqDiff, Qb, Qc, eFig]
  ·intro c hc hC
   have hltc : (c : Int) < a := by omega
   have hltcb : (c : Int) < b.length := by omega
   have hltc2 : (c : Int) < f.times.length := by omega
   have i3 : inI ((c : Int) + 1) := by unfold inI; omega
   obtain ⟨xc, hxc⟩ : ∃ x, f.times[c]? = some x := ⟨_, Qe (by omega)⟩
   obtain ⟨yc, hyc⟩ : ∃ y, b[c]? = some y := ⟨_, Qe (by omega)⟩
   have hxc1 := htt xc (Qt hxc)
   have hyc1 := hbt yc (Qt hyc)
   have i4 : inI (yc + xc) := by unfold tame at hxc1 hyc1; unfold inI; omega
   have cc1 : b.getD c 0 = yc := by rw [Qa, hyc]; rfl
   have cc2 : f.times.getD c 0 = xc := by rw [Qa, hxc]; rfl
   have hnc : Qjm f.times b a c = (decide (yc + xc ≤ ya) || decide (ya + xa ≤ yc) || (Zk b.length).all fun g => !((occN f.times b a).getD g false && (occN f.times b c).getD g false)) := by unfold Qjm; rw [ca1, ca2, cc1, cc2]
   have g1 := q60 f b a
   have g2 := q60 f b c
   unfold eFig at g1 g2
   simp only [hltc, hlta, hlta2, hltcb, hltc2, i2, i3, i4, hxa, hya, hxc, hyc, g1, g2, Qag, Qa7, Qbf, Qa8, Qad, Qbe, Qa9, Qam, Qa4, Qba, Qae, Qaj, Qa5, Qa2, Fam.step, Qaf, Qbz, Qbq, ug, runX, eff, Qb9, fpR, fpQ, fpV, Qbp, hits, evO, opv, qv, Qb2, binV, ldV, iadV, Qaw, Qaa, Qa6, flat, kp, Qa3, Qa0, Qa1, ↓reduceIte, Nat.reduceEqDiff, Nat.reduceAdd, Nat.reduceLT, Nat.reduceLeDiff, Qb, Qc, Zg, Q5, Qh, Qf, Qj, Qv, Qk, Q0, Qm, Qx, Qu, Qn, Qs, Qo, Q7, Qr, Q8, vw_i, Qay, Qaz, Zd, Qi, Q1, Q4, Zb, Ql, Zf, Zc, Qd, decide_true, decide_eq_true_eq, decide_eq_false_iff_not, true_and, and_true, and_self, implies_true, Zh, Zj, Q2, beq_false, Q3, Qf1, imp_self, Qg, Q9, Qa, Qz, Zn, eI, eFig]
   refine ⟨fun e => ⟨Qgk hC (by rw [hnc, e]; rfl), ?_⟩, fun e => ⟨hok a ha, hok c (by omega), ?_⟩⟩
   ·simp only [Qp, Qq]
   refine Qb8 b.length (fun g => ⟨lkp [(1, .sl 1 (b.map eI)), (2, .pa (eFig f)), (5, .i a), (6, .i c), (7, .sl 1 ((occN f.times b a).map eB)), (8, .sl 1 ((occN f.times b c).map eB)), (9, .i g)], []⟩) (fun g => (Zk g).all (fun g => !((occN f.times b a).getD g false && (occN f.times b c).getD g false)) = true) ?_ rfl ?_ ?_
   ·simp only [Q6, kp, Qa0, Qa1, ↓reduceIte, Nat.reduceEqDiff, Qb, Qc, eFig]
   ·intro g hg hG
    have hltg : (g : Int) < b.length := by omega
    have i5 : inI ((g : Int) + 1) := by unfold inI; omega
    obtain ⟨u, hu⟩ : ∃ u, (occN f.times b a)[g]? = some u := ⟨_, Qe (by rw [Qom]; exact hg)⟩
    obtain ⟨v, hv⟩ : ∃ v, (occN f.times b c)[g]? = some v := ⟨_, Qe (by rw [Qom]; exact hg)⟩
    have cu : (occN f.times b a).getD g false = u := by rw [Qa, hu]; rfl
    have cv : (occN f.times b c).getD g false = v := by rw [Qa, hv]; rfl
    simp only [hltg, i5, hu, hv, Qom, eB, Qag, Qa7, Qa8, Qad, Qbe, Qa9, Qai, Qa4, Qae, Qaj, Qa5, Qa2, Fam.step, Qaf, Qbz, Qbq, ug, evO, opv, qv, Qb2, binV, ldV, iadV, lenV, kp, Qa3, Qa0, Qa1, ↓reduceIte, Nat.reduceEqDiff, Nat.reduceLeDiff, Qb, Qc, Zg, Q5, Qh, Qf, Qm, Qo, endQ, rvs, rv1, resV, vw_b, Zd, Qi, V.b.injEq, Q1, Q4, Qd, decide_true, true_and, and_true, and_self, implies_true, Zh, beq_true, Qff, Z5, imp_self, Qg, Q9, Qa, Qz, Zn, eFig]
    refine ⟨fun e1 => ?_, fun e1 => ⟨?_, ?_⟩⟩
    ·rw [Qh5 ha]
     refine Qh5 hc ?_
     rw [hnc, e, Zy]
     exact Qh5 hg (by rw [cu, cv]; simp [e1])
    ·have := Qgk hG (i := g) (by rw [cu, cv]; simp [e1])
     simpa only [Qa] using this
    ·simp only [Qp, Qq]
   ·intro hG
    simp only [Qy, Qa7, Qa8, Qad, Qam, Qa4, Qae, Qaj, Qa5, Qa2, Fam.step, Qaf, evO, opv, qv, binV, lenV, Qa3, Qa0, Qa1, ↓reduceIte, Nat.reduceEqDiff, Qb, Qc, Qy, Qd, decide_false, true_and, Qg, eFig]
    refine ⟨i3, Qgk hC (by rw [hnc, e, hG]; rfl), ?_⟩
    simp only [Qp, Qq]
  ·intro hC
   simp only [Qy, Qp, Qq, Qa7, Qa8, Qad, Qam, Qa4, Qae, Qaj, Qa5, Qa2, Fam.step, Qaf, evO, opv, qv, binV, Qa3, Qa0, Qa1, ↓reduceIte, Nat.reduceEqDiff, Qb, Qc, Qy, Qd, decide_false, true_and, and_true, eFig]
   exact ⟨i1, Qgk hA hC⟩
 ·intro hA
  simp only [Qy, hA, Qa7, Qa8, Qad, Qam, Qai, Qa4, Qae, Qaj, Qa5, Qa2, Fam.step, Qaf, evO, opv, qv, binV, lenV, Qa3, Qa0, Qa1, ↓reduceIte, Nat.reduceEqDiff, Qb, Qc, endQ, rvs, rv1, resV, vw_b, Qy, Qd, decide_false, and_self, Qg, eFig]
end Go.C02
set_option linter.unusedSimpArgs false
set_option linter.unusedVariables false
namespace Go.C02
open Go.Fam Go.Proofs
theorem Qyl {d : Dome} (h : far d = false) : Ok22 d := by
 unfold far at h
 split at h
 ·cases h
 rename_i h1
 split at h
 ·cases h
 rename_i h2
 have h1 : bigs d = false := by simpa using h1
 unfold bigs at h1
 simp only [Zx, decide_eq_false_iff_not] at h1
 refine ⟨by omega, by omega, by omega, by omega, fun b hb => ?_⟩
 have h2 : d.bolts.any (fun b => decide ((60 : Int) < b.strips.length)) = false := by simpa using h2
 have := List.any_eq_false.1 h2 b hb
 simp only [decide_eq_true_eq] at this
 omega
theorem z61 (f : Fig) (n : Int) : H25 61 [.ag (eFig f), .i n] = (f.starts.length < 10000000 ∧ f.times.length < 10000000, .i (Qc2 f (Qak n 0 (f.dome.gores.length - 1)))) := q61 f n
theorem z57 (d : Dome) : H25 57 [.ag (Qal d)] = (True, .b (far d)) :=
 (show H25 57 _ = r21 [.ag (Qal d)] from rfl).trans (Qb1 (e := fun d => [.ag (Qal d)]) _ (Qdh _))
theorem z55 (d : Dome) : H25 55 [.ag (Qal d)] = (Ok22 d, .ag (Qal d)) :=
 (show H25 55 _ = r22 [.ag (Qal d)] from rfl).trans (Qb1 (e := fun d => [.ag (Qal d)]) _ (Qdh _))
theorem W36 (f : Fig) (hs : f.starts.length < 10000000) (ht : f.times.length < 10000000) : Qab Try.prog 36 [.ag (eFig f)] (.i (Qc2 f true)) := by
 refine Qac Qqj hmix Try.func36 cb36 cc36 cs36 cn36 ?_
 have g1 := z61 f 0
 rw [Qta] at g1
 unfold eFig at g1
 simp only [rc36, rs36, g1, Qa7, Qa8, Qai, Qa4, Qae, Qa5, Qa2, Fam.step, Qaf, evO, opv, qv, ldV, Qaw, V.cells, Qas, Qaa, Qa6, flat, Qa3, Qa0, Qa1, ↓reduceIte, Nat.reduceEqDiff, Nat.reduceAdd, Nat.reduceLT, Nat.reduceLeDiff, Qb, Qc, Qh, Qf, Qk, Q0, Qn, endQ, rvs, rv1, resV, vw_i, Qay, Qaz, zipA, Qi, Ql, Qd, true_and, and_true, and_self, implies_true, eFig]
 exact ⟨hs, ht⟩
def Qfe (f : Fig) : Bool := far f.dome || decide (60 < f.starts.length) || decide (60 < f.times.length)
theorem W24 (f : Fig) : Qab Try.prog 24 [.ag (eFig f)] (.b (Qfe f)) := by
 refine Qac Qqj hmix Try.func24 cb24 cc24 cs24 cn24 ?_
 have g1 := z57 f.dome
 unfold Qal at g1
 simp only [rc24, rs24, g1, Qa7, Qa8, Qai, Qa4, Qae, Qa5, Qa2, Fam.step, Qaf, Qbz, Qbq, ug, evO, opv, qv, Qb2, binV, ldV, lenV, Qaw, V.cells, Qas, Qaa, Qa6, flat, Qa3, Qa0, Qa1, ↓reduceIte, Nat.reduceEqDiff, Nat.reduceAdd, Nat.reduceLT, Nat.reduceLeDiff, Qb, Qc, Zg, Q5, Qh, Qf, Qj, Qv, Qk, Za, Qm, Qn, endQ, rvs, rv1, resV, vw_i, vw_b, Qay, Qaz, zipA, Qi, V.b.injEq, Q1, Q4, Ql, Qd, true_and, and_true, and_self, implies_true, beq_false, Q3, Qf1, Z5, imp_self, Qg, eFig]
 have e1 : decide ((60 : Int) < f.starts.length) = decide (60 < f.starts.length) := by simp only [decide_eq_decide]; omega
 have e2 : decide ((60 : Int) < f.times.length) = decide (60 < f.times.length) := by simp only [decide_eq_decide]; omega
 simp only [Qfe, e1, e2]
structure Ok21 (f : Fig) : Prop where
 d : Ok22 f.dome
 s : f.starts.length < 1000000
 t : f.times.length < 1000000
theorem Qn6 {f : Fig} (h : Qfe f = false) : Ok21 f := by
 unfold Qfe at h
 simp only [Zx, decide_eq_false_iff_not] at h
 exact ⟨Qyl h.1.1, by omega, by omega⟩
theorem W21 (f : Fig) (h : Ok21 f) : Qab Try.prog 21 [.ag (eFig f)] (.ag (eFig f)) := by
 refine Qac Qqj hmix Try.func21 cb21 cc21 cs21 cn21 ?_
 have g1 := z55 f.dome
 unfold Qal at g1
 have hs := h.s
 have ht := h.t
 simp only [rc21, rs21, g1, Zt, Qet, Zq, Qg, Zv, Qdp, vw_I, Qa7, Qbf, Qa8, Qai, Qa4, Qba, optL, putB, Qae, Qa5, Qa2, Fam.step, Qaf, Qbi, Qb4, runX, eff, Qb9, fpR, fpQ, fpV, Qbp, hits, putB, nv, sv, Qce, evO, opv, qv, ldV, curG, Qaw, Qap, putAt, Qb7, Qb6, V.cells, Qas, Qb3, Qaa, Qa6, flat, Qcy, Qa3, Qat, Qa0, Qa1, ↓reduceIte, Nat.reduceEqDiff, Nat.reduceAdd, Nat.reduceLT, Nat.reduceLeDiff, Nat.reduceBEq, Qb, Qc, Zg, Q5, Qh, Qf, Qj, Qv, Xe, Qk, Za, Q0, Qm, Qx, Qu, Qn, Qw, Zl, Qs, Qo, Q7, Zi, Xz, Qr, Zo, Q8, Xb, endQ, rvs, rv1, resV, vw_i, Qay, Qaz, Qdw, zipA, beq_self_eq_true, Qi, Nat.add_zero, Q1, Q4, Xf, Zb, Xi, Ql, Zy, Zf, Zc, Qd, true_and, and_true, and_self, Xm, Zj, Zp, Q2, imp_self, Qg, Qa, eFig]
 exact ⟨h.d, by unfold Qbd; omega, by unfold Qbd; omega⟩
def Qr7 (f : Fig) : List V := [.sl 4 (f.dome.bolts.map eBolt), .sl 1 (f.dome.gores.map eI), .i f.dome.loss, .sl 2 (f.dome.rounds.map eSpan), .sl 1 (f.dome.widths.map eI), .i f.dome.slope,
 .i f.period, .i f.run, .i f.near, .rf 2 1 0 f.starts.length 1, .rf 4 1 0 f.times.length 1]
def Ql0 (f : Fig) : List Blk := [.cells 0 (Qr7 f), .cells 0 (Qr7 f), .cells 1 (f.starts.map eI).flatten, .hole, .cells 1 (f.times.map eI).flatten, .hole]
theorem O21 (f : Fig) (h : Ok21 f) : Qdf Try.prog 21 [.ag (eFig f)] (.ag (Qr7 f)) (Ql0 f) := by
 refine Qj0 Qqj hmix Try.func21 cb21 cc21 cs21 cn21 ?_
 have g1 := z55 f.dome
 unfold Qal at g1
 have hs := h.s
 have ht := h.t
 simp only [rc21, rs21, g1, endO, Zt, Qr7, Ql0, Qg, Qa7, Qbf, Qa8, Qai, Qa4, Qba, optL, putB, endO, Qae, Qa5, Qa2, Fam.step, Qaf, Qbi, Qb4, runX, eff, Qb9, fpR, fpQ, fpV, Qbp, hits, putB, nv, sv, Qce, evO, opv, qv, ldV, curG, Qaw, Qap, putAt, Qb7, Qb6, V.cells, Qas, Qb3, Qaa, Qa6, flat, Qcy, Qa3, Qat, Qa0, Qa1, ↓reduceIte, Nat.reduceEqDiff, Nat.reduceAdd, Nat.reduceMul, Nat.reduceLT, Nat.reduceLeDiff, Nat.reduceBEq, Qb, Qc, Zg, Q5, Qh, Qf, Qj, Qv, Xe, Qk, Za, Q0, Qm, Qx, Qu, Qn, Qw, Zl, Qs, Qo, Q7, Zi, Xz, Qr, Zo, Q8, Xb, rvs, rv1, resV, vw_i, Qay, Qaz, zipA, beq_self_eq_true, Qi, Nat.add_zero, Q1, Q4, Xf, Zb, Xi, Ql, Zy, Zf, Zc, Qd, true_and, and_true, and_self, Xm, Zj, Zp, Q2, imp_self, Qg, Qa, eFig]
 exact ⟨h.d, by unfold Qbd; omega, by unfold Qbd; omega⟩
theorem Qog {l : List Int} {i : Nat} {x n : Int} (hx : l[i]? = some x) : n ∈ l.take (i + 1) ↔ n ∈ l.take i ∨ n = x := by
 rw [Qar hx]; simp
theorem W23 (l : List Int) (n : Int) (h : l.length < 10000000) : Qab Try.prog 23 [.sl 1 (l.map eI), .i n] (.b (decide (n ∈ l))) := by
 refine Qac Qqj hmix Try.func23 cb23 cc23 cs23 cn23 ?_
 simp only [rc23, rs23, Qa7, Qa8, Qa9, Qa4, Qae, Qa5, Qa2, Fam.step, Qaf, evO, opv, qv, Qa3, Qa0, Qa1, ↓reduceIte, Nat.reduceEqDiff, Qb, Qc, zipA, Qi, true_and, reduceCtorEq]
 refine Qb8 l.length (fun i => ⟨lkp [(0, .sl 1 (l.map eI)), (1, .i n), (5, .i i)], []⟩) (fun i => n ∉ l.take i) ?_ (by simp) ?_ ?_
 ·simp only [Q6, kp, Qa0, Qa1, ↓reduceIte, Nat.reduceEqDiff, Qb, Qc, reduceCtorEq]
 ·intro i hi hC
  obtain ⟨x, hx⟩ : ∃ x, l[i]? = some x := ⟨_, Qe hi⟩
  have hlt : (i : Int) < l.length := by omega
  have h3 : inI ((i : Int) + 1) := by unfold inI; omega
  simp only [hx, hlt, h3, Qp, Qq, Qag, Qa7, Qa8, Qad, Qbe, Qa9, Qai, Qa4, Qae, Qaj, Qa5, Qa2, Fam.step, Qaf, evO, opv, qv, binV, ldV, iadV, lenV, kp, Qa3, Qa0, Qa1, ↓reduceIte, Nat.reduceEqDiff, Nat.reduceLeDiff, Qb, Qc, Qh, Qf, Qm, Qo, endQ, rvs, rv1, resV, vw_b, Zd, Qi, V.b.injEq, Qd, decide_true, decide_eq_true_eq, true_and, and_true, and_self, reduceCtorEq, Zh, Qg, Q9, Qa, Qz, eI]
  refine ⟨fun e => ?_, fun e => ?_⟩
  ·rw [decide_eq_true]
   rw [← e]; exact Qt hx
  ·rw [Qog hx]
   rintro (h | h)
   ·exact hC h
   ·exact e h.symm
 ·intro hC
  rw [Zs] at hC
  simp only [Qy, Qa7, Qa8, Qad, Qam, Qai, Qa4, Qae, Qaj, Qa5, Qa2, Fam.step, Qaf, evO, opv, qv, binV, lenV, Qa3, Qa0, Qa1, ↓reduceIte, Nat.reduceEqDiff, Qb, Qc, endQ, rvs, rv1, resV, vw_b, Qy, V.b.injEq, Qd, decide_false, true_and, and_self, reduceCtorEq, Qg]
  rw [decide_eq_false hC]
theorem W32 (a b : List Int) (h : a.length < 10000000) : Qab Try.prog 32 [.sl 1 (a.map eI), .sl 1 (b.map eI)] (.b (decide (a = b))) := by
 refine Qac Qqj hmix Try.func32 cb32 cc32 cs32 cn32 ?_
 simp only [rc32, rs32, Qag, Qa7, Qa8, Qad, Qbe, Qa9, Qai, Qa4, Qae, Qa5, Qa2, Fam.step, Qaf, evO, opv, qv, binV, lenV, Qa3, Qa0, Qa1, ↓reduceIte, Nat.reduceEqDiff, Qb, Qc, endQ, rvs, rv1, resV, vw_b, zipA, Qi, V.b.injEq, decide_eq_false_iff_not, true_and, and_self, reduceCtorEq, Q3, Qg, Classical.not_not]
 refine ⟨fun e => ?_, fun e => ?_⟩
 ·have : ¬ a = b := fun h => e (by rw [h])
  rw [decide_eq_false this]
 have e : a.length = b.length := by omega
 refine Qb8 a.length (fun i => ⟨lkp [(0, .sl 1 (a.map eI)), (1, .sl 1 (b.map eI)), (5, .i i)], []⟩) (fun i => a.take i = b.take i) ?_ rfl ?_ ?_
 ·simp only [Q6, kp, Qa0, Qa1, ↓reduceIte, Nat.reduceEqDiff, Qb, Qc, reduceCtorEq]
 ·intro i hi hC
  obtain ⟨x, hx⟩ : ∃ x, a[i]? = some x := ⟨_, Qe hi⟩
  obtain ⟨y, hy⟩ : ∃ y, b[i]? = some y := ⟨_, Qe (by omega)⟩
  have hlt : (i : Int) < a.length := by omega
  have hlt2 : (i : Int) < b.length := by omega
  have h3 : inI ((i : Int) + 1) := by unfold inI; omega
  simp only [hx, hy, hlt, hlt2, h3, Qp, Qq, Qag, Qa7, Qbf, Qa8, Qad, Qbe, Qa9, Qai, Qa4, Qba, Qae, Qaj, Qa5, Qa2, Fam.step, Qaf, runX, eff, Qb9, fpR, fpQ, fpV, Qbp, hits, evO, opv, qv, binV, ldV, iadV, lenV, kp, Qa3, Qa0, Qa1, ↓reduceIte, Nat.reduceEqDiff, Nat.reduceLeDiff, Qb, Qc, Q5, Qh, Qf, Qm, Qx, Qu, Qn, Qs, Qo, Q7, Qr, Q8, endQ, rvs, rv1, resV, vw_b, Zd, Qi, V.b.injEq, Q1, Q4, Zb, Ql, Zf, Zc, Qd, decide_true, decide_eq_false_iff_not, true_and, and_true, and_self, reduceCtorEq, Zh, Zj, Q2, Q3, Qg, Q9, Qa, Qz, Classical.not_not, eI]
  refine ⟨fun e1 => ?_, fun e1 => ?_⟩
  ·have : ¬ a = b := fun h => e1 (by rw [h, hy] at hx; exact (Xt.inj hx).symm)
   rw [decide_eq_false this]
  ·rw [Qar hx, Qar hy, hC, e1]
 ·intro hC
  have : a = b := by
   rw [Zs] at hC
   rw [hC, Z0 (by omega)]
  simp only [Qy, Qa7, Qa8, Qad, Qam, Qai, Qa4, Qae, Qaj, Qa5, Qa2, Fam.step, Qaf, evO, opv, qv, binV, lenV, Qa3, Qa0, Qa1, ↓reduceIte, Nat.reduceEqDiff, Qb, Qc, endQ, rvs, rv1, resV, vw_b, Qy, V.b.injEq, Qd, decide_false, true_and, and_self, reduceCtorEq, Qg]
  rw [decide_eq_true this]
def s23 : List V → Prop × V | [.sl 1 l, .i n] => (l = (l.map dI).map eI ∧ l.length < 10000000, .b (decide (n ∈ l.map dI))) | _ => (False, .u)
def s32 : List V → Prop × V | [.sl 1 l, .sl 1 k] => ((l = (l.map dI).map eI ∧ k = (k.map dI).map eI) ∧ l.length < 10000000, .b (decide (l.map dI = k.map dI))) | _ => (False, .u)
theorem Zcu (vs : List V) (h : (s23 vs).1) : Qab Try.prog 23 vs (s23 vs).2 := by
 unfold s23 at h ⊢
 split at h
 ·rename_i l n
  have := W23 (l.map dI) n (by simpa using h.2)
  rw [← h.1] at this
  exact this
 ·exact h.elim
theorem Zcv (vs : List V) (h : (s32 vs).1) : Qab Try.prog 32 vs (s32 vs).2 := by
 unfold s32 at h ⊢
 split at h
 ·rename_i l k
  have := W32 (l.map dI) (k.map dI) (by simpa using h.2)
  rw [← h.1.1, ← h.1.2] at this
  exact this
 ·exact h.elim
def s21o : List V → Prop × V := fnG (fun f => [.ag (eFig f)]) decF Ok21 (fun f => f) (fun f => .tp [.ag (Qr7 f), .tp ((Ql0 f).map bV)])
theorem Qv1 (f : Fig) : ((Ql0 f).map bV).map vB = Ql0 f := by simp [Ql0, Qr7, bV, vB]
noncomputable def H26 : Gam := ((((((H25.ext 36 (fnG (fun f => [.ag (eFig f)]) decF (fun f => f.starts.length < 10000000 ∧ f.times.length < 10000000) (fun f => Qc2 f true) .i)).ext 24 (fnG (fun f => [.ag (eFig f)]) decF (fun _ => True) Qfe .b)).ext 21 (fnG (fun f => [.ag (eFig f)]) decF Ok21 (fun f => f) (fun f => .ag (eFig f)))).ext 23 s23).ext 32 s32).ext 1000021 s21o)
theorem Zcj : GOk Try.prog H26 := by
 have k1 := Qqj.ext (f := 36) (fun a w => Try.call36 a w) (Qau (e := fun f => [.ag (eFig f)]) (d := decF) (ok := fun f => f.starts.length < 10000000 ∧ f.times.length < 10000000) (g := fun f => Qc2 f true) (eb := V.i) fun f h => W36 f h.1 h.2)
 have k2 := k1.ext (f := 24) (fun a w => Try.call24 a w) (Qau (e := fun f => [.ag (eFig f)]) (d := decF) (ok := fun _ => True) (g := Qfe) (eb := V.b) fun f _ => W24 f)
 have k3 := k2.ext (f := 21) (fun a w => Try.call21 a w) (Qau (e := fun f => [.ag (eFig f)]) (d := decF) (ok := Ok21) (g := fun f => f) (eb := fun f => V.ag (eFig f)) fun f h => W21 f h)
 have k4 := k3.ext (f := 23) (r := s23) (fun a w => Try.call23 a w) Zcu
 have k5 := k4.ext (f := 32) (r := s32) (fun a w => Try.call32 a w) Zcv
 exact k5.extO (f := 21) (r := s21o) (fun a w => Try.call21 a w) fun vs v bs h e => Qsw (e := fun f => [.ag (eFig f)]) (d := decF) (ok := Ok21) (v := fun f => .ag (Qr7 f)) (hp := Ql0) Qv1 (fun f h => O21 f h) vs v bs h e
theorem z36 (f : Fig) : H26 36 [.ag (eFig f)] = (f.starts.length < 10000000 ∧ f.times.length < 10000000, .i (Qc2 f true)) :=
 (show H26 36 _ = fnG (fun f => [.ag (eFig f)]) decF (fun f => f.starts.length < 10000000 ∧ f.times.length < 10000000) (fun f => Qc2 f true) .i [.ag (eFig f)] from rfl).trans (Qb1 _ (Qcw _))
theorem z24 (f : Fig) : H26 24 [.ag (eFig f)] = (True, .b (Qfe f)) :=
 (show H26 24 _ = fnG (fun f => [.ag (eFig f)]) decF (fun _ => True) Qfe .b [.ag (eFig f)] from rfl).trans (Qb1 _ (Qcw _))
theorem z32 (l k : List Int) : H26 32 [.sl 1 (l.map eI), .sl 1 (k.map eI)] = (l.length < 10000000, .b (decide (l = k))) := by
 refine (show H26 32 _ = s32 [.sl 1 (l.map eI), .sl 1 (k.map eI)] from rfl).trans ?_
 simp [s32, Qeu Qfc]
def farF (f : Fig) : Bool := Qfe f || (decide (Qao f = 0) && (decide (5 < f.starts.length) || decide (8 < f.period)))
theorem z25' (f : Fig) : H26 25 [.ag (eFig f)] = (f.starts.length < 10000000 ∧ f.times.length < 10000000, .i (Qao f)) := q25 f
theorem W29 (f : Fig) : Qab Try.prog 29 [.ag (eFig f)] (.b (farF f)) := by
 refine Qac Zcj hmix Try.func29 cb29 cc29 cs29 cn29 ?_
 have g1 := z24 f
 have g2 := z25' f
 unfold eFig at g1 g2
 have e1 : decide ((5 : Int) < f.starts.length) = decide (5 < f.starts.length) := by simp only [decide_eq_decide]; omega
 simp only [rc29, rs29, g1, g2, e1, farF, Qa7, Qa8, Qai, Qa4, Qae, Qa5, Qa2, Fam.step, Qaf, Qbz, Qbq, ug, evO, opv, qv, Qb2, binV, ldV, lenV, Qaw, V.cells, Qas, Qaa, Qa6, flat, Qa3, Qa0, Qa1, ↓reduceIte, Nat.reduceEqDiff, Nat.reduceAdd, Nat.reduceLT, Nat.reduceLeDiff, Qb, Qc, Zg, Q5, Qh, Qf, Qj, Qv, Qk, Q0, Qm, Qn, endQ, rvs, rv1, resV, vw_i, vw_b, Qay, Qaz, zipA, Qi, Q1, Q4, Ql, Qd, decide_eq_true_eq, decide_eq_false_iff_not, true_and, and_true, and_self, implies_true, beq_true, beq_false, Q3, Qff, Qf1, Z5, imp_self, Qg, eFig]
 refine ⟨fun h => ⟨h, ?_⟩, fun h => ⟨h, fun h2 => by rw [h]; simpa using h2⟩, fun h => ⟨h, fun h2 => by simp [h, h2]⟩⟩
 have := Qn6 h
 have := this.s
 have := ‹Ok21 f›.t
 omega
noncomputable def H27 : Gam := H26.ext 29 (fnG (fun f => [.ag (eFig f)]) decF (fun _ => True) farF .b)
theorem Zck : GOk Try.prog H27 := Zcj.ext (f := 29) (fun a w => Try.call29 a w) (Qau (e := fun f => [.ag (eFig f)]) (d := decF) (ok := fun _ => True) (g := farF) (eb := V.b) fun f _ => W29 f)
theorem z29 (f : Fig) : H27 29 [.ag (eFig f)] = (True, .b (farF f)) :=
 (show H27 29 _ = fnG (fun f => [.ag (eFig f)]) decF (fun _ => True) farF .b [.ag (eFig f)] from rfl).trans (Qb1 _ (Qcw _))
theorem z36' (f : Fig) : H27 36 [.ag (eFig f)] = (f.starts.length < 10000000 ∧ f.times.length < 10000000, .i (Qc2 f true)) := z36 f
def Qti (f : Fig) : Bool := !farF f && decide (Qc2 f true = 0)
theorem Qvt {f : Fig} (h : farF f = false) : Qfe f = false := by
 unfold farF at h
 rw [Zx] at h
 exact h.1
theorem W16 (f : Fig) : Qab Try.prog 16 [.ag (eFig f)] (.b (Qti f)) := by
 refine Qac Zck hmix Try.func16 cb16 cc16 cs16 cn16 ?_
 have g1 := z29 f
 have g2 := z36' f
 unfold eFig at g1 g2
 simp only [rc16, rs16, g1, g2, Qti, Qa7, Qa8, Qai, Qa4, Qae, Qa5, Qa2, Fam.step, Qaf, Qbz, Qbq, ug, evO, opv, qv, Qb2, binV, ldV, Qaw, V.cells, Qas, Qaa, Qa6, flat, Qa3, Qa0, Qa1, ↓reduceIte, Nat.reduceEqDiff, Nat.reduceAdd, Nat.reduceLT, Nat.reduceLeDiff, Qb, Qc, Zg, Q5, Qh, Qf, Qk, Q0, Qn, endQ, rvs, rv1, resV, vw_i, vw_b, Qay, Qaz, zipA, Qi, Q1, Q4, Ql, Qd, true_and, and_true, and_self, implies_true, beq_true, Bool.not_eq_false', Q3, Qff, Bool.decide_eq_false, imp_self, eFig]
 intro h
 have := Qn6 (Qvt h)
 have := this.s
 have := ‹Ok21 f›.t
 exact ⟨h, by omega, by omega⟩
def exF : Fig := ⟨exD, 12, 100, 1, [0, 3, 8, 0], [5, 3, 8, 2]⟩
def exF2 : Fig := { exF with near := 2 }
theorem Qps : Qao exF = 0 := by kernel_rfl
theorem Qyi : Qc2 exF true = 0 := by kernel_rfl
theorem Qvm : Qc2 exF2 true = 0 := by kernel_rfl
theorem Zae : Qao exF2 = 0 := by kernel_rfl
theorem Zaf : badR exF = ([0, 3], 0) := by kernel_rfl
theorem Qyj : maxL (Qig exF.times (Qe5 exF.times)) = 13 := by kernel_rfl
theorem Qyk : Qmj exF = (13, 0) := by
 unfold Qmj
 rw [Qps, Qyj]; rfl
theorem Qyh : Qaq exF = [[5, 6, 7, 8, 9, 10], [5, 6, 7, 8, 9, 10], [0, 1, 2, 3, 4, 5, 6, 7, 8, 9, 10], [0, 1, 2, 3, 4, 5, 6, 7, 8, 9, 10]] := by kernel_rfl
def exBs : List (List Int) := [[5, 6, 7, 8, 9, 10], [5, 6, 7, 8, 9, 10], [0, 1, 2, 3, 4, 5, 6, 7, 8, 9, 10], [0, 1, 2, 3, 4, 5, 6, 7, 8, 9, 10]]
theorem Qvo : Qdt (Qbo exF 0) exBs 4 [] = -1 := by kernel_rfl
theorem Qvp : Qdt (Qbo exF 1) exBs 4 [] = -1 := by kernel_rfl
theorem Qpt : Qdt (Qbo exF 2) exBs 4 [] = 12 := by kernel_rfl
theorem Qu3 : Qco exF = (2, 0) := by
 unfold Qco
 rw [Qyi, if_pos rfl]
 obtain ⟨h1, h2, h3⟩ := Qg0 (Qiz Qps)
 have e0 : Qbw (Qbo exF 0) [] = -1 := by unfold Qbw; rw [show Qaq (Qbo exF 0) = exBs from Qyh]; exact Qvo
 have e1 : Qbw (Qbo exF 1) [] = -1 := by unfold Qbw; rw [show Qaq (Qbo exF 1) = exBs from Qyh]; exact Qvp
 have e2 : Qbw (Qbo exF 2) [] = 12 := by unfold Qbw; rw [show Qaq (Qbo exF 2) = exBs from Qyh]; exact Qpt
 have c0 := (Qea Qps (n := 0) (by decide)).1 (by rw [e0]; decide)
 have c1 := (Qea Qps (n := 1) (by decide)).1 (by rw [e1]; decide)
 have c2 : ¬ Qdg (Qb0 exF) 2 = false := fun h => by
  have := (Qea Qps (n := 2) (by decide)).2 h
  rw [e2] at this; exact absurd this (by decide)
 have : Qc1 (Qb0 exF) = 2 := by
  rcases Nat.lt_trichotomy (Qc1 (Qb0 exF)) 2 with h | h | h
  ·exfalso
   rcases (show Qc1 (Qb0 exF) = 0 ∨ Qc1 (Qb0 exF) = 1 by omega) with e | e
   ·rw [e] at h2; rw [show ((0 : Nat) : Int) = 0 from rfl, c0] at h2; cases h2
   ·rw [e] at h2; rw [show ((1 : Nat) : Int) = 1 from rfl, c1] at h2; cases h2
  ·exact h
  ·exact absurd (h3 2 h) c2
 rw [this]; rfl
theorem Qvn : Qe9 exF2 = (12, 0) := by
 unfold Qe9
 rw [Qvm, if_pos rfl]
 have e2 : Qbw exF2 [] = 12 := by unfold Qbw; rw [show Qaq exF2 = exBs from Qyh]; exact Qpt
 obtain ⟨b1, b2⟩ := Qlk Zae
 rw [e2] at b1
 cases hb : Qlh (Begs (Qb0 exF2) exF2.near) with
 | none => have := b2.2 hb; rw [e2] at this; exact absurd this (by decide)
 | some n => rw [hb] at b1; simp only [Qo] at b1; rw [← b1]
theorem PX78 : Qab Try.prog 78 [] (.ag (Qal exD)) := by
 have := O44.toPure
 exact this
noncomputable def H28 : Gam := ((H27.ext 16 (fnG (fun f => [.ag (eFig f)]) decF (fun _ => True) Qti .b)).ext 78 (fnG (fun _ : Unit => []) (fun _ => ()) (fun _ => True) (fun a => a) (fun _ => .ag (Qal exD))))
theorem Zcl : GOk Try.prog H28 := by
 have k1 := Zck.ext (f := 16) (fun a w => Try.call16 a w) (Qau (e := fun f => [.ag (eFig f)]) (d := decF) (ok := fun _ => True) (g := Qti) (eb := V.b) fun f _ => W16 f)
 exact k1.ext (f := 78) (fun a w => Try.call78 a w) (Qau (e := fun _ : Unit => []) (d := fun _ => ()) (ok := fun _ => True) (g := fun a => a) (eb := fun _ => V.ag (Qal exD)) fun _ _ => PX78)
theorem z78 : H28 78 [] = (True, .ag (Qal exD)) := by
 refine (show H28 78 [] = fnG (fun _ : Unit => []) (fun _ => ()) (fun _ => True) (fun a => a) (fun _ => .ag (Qal exD)) [] from rfl).trans ?_
 simp [fnG]
theorem W49 : Qab Try.prog 49 [] (.ag (eFig exF)) := by
 refine Qac Zcl hmix Try.func49 cb49 cc49 cs49 cn49 ?_
 have g1 := z78
 simp only [rc49, rs49, g1, Qa7, Qa8, Qai, Qa4, putB, Qae, Qa5, Qa2, Fam.step, Qaf, Qbi, Qb4, putB, nv, sv, evO, opv, qv, ldV, Qaw, Qap, putAt, Qb7, Qb6, V.cells, Qas, Qb3, Qaa, Qa6, flat, Qcy, Qa3, Qat, Qa0, Qa1, ↓reduceIte, Nat.reduceEqDiff, Nat.reduceAdd, Nat.reduceMul, Nat.reduceLT, Nat.reduceLeDiff, Qb, Qc, Zg, Q5, Qh, Qf, Qj, Qv, Xe, Qk, Za, Q0, Qx, Qu, Qn, Qw, Zi, Qr, Zo, endQ, rvs, rv1, resV, vw_i, Qay, Qaz, zipA, Qi, Q1, Q4, Xi, Ql, Qd, true_and, and_self, reduceCtorEq, not_false_eq_true, ne_eq, imp_self, Qal, eFig]
 rfl
end Go.C02
set_option linter.unusedSimpArgs false
set_option linter.unusedVariables false
namespace Go.C02
open Go.Fam Go.Proofs
def eNE (r : Int × Int) : V := .tp [.i r.1, .i r.2]
theorem W38' (f : Fig) (seam : Int) : f.dome.gores.length < 1000000 → Qab Try.prog 38 [.ag (eFig f), .i seam] (eNE (Qec f seam)) := fun h => W38 f seam h
noncomputable def HA1 : Gam := ((((H28.ext 18 (fnG (fun f => [.ag (eFig f)]) decF (fun _ => True) Qe9 eNE)).ext 22 (fnG (fun f => [.ag (eFig f)]) decF (fun _ => True) Qco eNE)).ext 26 (fnG (fun f => [.ag (eFig f)]) decF (fun _ => True) Qmj eNE)).ext 19 (fnG (fun f => [.ag (eFig f)]) decF (fun _ => True) badR eLE)).ext 38 (fnG eFN dFN (fun a => a.1.dome.gores.length < 1000000) (fun a => Qec a.1 a.2) eNE)
noncomputable def HA2 : Gam := ((((HA1.ext 49 (fnG (fun _ : Unit => []) (fun _ => ()) (fun _ => True) (fun a => a) (fun _ => .ag (eFig exF)))).ext 34 (fnG (fun f => [.ag (eFig f)]) decF (fun f => f.starts.length < 10000000 ∧ f.times.length < 10000000) Qhn eNE)).ext 20 (fnG (fun a : Fig × List Int => [.ag (eFig a.1), .sl 1 (a.2.map eI)]) (fun vs => match vs with | [.ag r, .sl _ k] => (dFig r, k.map dI) | _ => (dFig [], [])) (fun a => (Qao a.1 = 0 ∧ Qbc a.1.dome true = 0) ∧ a.2.length < 10000000) (fun a => areR a.1 a.2) .b)).ext 27 (fnG (fun a : Fig × List Int => [.ag (eFig a.1), .sl 1 (a.2.map eI)]) (fun vs => match vs with | [.ag r, .sl _ k] => (dFig r, k.map dI) | _ => (dFig [], [])) (fun a => OkT a.1.times ∧ a.2.length < 10000000) (fun a => Qjf a.1.times a.2) .b)).ext 28 (fnG (fun a : Fig × List Int => [.ag (eFig a.1), .sl 1 (a.2.map eI)]) (fun vs => match vs with | [.ag r, .sl _ k] => (dFig r, k.map dI) | _ => (dFig [], [])) (fun a => (a.2.length ≤ a.1.times.length ∧ a.1.times.length < 100000) ∧ (∀ x ∈ a.1.times, tame 1000000 x) ∧ ∀ x ∈ a.2, tame 10000000 x) (fun a => endF a.1.times a.2 a.2.length) .i)
theorem Zdm : GOk Try.prog HA1 := by
 have k1 := Zcl.ext (f := 18) (fun a w => Try.call18 a w) (Qau (e := fun f => [.ag (eFig f)]) (d := decF) (ok := fun _ => True) (g := Qe9) (eb := eNE) fun f _ => W18 f)
 have k2 := k1.ext (f := 22) (fun a w => Try.call22 a w) (Qau (e := fun f => [.ag (eFig f)]) (d := decF) (ok := fun _ => True) (g := Qco) (eb := eNE) fun f _ => W22 f)
 have k3 := k2.ext (f := 26) (fun a w => Try.call26 a w) (Qau (e := fun f => [.ag (eFig f)]) (d := decF) (ok := fun _ => True) (g := Qmj) (eb := eNE) fun f _ => W26 f)
 have k4 := k3.ext (f := 19) (fun a w => Try.call19 a w) (Qau (e := fun f => [.ag (eFig f)]) (d := decF) (ok := fun _ => True) (g := badR) (eb := eLE) fun f _ => W19 f)
 exact k4.ext (f := 38) (fun a w => Try.call38 a w) (Qau (e := eFN) (d := dFN) (ok := fun a => a.1.dome.gores.length < 1000000) (g := fun a => Qec a.1 a.2) (eb := eNE) fun a h => W38' a.1 a.2 h)
theorem Zcm : GOk Try.prog HA2 := by
 have k1 := Zdm.ext (f := 49) (fun a w => Try.call49 a w) (Qau (e := fun _ : Unit => []) (d := fun _ => ()) (ok := fun _ => True) (g := fun a => a) (eb := fun _ => V.ag (eFig exF)) fun _ _ => W49)
 have k2 := k1.ext (f := 34) (fun a w => Try.call34 a w) (Qau (e := fun f => [.ag (eFig f)]) (d := decF) (ok := fun f => f.starts.length < 10000000 ∧ f.times.length < 10000000) (g := Qhn) (eb := eNE) fun f h => W34 f h.1 h.2)
 have k3 := k2.ext (f := 20) (fun a w => Try.call20 a w) (Qau (e := fun a : Fig × List Int => [.ag (eFig a.1), .sl 1 (a.2.map eI)]) (d := fun vs => match vs with | [.ag r, .sl _ k] => (dFig r, k.map dI) | _ => (dFig [], [])) (ok := fun a => (Qao a.1 = 0 ∧ Qbc a.1.dome true = 0) ∧ a.2.length < 10000000) (g := fun a => areR a.1 a.2) (eb := V.b) fun a h => W20 a.1 a.2 h.1.1 h.1.2 h.2)
 have k4 := k3.ext (f := 27) (fun a w => Try.call27 a w) (Qau (e := fun a : Fig × List Int => [.ag (eFig a.1), .sl 1 (a.2.map eI)]) (d := fun vs => match vs with | [.ag r, .sl _ k] => (dFig r, k.map dI) | _ => (dFig [], [])) (ok := fun a => OkT a.1.times ∧ a.2.length < 10000000) (g := fun a => Qjf a.1.times a.2) (eb := V.b) fun a h => W27 a.1 a.2 h.1 h.2)
 exact k4.ext (f := 28) (fun a w => Try.call28 a w) (Qau (e := fun a : Fig × List Int => [.ag (eFig a.1), .sl 1 (a.2.map eI)]) (d := fun vs => match vs with | [.ag r, .sl _ k] => (dFig r, k.map dI) | _ => (dFig [], [])) (ok := fun a => (a.2.length ≤ a.1.times.length ∧ a.1.times.length < 100000) ∧ (∀ x ∈ a.1.times, tame 1000000 x) ∧ ∀ x ∈ a.2, tame 10000000 x) (g := fun a => endF a.1.times a.2 a.2.length) (eb := V.i) fun a h => W28 a.1 a.2 h.1.1 h.1.2 h.2.1 h.2.2)
section
variable (f : Fig) (l : List Int) (n : Int)
theorem y18 : HA2 18 [.ag (eFig f)] = (True, eNE (Qe9 f)) := (show HA2 18 _ = fnG (fun f => [.ag (eFig f)]) decF (fun _ => True) Qe9 eNE [.ag (eFig f)] from rfl).trans (Qb1 _ (Qcw _))
theorem y22 : HA2 22 [.ag (eFig f)] = (True, eNE (Qco f)) := (show HA2 22 _ = fnG (fun f => [.ag (eFig f)]) decF (fun _ => True) Qco eNE [.ag (eFig f)] from rfl).trans (Qb1 _ (Qcw _))
theorem y26 : HA2 26 [.ag (eFig f)] = (True, eNE (Qmj f)) := (show HA2 26 _ = fnG (fun f => [.ag (eFig f)]) decF (fun _ => True) Qmj eNE [.ag (eFig f)] from rfl).trans (Qb1 _ (Qcw _))
theorem y19 : HA2 19 [.ag (eFig f)] = (True, eLE (badR f)) := (show HA2 19 _ = fnG (fun f => [.ag (eFig f)]) decF (fun _ => True) badR eLE [.ag (eFig f)] from rfl).trans (Qb1 _ (Qcw _))
theorem y49 : HA2 49 [] = (True, .ag (eFig exF)) := by
 refine (show HA2 49 [] = fnG (fun _ : Unit => []) (fun _ => ()) (fun _ => True) (fun a => a) (fun _ => .ag (eFig exF)) [] from rfl).trans ?_
 simp [fnG]
theorem y32 (k : List Int) : HA2 32 [.sl 1 (l.map eI), .sl 1 (k.map eI)] = (l.length < 10000000, .b (decide (l = k))) := z32 l k
end
theorem W17 : Qab Try.prog 17 [] (.b true) := by
 refine Qac Zcm hmix Try.func17 cb17 cc17 cs17 cn17 ?_
 have g1 := y49
 have g2 := y19 exF
 have g3 := y22 exF
 have g4 := y26 exF
 have g5 := y18 exF2
 have g6 := y32 [0, 3] [0, 3]
 rw [Zaf] at g2
 rw [Qu3] at g3
 rw [Qyk] at g4
 rw [Qvn] at g5
 simp only [eFig, exF, exF2, eLE, eNE, Qb, Qc, eI] at g1 g2 g3 g4 g5 g6
 have hc : Qd8 1 (V.i 0 :: V.i 3 :: X3 1 (X3 1 [[V.i 0], [V.i 0]].flatten)) 0 2 = [[V.i 0], [V.i 3]] := rfl
 simp only [rc17, rs17, g1, g2, g3, g4, g5, hc, g6, Qa7, Qa8, Qai, Qa4, putB, Qae, Qa5, Qa2, Fam.step, Qaf, Qbi, Qbz, Qb4, Qbq, ug, putB, nv, sv, evO, opv, qv, Qb2, binV, ldV, curG, Qaw, Qap, putAt, Qb7, Qb6, V.cells, Qas, Qb3, Qaa, Qa6, flat, Qcy, Qa3, Qat, Qa0, Qa1, ↓reduceIte, Nat.reduceEqDiff, Nat.reduceAdd, Nat.reduceMul, Nat.reduceLT, Nat.reduceLeDiff, Qb, Qc, Zg, Q5, Qh, Qf, Qj, Qv, Xe, Qk, Za, Q0, Qx, Qu, Qn, Qw, Zl, Qo, Zi, Qr, Zo, endQ, rvs, rv1, resV, vw_i, vw_b, Qay, Qaz, zipA, beq_self_eq_true, Qi, Q1, Q4, Xi, Ql, Qd, Xy, decide_true, and_self, forall_const, implies_true, reduceCtorEq, not_false_eq_true, ne_eq, imp_self]
 all_goals simp
noncomputable def HB : Gam := HA2.ext 17 (fnG (fun _ : Unit => []) (fun _ => ()) (fun _ => True) (fun a => a) (fun _ => .b true))
theorem okHB : GOk Try.prog HB := Zcm.ext (f := 17) (fun a w => Try.call17 a w) (Qau (e := fun _ : Unit => []) (d := fun _ => ()) (ok := fun _ => True) (g := fun a => a) (eb := fun _ => V.b true) fun _ _ => W17)
end Go.C02
