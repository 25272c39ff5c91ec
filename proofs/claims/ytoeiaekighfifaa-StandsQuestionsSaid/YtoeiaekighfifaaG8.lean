import Derived.Test.YtoeiaekighfifaaG7
import Derived.Test.YtoeiaekighfifaaG3
import Derived.Test.YtoeiaekighfifaaChecked
set_option linter.all false
open List renaming take_succ_cons → Qa, map_cons → Qc, length_cons → Qd, length_nil → Qe, getElem?_cons_zero → Qf, getElem?_cons_succ → Qg, map_nil → Qh, drop_zero → Qi, drop_succ_cons → Qj, append_nil → Qk, nil_append → Ql, take_nil → Qn, headD_cons → Qq, all_cons → Qs, set_cons_zero → Qt, cons_append → Qv, all_nil → Qx, getD_eq_getElem?_getD → Qy, take_zero → Qz, getElem?_nil → Q1, replicate_zero → Q2, drop_nil → Q5, contains_nil → Q6, all_eq_true → Q7, isEmpty_nil → Q9, exists_mem_of_ne_nil → Za, length_map → Zb, any_nil → Ze, set_cons_succ → Zf, flatten_cons → Zg, getElem?_eq_getElem → Zh, any_eq_true → Zi, take_append_drop → Zm, mem_of_getElem? → Zn, length_pos_iff → Zo, replicate_succ → Zp, contains_cons → Zt, isEmpty_cons → Zu, getElem?_map → Zw, flatten_nil → Zx
open Nat renaming zero_add → Qm, le_refl → Zy
open Bool renaming false_eq_true → Qb, or_false → Qo, and_self → Qp, not_true → Qr, and_true → Qw, not_false → Q0, true_eq_false → Q3, and_false → Q4, false_and → Zc, and_eq_true → Zd, false_or → Zq, true_and → Zr, eq_iff_iff → Zz
open Option renaming getD_some → Qu, getD_none → Q8, map_some → Z0
open Int renaming natCast_zero → Zj, natCast_add → Zk, natCast_one → Zl, natCast_nonneg → Zs, toNat_natCast → Zv
set_option linter.unusedSimpArgs false
set_option linter.unusedVariables false
namespace Go.C10
open Go.Fam Go.Proofs
variable {Γ : Gam}
theorem W61n (l : List (List Int)) (g : Int) (n : Nat) (h : OkL l g ∧ n ≤ 1000) : PureCall Try.prog 61 [.sl 1 (l.map eCan), .i g, .i (n : Int)] (.b (Qbz g n l)) := W61 n h.2 l g h.1
theorem W63n (l : List (List Int)) (g n x : Int) (h : OkL l g ∧ (1 ≤ n ∧ n ≤ 1000) ∧ 0 ≤ x ∧ x ≤ g - 1) : PureCall Try.prog 63 [.sl 1 (l.map eCan), .i g, .i n, .i x] (.b (Qei g (n - 1).toNat l x)) := by
 have := W63k (n - 1).toNat (by omega) (fun l g h => W61 _ (by omega) l g h) l g x h.1 (by omega)
 rwa [show (((n - 1).toNat : Nat) : Int) + 1 = n by omega] at this
def e61n (a : List (List Int) × Int × Nat) : List V := [.sl 1 (a.1.map eCan), .i a.2.1, .i (a.2.2 : Nat)]
def d61n : List V → List (List Int) × Int × Nat | [.sl _ x0, .i x1, .i x2] => (x0.map dCan, x1, x2.toNat) | _ => ([], 0, 0)
theorem Quc (a : List (List Int) × Int × Nat) : d61n (e61n a) = a := by simp [d61n, e61n, Function.comp_def, Qfh]
noncomputable def HR4 : Gam := HR3.ext 61 (fnG e61n d61n (fun a => (fun (l : List (List Int)) (g : Int) (n : Nat) => OkL l g ∧ n ≤ 1000) a.1 a.2.1 a.2.2) (fun a => (fun (l : List (List Int)) (g : Int) (n : Nat) => Qbz g n l) a.1 a.2.1 a.2.2) .b)
theorem Qxr : GOk Try.prog HR4 := Qqk.ext (f := 61) (fun a w => Try.call61 a w) (Qb0 (e := e61n) (d := d61n) (ok := (fun a => (fun (l : List (List Int)) (g : Int) (n : Nat) => OkL l g ∧ n ≤ 1000) a.1 a.2.1 a.2.2)) (g := (fun a => (fun (l : List (List Int)) (g : Int) (n : Nat) => Qbz g n l) a.1 a.2.1 a.2.2)) (eb := .b) fun a h => W61n a.1 a.2.1 a.2.2 h)
theorem h61n (l : List (List Int)) (g : Int) (n : Nat) : HR4 61 [.sl 1 (l.map eCan), .i g, .i (n : Nat)] = (OkL l g ∧ n ≤ 1000, .b (Qbz g n l)) :=
 (show HR4 61 _ = fnG e61n d61n (fun a => (fun (l : List (List Int)) (g : Int) (n : Nat) => OkL l g ∧ n ≤ 1000) a.1 a.2.1 a.2.2) (fun a => (fun (l : List (List Int)) (g : Int) (n : Nat) => Qbz g n l) a.1 a.2.1 a.2.2) .b (e61n (l, g, n)) from rfl).trans (Qb2 _ (Quc _))
def e63n (a : List (List Int) × Int × Int × Int) : List V := [.sl 1 (a.1.map eCan), .i a.2.1, .i a.2.2.1, .i a.2.2.2]
def d63n : List V → List (List Int) × Int × Int × Int | [.sl _ x0, .i x1, .i x2, .i x3] => (x0.map dCan, x1, x2, x3) | _ => ([], 0, 0, 0)
theorem Que (a : List (List Int) × Int × Int × Int) : d63n (e63n a) = a := by simp [d63n, e63n, Function.comp_def, Qfh]
noncomputable def HR5 : Gam := HR4.ext 63 (fnG e63n d63n (fun a => (fun (l : List (List Int)) (g : Int) (n : Int) (x : Int) => OkL l g ∧ (1 ≤ n ∧ n ≤ 1000) ∧ 0 ≤ x ∧ x ≤ g - 1) a.1 a.2.1 a.2.2.1 a.2.2.2) (fun a => (fun (l : List (List Int)) (g : Int) (n : Int) (x : Int) => Qei g (n - 1).toNat l x) a.1 a.2.1 a.2.2.1 a.2.2.2) .b)
theorem Qsi : GOk Try.prog HR5 := Qxr.ext (f := 63) (fun a w => Try.call63 a w) (Qb0 (e := e63n) (d := d63n) (ok := (fun a => (fun (l : List (List Int)) (g : Int) (n : Int) (x : Int) => OkL l g ∧ (1 ≤ n ∧ n ≤ 1000) ∧ 0 ≤ x ∧ x ≤ g - 1) a.1 a.2.1 a.2.2.1 a.2.2.2)) (g := (fun a => (fun (l : List (List Int)) (g : Int) (n : Int) (x : Int) => Qei g (n - 1).toNat l x) a.1 a.2.1 a.2.2.1 a.2.2.2)) (eb := .b) fun a h => W63n a.1 a.2.1 a.2.2.1 a.2.2.2 h)
theorem h63n (l : List (List Int)) (g : Int) (n : Int) (x : Int) : HR5 63 [.sl 1 (l.map eCan), .i g, .i n, .i x] = (OkL l g ∧ (1 ≤ n ∧ n ≤ 1000) ∧ 0 ≤ x ∧ x ≤ g - 1, .b (Qei g (n - 1).toNat l x)) :=
 (show HR5 63 _ = fnG e63n d63n (fun a => (fun (l : List (List Int)) (g : Int) (n : Int) (x : Int) => OkL l g ∧ (1 ≤ n ∧ n ≤ 1000) ∧ 0 ≤ x ∧ x ≤ g - 1) a.1 a.2.1 a.2.2.1 a.2.2.2) (fun a => (fun (l : List (List Int)) (g : Int) (n : Int) (x : Int) => Qei g (n - 1).toNat l x) a.1 a.2.1 a.2.2.1 a.2.2.2) .b (e63n (l, g, n, x)) from rfl).trans (Qb2 _ (Que _))
theorem Qlc (g : Int) (n : Nat) : Qbz g n [] = true := by cases n <;> simp [Qbz]
theorem Qq0 {l : List (List Int)} {x u : Int} (h : ∀ t ∈ l, atN t x = u) : Qbe l x u = l := by
 unfold Qbe
 rw [List.filter_eq_self]
 intro t ht
 rw [decide_eq_true_eq]
 exact h t ht
theorem Qer {m : Nat} : ∀ (n : Nat) (l : List (List Int)), Taks m l → l ≠ [] → (Qbz (m : Int) n l = canB n l)
 | 0, l, hT, hne => by
  rw [Zz, Qjo, Qbz, decide_eq_true_eq]
  have := Zo.2 hne
  omega
 | n + 1, l, hT, hne => by
  have hpos := Zo.2 hne
  by_cases h1 : l.length = 1
  ·rw [Qfp h1, Qbz, decide_eq_true (by omega), Bool.true_or]
  ·rw [Qbz, decide_eq_false (by omega), Zq, Zz]
   constructor
   ·rw [Zi]
    rintro ⟨x, hx, hall⟩
    rw [Qcl] at hx
    rw [Q7] at hall
    have hx' : ((x.toNat : Nat) : Int) = x := by omega
    cases hm : Qdm l x with
    | true =>
     refine Qh7 hT hne (i := x.toNat) (by omega) (by rw [hx']; exact hm) fun t ht => ?_
     rw [hx']
     have h2 := Qed (hT.tak t ht) (x := x) (by omega)
     have h3 := hall (atN t x) (Qcl.2 (by omega))
     rwa [Qer n _ (hT.where_ _ _) (List.ne_nil_of_mem (Qes.2 ⟨ht, rfl⟩))] at h3
    | false =>
     obtain ⟨t, ht⟩ := Za _ hne
     have h2 := Qed (hT.tak t ht) (x := x) (by omega)
     have h3 := hall (atN t x) (Qcl.2 (by omega))
     have h4 : Qbe l x (atN t x) = l := Qq0 fun t' ht' => Classical.byContradiction fun hab => by
      have := (Qlg hne).2 ⟨t', ht', t, ht, hab⟩
      rw [hm] at this; cases this
     rw [h4, Qer n l hT hne] at h3
     exact Qjm h3
   ·rw [Qjn h1, Zi, Zi, hT.head hne]
    rintro ⟨x, hx, h2⟩
    refine ⟨x, hx, ?_⟩
    rw [Zd, Q7] at h2
    rw [Q7]
    intro u hu
    by_cases hw : Qbe l x u = []
    ·rw [hw]; exact Qlc _ _
    ·rw [Qer n _ (hT.where_ _ _) hw]
     obtain ⟨t, ht⟩ := Za _ hw
     have ht' := Qes.1 ht
     have := h2.2 t ht'.1
     rwa [ht'.2] at this
theorem Qje {s : Stand} (hS : OkS s) : OkL (Qag s) s.guests := by
 have := Qdd hS
 have hg := hS.guests
 exact ⟨by omega, by omega, fun t ht => by have := (Qdx.1 ht).1.len; omega⟩
theorem Qha {s : Stand} (hS : OkS s) (hne : Qag s ≠ []) (n : Nat) : Qbz s.guests n (Qag s) = canB n (Qag s) := by
 have hg := hS.guests
 have := Qer n _ (Qc7 hS) hne
 rwa [show ((s.guests.toNat : Nat) : Int) = s.guests by omega] at this
theorem Qtv (s : Stand) (g : Int)  : HR5 60 [.ag (Qa4 s), .i g] = (Qaq s, ((fun r => .tp [.sl 1 (r.1.map eCan), .i r.2])) (Qci s g)) := h60 s g
theorem Qo8 (l : List (List Int)) (g : Int) (n : Nat)  : HR5 61 [.sl 1 (l.map eCan), .i g, .i (n : Nat)] = (OkL l g ∧ n ≤ 1000, .b (Qbz g n l)) := h61n l g n
theorem Qtw (s : Stand) (n : Int)  : HR5 62 [.ag (Qa4 s), .i n] = (True, .b (Qao s.guests n)) := h62 s n
theorem Qtx (s : Stand)  : HR5 64 [.ag (Qa4 s), .sl 1 []] = (OkS s, .sl 1 ((Qag s).map eCan)) := h64 s
theorem W31 (s : Stand) (h : Qaq s) : PureCall Try.prog 31 [.ag (Qa4 s)] (.tp [.i (Qbh s).1, .i (Qbh s).2.2]) := by
 refine Qaj Qsi hmix Try.func31 cb31 cc31 cs31 cn31 ?_
 have g1 := Qtv s (-1000000)
 rw [Qm1] at g1
 simp only [Qa4] at g1
 by_cases h0 : (Qbo s []).2 = 0
 ·obtain ⟨hc, _, hne, e1⟩ := Qic h0
  have hS := Qeu hc h
  have hT := Qc7 hS
  obtain ⟨q1, q2⟩ := Qcz hT hne
  have q3 := Qid hS hne
  have hL := Qje hS
  simp only [rc31, rs31, g1, h, h0, e1, Qaf, Qa9, Qa8, Qab, Qac, Qa5, Qad, Qa6, Qa2, Fam.step, Qae, evO, opv, qv, binV, ldV, Qan, V.cells, Qat, Qaa, Qa7, flat, Qcx, Qa1, Qa0, Qa3, ↓reduceIte, Nat.reduceEqDiff, Nat.reduceAdd, Nat.reduceLT, Nat.reduceLeDiff, Int.reduceNeg, Qc, Qh, Qd, Qe, Qa, Qn, Qk, Qf, Qg, Qu, vw_i, Qal, Qar, zipA, Qm, Qp, Qw, Qo, Qr, Qb, decide_true, true_and, and_self, imp_self, Qa4]
  refine Qc2 (Qc6 (Qag s)) (fun i => ⟨lkp [(1, .pa (Qa4 s)), (4, .sl 1 ((Qag s).map eCan)), (6, .i i)], []⟩) ?_ ?_ ?_
  ·simp only [Zj, kp, Qa0, Qa3, ↓reduceIte, Nat.reduceEqDiff, Qc, Qh, Qa4]
  ·intro i hi
   have hno : Qbz s.guests i (Qag s) = false := by
    rw [Qha hS hne]
    cases hs : canB i (Qag s) with
    | false => rfl
    | true => have := q2 i hs; omega
   have g2 := Qo8 (Qag s) s.guests i
   have hi1 : inI ((i : Int) + 1) := by unfold inI; omega
   have hi2 : i ≤ 1000 := by omega
   simp only [g2, hL, hi2, hno, hi1, Zk, Zl, Qaf, Qa9, Qa8, Qab, Qac, Qa5, Qad, Qai, Qa6, Qa2, Fam.step, Qae, evO, opv, qv, binV, ldV, Qan, Qaa, Qa7, flat, kp, Qa1, Qa0, Qa3, ↓reduceIte, Nat.reduceEqDiff, Nat.reduceAdd, Nat.reduceLT, Nat.reduceLeDiff, Qc, Qh, Qd, Qe, Qi, Qq, Qk, vw_i, Qal, Qm, Qo, Q0, Qb, and_self, implies_true, Qa4]
  ·have g2 := Qo8 (Qag s) s.guests (Qc6 (Qag s))
   have hi2 : Qc6 (Qag s) ≤ 1000 := by omega
   have hyes : Qbz s.guests (Qc6 (Qag s)) (Qag s) = true := by rw [Qha hS hne]; exact q1
   simp only [g2, hL, hi2, hyes, Qbh, h0, Qa9, Qa8, Qab, Qax, Qah, Qa5, Qad, Qai, Qa6, Qa2, Fam.step, Qae, evO, opv, qv, ldV, Qan, Qaa, Qa7, flat, Qa1, Qa0, Qa3, ↓reduceIte, Nat.reduceEqDiff, Nat.reduceAdd, Nat.reduceLT, Nat.reduceLeDiff, Int.reduceNeg, Qc, Qh, Qd, Qe, Qi, Qq, Qk, Q1, endQ, rvs, rv1, resV, vw_i, Qal, Qcg, Qm, Qo, Qr, Qb, and_self, implies_true, Qa4]
 ·simp only [rc31, rs31, g1, h, h0, Qbh, Qa9, Qa8, Qab, Qah, Qa5, Qad, Qa6, Qa2, Fam.step, Qae, evO, opv, qv, binV, ldV, Qan, V.cells, Qat, Qaa, Qa7, flat, Qcx, Qa1, Qa0, Qa3, ↓reduceIte, Nat.reduceEqDiff, Nat.reduceAdd, Nat.reduceLT, Nat.reduceLeDiff, Int.reduceNeg, Qc, Qh, Qd, Qe, Qa, Qn, Qk, Qf, Qg, Q1, Qu, endQ, rvs, rv1, resV, vw_i, Qal, Qar, Qcg, zipA, Qm, Qp, Qw, Qo, Q0, Qb, decide_false, and_self, imp_self, Qa4]
def Qd8 (s : Stand) (g n : Int) : Bool := Qao s.guests g && (decide (0 < n) && Qei s.guests (n - 1).toNat (Qag s) g)
theorem W34 (s : Stand) (g n : Int) (h : OkS s ∧ n ≤ 1000) : PureCall Try.prog 34 [.ag (Qa4 s), .i g, .i n] (.b (Qd8 s g n)) := by
 refine Qaj Qsi hmix Try.func34 cb34 cc34 cs34 cn34 ?_
 have g1 := Qtw s g
 have g2 := Qtx s
 have g3 := h63n (Qag s) s.guests n g
 simp only [Qa4] at g1 g2
 have hL := Qje h.1
 cases hg : Qao s.guests g with
 | false => simp only [rc34, rs34, g1, hg, Qd8, Qa9, Qbr, Qa8, Qah, Qa5, Qb9, Qad, Qa6, Qa2, Fam.step, Qae, Qaz, Qas, ug, runX, eff, Qb7, fpR, fpQ, fpV, Qc4, hits, evO, opv, qv, Qak, Qh1, binV, ldV, Qan, V.cells, Qat, Qaa, Qa7, flat, Qa1, Qa0, Qa3, ↓reduceIte, Nat.reduceEqDiff, Nat.reduceAdd, Nat.reduceLT, Nat.reduceLeDiff, Qc, Qh, Qs, Qx, Qd, Qe, Qi, Qa, Qn, Qq, Qv, Ql, Qk, Q1, Q8, Q2, Q9, endQ, rvs, rv1, resV, vw_i, vw_b, vw_z, Qal, Qar, zipA, Qm, Qp, Qw, Zc, Qo, Qr, Q0, Qb, true_and, and_true, and_self, false_and, forall_const, false_implies, implies_true, reduceCtorEq, Ze, Q6, beq_true, imp_self, Qy, Qa4]
 | true =>
  by_cases hn : 0 < n
  ·have hg' := hg
   simp only [Qao, Qbb, Zd, decide_eq_true_eq] at hg'
   have h5 : 1 ≤ n ∧ 0 ≤ g ∧ g ≤ s.guests - 1 := by omega
   simp only [rc34, rs34, g1, hg, Qd8, hn, g2, g3, h, hL, h5, Qa9, Qbr, Qa8, Qah, Qa5, Qb9, Qad, Qa6, Qa2, Fam.step, Qae, Qaz, Qas, ug, runX, eff, Qb7, fpR, fpQ, fpV, Qc4, hits, evO, opv, qv, Qak, binV, ldV, Qan, V.cells, Qat, Qaa, Qa7, flat, Qa1, Qa0, Qa3, ↓reduceIte, Nat.reduceEqDiff, Nat.reduceAdd, Nat.reduceLT, Nat.reduceLeDiff, Qc, Qh, Qs, Qx, Qd, Qe, Qi, Qa, Qn, Qq, Qv, Ql, Qk, Q1, Q8, Q2, Q9, endQ, rvs, rv1, resV, vw_i, vw_b, vw_z, Qal, Qar, zipA, beq_self_eq_true, Qm, Qp, Qw, Zr, Zc, Qo, Qr, Q0, Qb, Q3, decide_true, and_self, forall_const, implies_true, reduceCtorEq, Ze, Q6, imp_self, Qy, Qa4]
  ·simp only [rc34, rs34, g1, hg, Qd8, hn, Qa9, Qbr, Qa8, Qah, Qa5, Qb9, Qad, Qa6, Qa2, Fam.step, Qae, Qaz, Qas, ug, runX, eff, Qb7, fpR, fpQ, fpV, Qc4, hits, evO, opv, qv, Qak, Qh1, binV, ldV, Qan, V.cells, Qat, Qaa, Qa7, flat, Qa1, Qa0, Qa3, ↓reduceIte, Nat.reduceEqDiff, Nat.reduceAdd, Nat.reduceLT, Nat.reduceLeDiff, Qc, Qh, Qs, Qx, Qd, Qe, Qi, Qa, Qn, Qq, Qv, Ql, Qk, Q1, Q8, Q2, Q9, endQ, rvs, rv1, resV, vw_i, vw_b, vw_z, Qal, Qar, zipA, beq_self_eq_true, Qm, Qp, Qw, Zc, Q4, Qo, Qr, Q0, Qb, Q3, decide_false, true_and, and_true, and_self, false_and, forall_const, false_implies, implies_true, reduceCtorEq, Ze, Q6, beq_true, imp_self, Qy, Qa4]
def e31 (a : Stand) : List V := [.ag (Qa4 a)]
def d31 : List V → Stand | [.ag x0] => (Qaw x0) | _ => (Qaw [])
theorem Qwk (a : Stand) : d31 (e31 a) = a := by simp [d31, e31, Qb4]
noncomputable def HR6 : Gam := HR5.ext 31 (fnG e31 d31 (fun a => (fun (s : Stand) => Qaq s) a) (fun a => (fun (s : Stand) => Qbh s) a) (fun r => .tp [.i r.1, .i r.2.2]))
theorem Qxs : GOk Try.prog HR6 := Qsi.ext (f := 31) (fun a w => Try.call31 a w) (Qb0 (e := e31) (d := d31) (ok := (fun a => (fun (s : Stand) => Qaq s) a)) (g := (fun a => (fun (s : Stand) => Qbh s) a)) (eb := (fun r => .tp [.i r.1, .i r.2.2])) fun a h => W31 a h)
theorem h31 (s : Stand) : HR6 31 [.ag (Qa4 s)] = (Qaq s, ((fun r => .tp [.i r.1, .i r.2.2])) (Qbh s)) :=
 (show HR6 31 _ = fnG e31 d31 (fun a => (fun (s : Stand) => Qaq s) a) (fun a => (fun (s : Stand) => Qbh s) a) (fun r => .tp [.i r.1, .i r.2.2]) (e31 (s)) from rfl).trans (Qb2 _ (Qwk _))
def e34 (a : Stand × Int × Int) : List V := [.ag (Qa4 a.1), .i a.2.1, .i a.2.2]
def d34 : List V → Stand × Int × Int | [.ag x0, .i x1, .i x2] => (Qaw x0, x1, x2) | _ => (Qaw [], 0, 0)
theorem Qwn (a : Stand × Int × Int) : d34 (e34 a) = a := by simp [d34, e34, Qb4]
noncomputable def HR7 : Gam := HR6.ext 34 (fnG e34 d34 (fun a => (fun (s : Stand) (g : Int) (n : Int) => OkS s ∧ n ≤ 1000) a.1 a.2.1 a.2.2) (fun a => (fun (s : Stand) (g : Int) (n : Int) => Qd8 s g n) a.1 a.2.1 a.2.2) .b)
theorem Qsj : GOk Try.prog HR7 := Qxs.ext (f := 34) (fun a w => Try.call34 a w) (Qb0 (e := e34) (d := d34) (ok := (fun a => (fun (s : Stand) (g : Int) (n : Int) => OkS s ∧ n ≤ 1000) a.1 a.2.1 a.2.2)) (g := (fun a => (fun (s : Stand) (g : Int) (n : Int) => Qd8 s g n) a.1 a.2.1 a.2.2)) (eb := .b) fun a h => W34 a.1 a.2.1 a.2.2 h)
theorem h34 (s : Stand) (g : Int) (n : Int) : HR7 34 [.ag (Qa4 s), .i g, .i n] = (OkS s ∧ n ≤ 1000, .b (Qd8 s g n)) :=
 (show HR7 34 _ = fnG e34 d34 (fun a => (fun (s : Stand) (g : Int) (n : Int) => OkS s ∧ n ≤ 1000) a.1 a.2.1 a.2.2) (fun a => (fun (s : Stand) (g : Int) (n : Int) => Qd8 s g n) a.1 a.2.1 a.2.2) .b (e34 (s, g, n)) from rfl).trans (Qb2 _ (Qwn _))
end Go.C10
set_option linter.unusedSimpArgs false
set_option linter.unusedVariables false
namespace Go.C10
open Go.Fam Go.Proofs
variable {Γ : Gam}
def okC (s : Stand) : Prop := s.words.length ≤ 1000000 ∧ Qaq s
theorem Qik : ∀ ws : List Word, Qa7 (ws.map eWord).flatten = false
 | [] => rfl
 | w :: ws => by rw [Qc, Zg, Qbi, Qik ws]; rfl
theorem Qus (ws : List Word) : (ws.map eWord).flatten.length = ws.length * 4 := Qhp (e := eWord) (k := 4) (fun _ => rfl) ws
theorem Qrr (ws : List Word) : Qca 4 (ws.map eWord).flatten 0 ws.length = ws.map eWord := Qf1 (e := eWord) (k := 4) (fun _ => rfl) ws
theorem vw_W (hp : List Blk) (n : Nat) (ws : List Word) : (ws.map eWord).map (fun r => r.map (vw hp (n + 1))) = ws.map eWord := Qfw (e := eWord) hp (n + 1) (fun _ => rfl) ws
theorem Qkz : ∀ (ws : List Word) (i : Nat) (w : Word), ws[i]? = some w → (ws.map eWord).flatten[i * 4 + 3]? = some (.sl 1 (w.among.map eI))
 | [], i, w, h => by cases h
 | a :: ws, 0, w, h => by cases h; rfl
 | a :: ws, i + 1, w, h => by
  rw [Qc, Zg, List.getElem?_append_right (by show 4 ≤ _; omega)]
  rw [show (i + 1) * 4 + 3 - (eWord a).length = i * 4 + 3 from by show (i + 1) * 4 + 3 - 4 = _; omega]
  exact Qkz ws i w (by simpa using h)
theorem Qqs {α : Type} {l : List α} {k : Nat} {x : α} (h : l[k]? = some x) : l.take k ++ [x] ++ l.drop (k + 1) = l := by
 obtain ⟨hk, rfl⟩ := List.getElem?_eq_some_iff.1 h
 rw [List.append_assoc, List.singleton_append, ← List.drop_eq_getElem_cons hk, Zm]
theorem Qjq (hp : List Blk) (n : Nat) : ∀ (a b : List V), cutL hp n (a ++ b) = cutL hp n a ++ cutL hp n b
 | [], b => rfl
 | v :: a, b => by simp only [Qv, cutL, Qjq hp n a b]
theorem Qjc {l : List V} (h : Qa7 l = false) (k : Nat) : Qa7 (l.take k) = false ∧ Qa7 (l.drop k) = false := by
 have := h
 rw [← Zm k l, Qbi, Bool.or_eq_false_iff] at this
 exact this
theorem Qw5 (n : Nat) : ∀ l : List Int, upL n (l.map eI).flatten = (l.map eI).flatten
 | [] => rfl
 | a :: l => by
  have := Qw5 n l
  simp only [Qc, Zg, eI, Qv, Ql, upL, upV] at this ⊢
  rw [this]
theorem Qrt {hp : List Blk} {n i : Nat} {ws : List Word} {w : Word} {v : V} (hw : ws[i]? = some w) (hv : cutV hp n v = .sl 1 (w.among.map eI)) :
  cutL hp n ((ws.map eWord).flatten.take (i * 4 + 3) ++ [v] ++ (ws.map eWord).flatten.drop (i * 4 + 3 + 1)) = (ws.map eWord).flatten := by
 have h1 := Qjc (Qik ws) (i * 4 + 3)
 have h2 := Qjc (Qik ws) (i * 4 + 3 + 1)
 rw [Qjq, Qjq, Qap _ _ _ h1.1, Qap _ _ _ h2.2]
 have e : cutL hp n [v] = [.sl 1 (w.among.map eI)] := by simp only [cutL, hv]
 rw [e]
 exact Qqs (Qkz ws i w hw)
theorem W30 (s : Stand) (h : okC s) : PureCall Try.prog 30 [.ag (Qa4 s)] (.ag (Qa4 s)) := by
 refine Qaj Qsj hmix Try.func30 cb30 cc30 cs30 cn30 ?_
 obtain ⟨hl, hs⟩ := h
 have hfl : Qav s.words.length := by unfold Qav; omega
 have hfl0 : Qav (0 + s.words.length) := by unfold Qav; omega
 simp only [rc30, rs30, Zx, Ql, hfl, Zy, Qa9, Qa8, Qac, Qa5, putB, Qad, Qa6, Qa2, Fam.step, Qae, Qcf, Qb6, putB, nv, sv, Qcd, evO, opv, qv, ldV, curG, Qau, putAt, Qbc, Qb5, V.cells, Qat, Qbn, Qaa, Qa7, Qa1, Qbs, Qa0, Qa3, ↓reduceIte, Nat.reduceEqDiff, Nat.reduceAdd, Nat.reduceMul, Nat.reduceLeDiff, Qc, Qh, Qs, Qx, Qd, Qe, Qj, Qi, Q5, Qa, Qz, Qn, Qq, Qv, Ql, Qk, Qf, Qg, Qt, Zf, Q2, vw_i, Qal, Qar, zipA, beq_self_eq_true, Qm, Qp, Qo, Qb, true_and, and_self, Zb, Qa4]
 refine Qc2 s.words.length (fun i => ⟨lkp [(1, .pa (Qa4 s)), (2, .ad 0 0 0), (3, .ad 1 0 0), (4, .i i)], [.cells 0 [.i 0, .z 4, .i 0], .cells 0 [.i s.guests, .rf 2 1 0 s.words.length 4, .i s.wrong], .cells 1 (s.words.map eWord).flatten]⟩) ?_ ?_ ?_
 ·simp only [Zj, Qap _ _ _ (Qik _), cutH, kp, cutV, cutL, cutB, Qa0, Qa3, ↓reduceIte, Nat.reduceEqDiff, Nat.reduceLT, Qc, Qh, Qa, Qn, Qa4]
 ·intro i hi
  obtain ⟨w, hw⟩ : ∃ w, s.words[i]? = some w := ⟨_, Zh hi⟩
  have hlt : (i : Int) < s.words.length := by omega
  have h4 : inI ((i : Int) + 1) := by unfold inI; omega
  have h5 := hs w (Zn hw)
  have f1 : Qav w.among.length := by unfold Qav; omega
  simp only [hw, hlt, h4, f1, Zk, Zl, Zx, Ql, Qaf, Qa9, Qbr, Qa8, Qab, Qac, Qa5, Qcr, ↓Qc3, Qb9, optL, cutH, Qad, Qai, Qa6, Qa2, Fam.step, Qae, Qb6, runX, eff, Qb7, fpR, fpQ, fpV, Qc4, hits, nv, sv, Qcd, evO, opv, qv, binV, ldV, iadV, lenV, curG, Qau, putAt, Qbc, Qb5, V.cells, Qat, Qbn, kp, cutV, cutL, cutB, Qa1, Qbs, Qa0, Qa3, ↓reduceIte, Nat.reduceEqDiff, Nat.reduceAdd, Nat.reduceMul, Nat.reduceLT, Nat.reduceLeDiff, Nat.reduceBEq, Qc, Qh, Qs, Qx, Qd, Qe, Qj, Qi, Qa, Qz, Qn, Qq, Qv, Ql, Qf, Qg, Q1, Qu, Q8, Qt, Zf, Q2, Zp, Q9, Zu, Qe0, Zs, beq_self_eq_true, Qm, Nat.add_zero, Qp, Qw, Zr, Zc, Q4, Qo, Zq, Qr, Q0, Qb, decide_true, true_and, and_true, and_self, Z0, List.any_cons, Ze, Zt, Q6, Zb, Zv, Qy, Zw, eWord, Qa4]
  have hm : i * 4 + 3 + 1 ≤ s.words.length * 4 := by omega
  have hv : ∀ (g1 g2 g3 : Nat) (a b c : List V), cutV [.cells g1 a, .cells g2 b, .cells g3 c, .cells 1 (w.among.map eI).flatten, .hole] 3 (.rf 3 1 0 w.among.length 1) = .sl 1 (w.among.map eI) := fun g1 g2 g3 a b c => by
   have := Qfq w.among
   have hu := Qw5 3 w.among
   simp only [Qgz, Nat.mul_one, Zy, this, vw_I, hpF, upB, Qa, Qz, Qj, Qi, hu, cutV, ↓reduceIte, Nat.reduceLT, Qc, Qh, Qj, Qi, Qa, Qz, Qv, Ql, Qf, Qg, Qe0, Qm, and_self]
  simp only [Qus, hm, true_and]
  rw [Qrt hw (hv _ _ _ _ _ _), Qap _ _ _ (Qik _)]
 ·have h77 : ¬ ((s.words.length : Int) < s.words.length) := by omega
  simp only [h77, Zy, Qus, Qrr, vw_W, Qa9, Qa8, Qab, Qax, Qah, Qa5, putB, Qad, Qai, Qa6, Qa2, Fam.step, Qae, Qcf, Qb6, putB, nv, sv, evO, opv, qv, binV, ldV, lenV, curG, putAt, V.cells, Qat, Qbn, Qa1, Qbs, Qa0, Qa3, ↓reduceIte, Nat.reduceEqDiff, Nat.reduceAdd, Nat.reduceLeDiff, Qc, Qh, Qs, Qx, Qd, Qe, Qj, Qi, Q5, Qa, Qz, Qn, Qq, Ql, Qk, Qf, Qg, Qt, endQ, rvs, rv1, resV, vw_i, Qar, Qe0, beq_self_eq_true, Qm, Qp, Qb, decide_false, and_self, Qa4]
theorem Qty (l : List Int) (m : List Int)  : HR7 28 [.sl 1 (l.map eI), .sl 1 (m.map eI)] = (l.length ≤ 1000000, .b (decide (l = m))) := h28 l m
theorem W33 (s : Stand) (h : okC s) : PureCall Try.prog 33 [.ag (Qa4 s), .ag (Qa4 s)] (.b true) := by
 refine Qaj Qsj hmix Try.func33 cb33 cc33 cs33 cn33 ?_
 obtain ⟨hl, hs⟩ := h
 simp only [rc33, rs33, Qaf, Qa9, Qa8, Qab, Qac, Qa5, Qad, Qa6, Qa2, Fam.step, Qae, Qaz, Qas, ug, evO, opv, qv, Qak, binV, ldV, lenV, V.cells, Qat, Qaa, Qa7, Qa1, Qa0, Qa3, ↓reduceIte, Nat.reduceEqDiff, Nat.reduceAdd, Nat.reduceLeDiff, Qc, Qh, Qs, Qx, Qd, Qe, Qj, Qi, Qq, vw_i, Qal, Qar, zipA, beq_self_eq_true, Qm, Qp, Qo, Qr, Qb, decide_true, true_and, and_self, forall_const, implies_true, reduceCtorEq, Zb, Qa4]
 refine Qc2 s.words.length (fun i => ⟨lkp [(2, .pa (Qa4 s)), (3, .pa (Qa4 s)), (5, .i i)], []⟩) ?_ ?_ ?_
 ·simp only [Zj, cutH, kp, cutV, Qa0, Qa3, ↓reduceIte, Nat.reduceEqDiff, Qc, Qh, Qn, Qa4]
 ·intro i hi
  obtain ⟨w, hw⟩ : ∃ w, s.words[i]? = some w := ⟨_, Zh hi⟩
  have hlt : (i : Int) < s.words.length := by omega
  have h4 : inI ((i : Int) + 1) := by unfold inI; omega
  have g1 := Qty w.among w.among
  have h5 := hs w (Zn hw)
  simp only [hw, hlt, h4, g1, h5, Zk, Zl, Qaf, Qa9, Qbr, Qa8, Qab, Qac, Qa5, Qcr, ↓Qc3, Qb9, optL, cutH, Qad, Qai, Qa6, Qa2, Fam.step, Qae, Qaz, Qb6, Qas, ug, runX, eff, Qb7, fpR, fpQ, fpV, Qc4, hits, nv, sv, evO, opv, qv, Qak, binV, ldV, iadV, lenV, curG, Qan, putAt, V.cells, Qat, Qbn, Qaa, Qa7, flat, kp, cutV, Qa1, Qbs, Qa0, Qa3, ↓reduceIte, Nat.reduceEqDiff, Nat.reduceAdd, Nat.reduceLT, Nat.reduceLeDiff, Nat.reduceBEq, Qc, Qh, Qs, Qx, Qd, Qe, Qj, Qi, Q5, Qa, Qz, Qn, Qq, Qv, Ql, Qk, Qf, Qg, Q1, Qu, Q8, Qt, Zf, Q2, Zp, Q9, Zu, Qal, Zs, beq_self_eq_true, Qm, Nat.add_zero, Qp, Qw, Zr, Zc, Q4, Qo, Zq, Qr, Q0, Qb, decide_true, and_self, forall_const, implies_true, Z0, List.any_cons, Ze, Zt, Q6, Zb, Zv, Qy, Zw, eWord, Qa4]
 ·have h77 : ¬ ((s.words.length : Int) < s.words.length) := by omega
  simp only [h77, Qa9, Qa8, Qab, Qax, Qah, Qa5, Qad, Qai, Qa6, Qa2, Fam.step, Qae, evO, opv, qv, binV, ldV, lenV, Qa1, Qa0, Qa3, ↓reduceIte, Nat.reduceEqDiff, Nat.reduceAdd, Nat.reduceLeDiff, Qc, Qh, Qd, Qe, Qj, Qi, Qq, endQ, rvs, rv1, resV, vw_b, Qm, Qb, decide_false, and_self, Zb, Qa4]
end Go.C10
set_option maxRecDepth 8000
namespace Go.C10
open Go.Fam Go.Proofs
def rc7 : RC := (.seq (.reg false [(cX 1 0), (cQ 2 [] (.mv (kB false)))]) (.keep [1] (.seq (.seq (.reg false [(cLd 10 1 true 3), (cQ 11 [10] (.call (kF 29) [(.t 10)]))]) (.keep [1,11] (.cond (.t 11) (.seq (.reg false [(cQ 12 [] (.call (kF 15) [])), (cMv 2 12)]) .ret) .skip))) (.keep [1] (.seq (.reg false [(cLd 13 1 true 3), (cQ 14 [13] (.call (kF 30) [(.t 13)])), ⟨(some 3), none, [], none, .w (.alc [(.i 0), (.z 4), (.i 0)])⟩, ⟨none, none, [3,14], none, .w (.st 3 (.t 3) (.t 14))⟩]) (.keep [1,3] (.seq (.reg false [(cLd 16 3 true 3), (cQ 17 [16] (.call (kF 17) [(.t 16)])), (cMv 15 17), (cEx 18 15 0), (cEx 19 15 1), (cMv 4 18), (cMv 5 19)]) (.keep [1,3,4,5] (.seq (.reg false [(cLd 21 1 true 3), (cQ 22 [21] (.call (kF 31) [(.t 21)])), (cMv 20 22), (cEx 23 20 0), (cEx 24 20 1), (cMv 6 23), (cMv 7 24)]) (.keep [1,3,4,5,6,7] (.seq (.reg false [(cLd 26 3 true 3), (cQ 27 [26] (.call (kF 32) [(.t 26)])), (cMv 25 27), (cEx 28 25 0), (cEx 29 25 1), (cMv 8 28), (cMv 9 29)]) (.keep [1,3,4,5,6,7,8,9] (.seq (.seq (.reg true [(cMv 30 4), (cMv 31 6), (cB 32 .neq 30 31), (cMv 33 32), (gMv 34 33 false 5), (gMv 35 33 false 7), (gQ 36 33 false [34,35] (.bin .neq (.t 34) (.t 35))), (cQ 37 [33,36] (.pick (.t 33) (kB true) (.t 36))), (cMv 38 37), (gMv 39 38 false 9), (gMv 40 38 false 7), (gQ 41 38 false [39,40] (.bin .neq (.t 39) (.t 40))), (cQ 42 [38,41] (.pick (.t 38) (kB true) (.t 41))), (cMv 43 42), (gQ 44 43 false [3] (.ld true 3 (.t 3))), (gQ 45 43 false [1] (.ld true 3 (.t 1))), (gQ 46 43 false [44,45] (.call (kF 33) [(.t 44), (.t 45)])), (gQ 47 43 false [46] (.not (.t 46))), (cQ 48 [43,47] (.pick (.t 43) (kB true) (.t 47)))]) (.keep [1,6,7,8,48] (.cond (.t 48) (.seq (.reg false [(cQ 2 [] (.mv (kB false)))]) .ret) .skip))) (.keep [1,6,7,8] (.seq (.block 0 (.seq (.reg false [(cMv 50 7), (cC 51 .neq 50 0), (cMv 49 51)]) (.keep [1,6,8,49] (.cond (.t 49) (.seq (.reg true [(cMv 52 8), (cC 53 .eql 52 0), (cMv 54 53), (gQ 55 54 true [] (.call (kF 15) [])), (cQ 56 [54,55] (.pick (.t 54) (.t 55) (kB false))), (cMv 2 56)]) .ret) (.seq (.reg false [(cMv 58 6), (cC 59 .eql 58 0), (cMv 57 59)]) (.keep [1,6,8,57] (.cond (.t 57) (.seq (.reg true [(cMv 60 8), (cQ 61 [60] (.bin .eql (.t 60) (.k (.i (-1))))), (cMv 62 61), (gQ 63 62 true [] (.call (kF 15) [])), (cQ 64 [62,63] (.pick (.t 62) (.t 63) (kB false))), (cMv 2 64)]) .ret) .skip))))))) (.keep [1,6,8] (.seq (.reg true [(cLd 65 1 true 3), (cMv 66 8), (cMv 67 6), (cQ 68 [65,66,67] (.call (kF 34) [(.t 65), (.t 66), (.t 67)])), (cMv 69 68), (gQ 70 69 true [] (.call (kF 15) [])), (cQ 71 [69,70] (.pick (.t 69) (.t 70) (kB false))), (cMv 2 71)]) .ret)))))))))))))))))
def pu7 : List Nat := [1]
def rs7 : List RV := [.t 2]
theorem cc7 : CCx Try.prog Try.f7 pu7 rc7 := by unfold CCx; kernel_rfl
theorem cb7 : CBx Try.f7 := by unfold CBx; kernel_rfl
theorem cs7 : CSx Try.prog Try.f7 rs7 := by unfold CSx; kernel_rfl
theorem cn7 : 1 ≤ Try.f7.ntmps := by decide
end Go.C10
set_option linter.unusedSimpArgs false
set_option linter.unusedVariables false
namespace Go.C10
open Go.Fam Go.Proofs
variable {Γ : Gam}
def e30 (a : Stand) : List V := [.ag (Qa4 a)]
def d30 : List V → Stand | [.ag x0] => (Qaw x0) | _ => (Qaw [])
theorem Qwj (a : Stand) : d30 (e30 a) = a := by simp [d30, e30, Qb4]
noncomputable def HX1 : Gam := HR7.ext 30 (fnG e30 d30 (fun a => (fun (s : Stand) => okC s) a) (fun a => (fun (s : Stand) => s) a) (fun s => .ag (Qa4 s)))
theorem Qxt : GOk Try.prog HX1 := Qsj.ext (f := 30) (fun a w => Try.call30 a w) (Qb0 (e := e30) (d := d30) (ok := (fun a => (fun (s : Stand) => okC s) a)) (g := (fun a => (fun (s : Stand) => s) a)) (eb := (fun s => .ag (Qa4 s))) fun a h => W30 a h)
theorem h30 (s : Stand) : HX1 30 [.ag (Qa4 s)] = (okC s, ((fun s => .ag (Qa4 s))) (s)) :=
 (show HX1 30 _ = fnG e30 d30 (fun a => (fun (s : Stand) => okC s) a) (fun a => (fun (s : Stand) => s) a) (fun s => .ag (Qa4 s)) (e30 (s)) from rfl).trans (Qb2 _ (Qwj _))
def e33 (s : Stand) : List V := [.ag (Qa4 s), .ag (Qa4 s)]
def d33 : List V → Stand | [.ag s, _] => Qaw s | _ => Qaw []
theorem Qwm (s : Stand) : d33 (e33 s) = s := by simp [d33, e33, Qb4]
noncomputable def HX2 : Gam := HX1.ext 33 (fnG e33 d33 okC (fun _ => true) .b)
theorem Qxu : GOk Try.prog HX2 := Qxt.ext (f := 33) (fun a w => Try.call33 a w) (Qb0 (e := e33) (d := d33) (ok := okC) (g := fun _ => true) (eb := .b) fun s h => W33 s h)
theorem h33 (s : Stand) : HX2 33 [.ag (Qa4 s), .ag (Qa4 s)] = (okC s, .b true) :=
 (show HX2 33 _ = fnG e33 d33 okC (fun _ => true) .b (e33 s) from rfl).trans (Qb2 _ (Qwm _))
theorem Qu6 {s : Stand} (hS : OkS s) (ht : Qag s ≠ []) (h0 : Qc6 (Qag s) ≠ 0) : Qd8 s ((askN (Qc6 (Qag s)) (Qag s)).getD (-1)) (Qc6 (Qag s)) = true := by
 have hg := hS.guests
 have hT := Qc7 hS
 obtain ⟨q1, q2⟩ := Qcz hT ht
 have h1 : ¬ (Qag s).length = 1 := fun e => by have := q2 0 (Qfp e); omega
 obtain ⟨n, hn⟩ : ∃ n, Qc6 (Qag s) = n + 1 := ⟨Qc6 (Qag s) - 1, by omega⟩
 rw [hn] at q1 ⊢
 unfold canB at q1
 rw [askN, if_neg h1] at q1 ⊢
 obtain ⟨A, hA⟩ := Option.isSome_iff_exists.1 q1
 rw [hA, Qu]
 have hp := List.find?_some hA
 have hm := List.mem_of_find?_eq_some hA
 rw [Qcl, hT.head ht] at hm
 rw [Zd, Q7] at hp
 unfold Qd8 Qao Qbb
 rw [show (((n + 1 : Nat) : Int) - 1).toNat = n by omega]
 simp only [Zd, decide_eq_true_eq]
 refine ⟨by omega, by omega, ?_⟩
 unfold Qei
 rw [Q7]
 intro u hu
 by_cases hw : Qbe (Qag s) A u = []
 ·rw [hw]; exact Qlc _ _
 ·have := Qer n _ (hT.where_ A u) hw
  rw [show ((s.guests.toNat : Nat) : Int) = s.guests by omega] at this
  rw [this]
  obtain ⟨t, ht'⟩ := Za _ hw
  have h3 := Qes.1 ht'
  have := hp.2 t h3.1
  rw [h3.2] at this
  exact this
theorem Qw7 {s : Stand} (hS : OkS s) (ht : Qag s ≠ []) (h0 : Qc6 (Qag s) = 0) : (askN (Qc6 (Qag s)) (Qag s)).getD (-1) = -1 := by
 have q1 := (Qcz (Qc7 hS) ht).1
 rw [h0] at q1 ⊢
 have := Qjo.1 q1
 unfold askN
 rw [if_pos this]
 rfl
theorem Qu0 (s : Stand)  : HX2 29 [.ag (Qa4 s)] = (True, .b (Qg3 s)) := h29 s
theorem Qtz (s : Stand)  : HX2 17 [.ag (Qa4 s)] = (Qaq s, ((fun r => .tp [.i r.1, .i r.2.2])) (Qbh s)) := h17 s
theorem Qu3 (s : Stand)  : HX2 32 [.ag (Qa4 s)] = (Qaq s, ((fun r => .tp [.i r.2.1, .i r.2.2])) (Qbh s)) := h32 s
theorem Qu2 (s : Stand)  : HX2 31 [.ag (Qa4 s)] = (Qaq s, ((fun r => .tp [.i r.1, .i r.2.2])) (Qbh s)) := h31 s
theorem Qu4 (s : Stand) (g : Int) (n : Int)  : HX2 34 [.ag (Qa4 s), .i g, .i n] = (OkS s ∧ n ≤ 1000, .b (Qd8 s g n)) := h34 s g n
theorem Qu1 (s : Stand)  : HX2 30 [.ag (Qa4 s)] = (okC s, ((fun s => .ag (Qa4 s))) (s)) := h30 s
theorem h15X : HX2 15 [] = (True, .b true) := (show HX2 15 [] = HN10 15 [] from rfl).trans h15
set_option maxHeartbeats 4000000 in
theorem P7 (s : Stand) : PureCall Try.prog 7 [.ag (Qa4 s)] (.b true) := by
 refine Qaj Qxu hmix Try.func7 cb7 cc7 cs7 cn7 ?_
 have g1 := Qu0 s
 have g2 := Qtz s
 have g3 := Qu3 s
 have g4 := Qu2 s
 have g5 := h33 s
 have g6 := Qu1 s
 simp only [Qa4] at g1 g2 g3 g4 g5 g6
 by_cases hf : Qg3 s = true
 ·simp only [rc7, rs7, g1, hf, h15X, Qa9, Qa8, Qab, Qah, Qa5, Qad, Qa6, Qa2, Fam.step, Qae, evO, opv, qv, ldV, Qan, V.cells, Qat, Qaa, Qa7, flat, Qa1, Qa0, Qa3, ↓reduceIte, Nat.reduceEqDiff, Nat.reduceAdd, Nat.reduceLT, Nat.reduceLeDiff, Int.reduceNeg, Qc, Qh, Qd, Qe, Qa, Qn, Qk, endQ, rvs, rv1, resV, vw_i, vw_b, Qal, Qar, zipA, Qm, Qo, Qb, and_self, implies_true, Qa4]
 have hf' : Qg3 s = false := by simpa using hf
 have hlg := Qhv (Qjv (Qml hf'))
 have hC : okC s := ⟨by omega, hlg.1⟩
 have hs := hlg.1
 by_cases hc : Qb1 s = 0
 ·have hS := Qeu hc hs
  have hgs := hS.guests
  by_cases ht : Qag s = []
  ·have hq := Qnz hc ht
   simp only [hq] at g2 g3 g4
   simp only [rc7, rs7, g1, g2, g3, g4, g5, g6, hf, hs, hC, h15X, Qaf, Qa9, Qa8, Qab, Qac, Qah, Qa5, putB, Qad, Qai, Qa6, Qa2, Fam.step, Qae, Qcf, Qaz, Qb6, Qas, ug, putB, nv, sv, evO, opv, qv, Qak, binV, ldV, Qan, putAt, V.cells, Qat, Qbn, Qaa, Qa7, flat, Qcx, Qa1, Qbs, Qa0, Qa3, ↓reduceIte, Nat.reduceEqDiff, Nat.reduceAdd, Nat.reduceLT, Nat.reduceLeDiff, Int.reduceNeg, Int.reduceEq, Qc, Qh, Qs, Qx, Qd, Qe, Qj, Qi, Q5, Qa, Qz, Qn, Ql, Qk, Qf, Qg, Qu, Qt, endQ, rvs, rv1, resV, vw_i, vw_b, Qal, Qar, zipA, beq_self_eq_true, Qm, Qp, Qw, Q4, Qo, Qr, Q0, Qb, Q3, decide_true, decide_false, and_self, forall_const, implies_true, imp_self, Qa4]
  ·have hq := Qo0 hc ht
   obtain ⟨Q, hQ⟩ : ∃ Q : Int, Q = (Qc6 (Qag s) : Int) := ⟨_, rfl⟩
   obtain ⟨A, hA⟩ : ∃ A : Int, A = (askN (Qc6 (Qag s)) (Qag s)).getD (-1) := ⟨_, rfl⟩
   have h6 := Qid hS ht
   have a0 := Qw7 hS ht
   have a1 := Qu6 hS ht
   rw [← hA] at a0
   rw [← hA, ← hQ] at a1
   rw [← hQ, ← hA] at hq
   simp only [hq] at g2 g3 g4
   have g7 := Qu4 s A Q
   simp only [Qa4] at g7
   have hQ6 : Q ≤ 1000 := by omega
   by_cases e : Q = 0
   ·have a2 := a0 (by omega)
    simp only [rc7, rs7, g1, g2, g3, g4, g5, g6, hf, hs, hC, h15X, e, a2, Qaf, Qa9, Qa8, Qab, Qac, Qah, Qa5, putB, Qad, Qai, Qa6, Qa2, Fam.step, Qae, Qcf, Qaz, Qb6, Qas, ug, putB, nv, sv, evO, opv, qv, Qak, binV, ldV, Qan, putAt, V.cells, Qat, Qbn, Qaa, Qa7, flat, Qcx, Qa1, Qbs, Qa0, Qa3, ↓reduceIte, Nat.reduceEqDiff, Nat.reduceAdd, Nat.reduceLT, Nat.reduceLeDiff, Int.reduceNeg, Qc, Qh, Qs, Qx, Qd, Qe, Qj, Qi, Q5, Qa, Qz, Qn, Ql, Qk, Qf, Qg, Qu, Qt, endQ, rvs, rv1, resV, vw_i, vw_b, Qal, Qar, zipA, beq_self_eq_true, Qm, Qp, Qw, Q4, Qo, Qr, Qb, Q3, decide_true, and_self, forall_const, implies_true, imp_self, Qa4]
   ·have a2 := a1 (by omega)
    simp only [rc7, rs7, g1, g2, g3, g4, g5, g6, g7, hf, hs, hC, h15X, e, a2, hS, hQ6, Qaf, Qa9, Qa8, Qab, Qac, Qah, Qa5, putB, Qad, Qai, Qa6, Qa2, Fam.step, Qae, Qcf, Qaz, Qb6, Qas, ug, putB, nv, sv, evO, opv, qv, Qak, binV, ldV, Qan, putAt, V.cells, Qat, Qbn, Qaa, Qa7, flat, Qcx, Qa1, Qbs, Qa0, Qa3, ↓reduceIte, Nat.reduceEqDiff, Nat.reduceAdd, Nat.reduceLT, Nat.reduceLeDiff, Int.reduceNeg, Qc, Qh, Qs, Qx, Qd, Qe, Qj, Qi, Q5, Qa, Qz, Qn, Ql, Qk, Qf, Qg, Qu, Qt, endQ, rvs, rv1, resV, vw_i, vw_b, Qal, Qar, zipA, beq_self_eq_true, Qm, Qp, Qw, Q4, Qo, Qr, Qb, Q3, decide_true, decide_false, and_self, forall_const, implies_true, imp_self, Qa4]
 ·have hq : Qbh s = (0, 0, Qb1 s) := by
   have e : (Qbo s []) = ([], Qb1 s) := by unfold Qbo; rw [if_pos hc]
   unfold Qbh
   rw [e, if_neg (by simpa using hc)]
  simp only [hq] at g2 g3 g4
  simp only [rc7, rs7, g1, g2, g3, g4, g5, g6, hf, hs, hC, h15X, hc, Qaf, Qa9, Qa8, Qab, Qac, Qah, Qa5, putB, Qad, Qai, Qa6, Qa2, Fam.step, Qae, Qcf, Qaz, Qb6, Qas, ug, putB, nv, sv, evO, opv, qv, Qak, binV, ldV, Qan, putAt, V.cells, Qat, Qbn, Qaa, Qa7, flat, Qcx, Qa1, Qbs, Qa0, Qa3, ↓reduceIte, Nat.reduceEqDiff, Nat.reduceAdd, Nat.reduceLT, Nat.reduceLeDiff, Int.reduceNeg, Qc, Qh, Qs, Qx, Qd, Qe, Qj, Qi, Q5, Qa, Qz, Qn, Ql, Qk, Qf, Qg, Qu, Qt, endQ, rvs, rv1, resV, vw_i, vw_b, Qal, Qar, zipA, beq_self_eq_true, Qm, Qp, Qw, Q4, Qo, Qr, Q0, Qb, Q3, decide_true, decide_false, and_self, forall_const, implies_true, imp_self, Qa4]
end Go.C10
