import Derived.Test.YtoeiaekighfifaaG7
import Derived.Test.YtoeiaekighfifaaG3
import Derived.Test.YtoeiaekighfifaaChecked
set_option linter.all false
open List renaming take_succ_cons → Qb, map_cons → Qc, length_nil → Qd, map_nil → Qe, length_cons → Qf, length_map → Qg, append_nil → Qh, headD_cons → Qi, take_nil → Qj, drop_zero → Qk, getElem?_cons_zero → Qm, all_cons → Qo, drop_succ_cons → Qr, all_nil → Qs, getElem?_cons_succ → Qt, getD_eq_getElem?_getD → Qx, getElem?_eq_getElem → Qz, nil_append → Q0, length_append → Q1, take_zero → Q2, replicate_zero → Q3, getElem?_map → Q4, set_cons_zero → Q7, flatten_nil → Q9, cons_append → Zb, length_filter_le → Ze, set_cons_succ → Zf, getElem?_nil → Zg, contains_nil → Zh, replicate_succ → Zi, isEmpty_nil → Zk, map_append → Zl, flatten_cons → Zm, drop_nil → Zn, flatten_append → Zo, contains_cons → Zr, mem_filter → Zs, isEmpty_cons → Zt, any_eq_false → Zu, mem_of_getElem? → Zv, any_nil → Zw, flatMap_cons → Zx, take_length → Zy, flatMap_nil → Zz, any_cons → Z2, countP_eq_length_filter → Z3, filter_append → Z4, mem_singleton → Z5, length_take → Z7, countP_append → Z8, ne_nil_of_mem → Z9, filter_congr → Xb, mem_append → Xc
open Nat renaming zero_add → Qn, le_refl → Z6, add_zero → Xa
open Bool renaming false_eq_true → Qa, or_false → Ql, and_self → Qp, not_true → Qq, and_true → Qu, true_eq_false → Qv, not_false → Qy, and_eq_true → Za, false_and → Zq, true_and → Z0, false_or → Z1, and_false → Xd
open Option renaming getD_some → Qw, map_some → Zd, getD_none → Zj
open Int renaming natCast_add → Q5, natCast_one → Q6, natCast_nonneg → Q8, toNat_natCast → Zc, natCast_zero → Zp
set_option linter.unusedSimpArgs false
set_option linter.unusedVariables false
namespace Go.C10
open Go.Fam Go.Proofs
variable {Γ : Gam}
def Qfo (l v : List Int) (i j : Nat) : List Int := renN l v i ++ ((l.take j).filter fun x => decide (atN v x = (i : Int))).map fun _ => (i : Int)
theorem Qqf (l v : List Int) (i : Nat) : Qfo l v i 0 = renN l v i := by unfold Qfo; simp
theorem Qrw (l v : List Int) (i : Nat) : Qfo l v i l.length = renN l v (i + 1) := by unfold Qfo; rw [Zy, Qkq]
theorem Qqe {l v : List Int} {i j : Nat} {x : Int} (hx : l[j]? = some x) : Qfo l v i (j + 1) = if atN v x = (i : Int) then Qfo l v i j ++ [(i : Int)] else Qfo l v i j := by
 unfold Qfo
 rw [Qbf hx, Z4]
 by_cases h : atN v x = (i : Int) <;> simp [h]
theorem Qu1 (l v : List Int) (i j : Nat) : (Qfo l v i j).length ≤ l.length + l.length := by
 unfold Qfo
 rw [Q1, Qg]
 have h1 := Qny l v i
 have h2 := Ze (fun x => decide (atN v x = (i : Int))) (l.take j)
 rw [Z7] at h2
 omega
structure OkN (l v : List Int) : Prop where
 ll : l.length ≤ 1000000
 vl : v.length ≤ 1000000
 in_ : ∀ x ∈ l, 0 ≤ x ∧ x < v.length
set_option maxHeartbeats 1000000 in
theorem W39 (l v : List Int) (h : OkN l v) : Qal Try.prog 39 [.sl 1 (l.map eI), .sl 1 (v.map eI)] (.sl 1 ((renN l v v.length).map eI)) := by
 refine Qak Qlx hmix Try.func39 cb39 cc39 cs39 cn39 ?_
 obtain ⟨hl, hv, hin⟩ := h
 simp only [rc39, rs39, Qa9, Qa8, Qad, Qa6, Qgq, Qae, Qa7, Qa2, Fam.step, Qaf, evO, opv, qv, Qa1, Qa0, Qa3, ↓reduceIte, Nat.reduceEqDiff, Qc, Qe, Qd, Q0, zipA, Qn, true_and, reduceCtorEq]
 refine Qc2 v.length (fun i => ⟨lkp [(0, .sl 1 (l.map eI)), (1, .sl 1 (v.map eI)), (5, .rf 0 (renN l v i).length 0 (renN l v i).length 1), (6, .i i)], [.cells (renN l v i).length ((renN l v i).map eI).flatten]⟩) ?_ ?_ ?_
 ·have e0 : renN l v 0 = [] := rfl
  simp only [Zp, e0, Q9, kp, Qa0, Qa3, ↓reduceIte, Nat.reduceEqDiff, Qc, Qe, Qd, reduceCtorEq]
 ·intro i hi
  have hlt : (i : Int) < v.length := by omega
  have h3 : inI ((i : Int) + 1) := by unfold inI; omega
  simp only [hlt, Qag, Qa9, Qa8, Qac, Qad, Qa6, Qae, Qa7, Qa2, Fam.step, Qaf, evO, opv, qv, binV, lenV, kp, Qa1, Qa0, Qa3, ↓reduceIte, Nat.reduceEqDiff, Qc, Qe, decide_true, true_and, reduceCtorEq, Qg]
  refine Qc2 l.length (fun j => ⟨lkp [(0, .sl 1 (l.map eI)), (1, .sl 1 (v.map eI)), (5, .rf 0 (Qfo l v i j).length 0 (Qfo l v i j).length 1), (6, .i i), (7, .i j)], [.cells (Qfo l v i j).length ((Qfo l v i j).map eI).flatten]⟩) ?_ ?_ ?_
  ·simp only [Zp, Qqf, kp, Qa0, Qa3, ↓reduceIte, Nat.reduceEqDiff, Qc, Qe, reduceCtorEq]
  ·intro j hj
   obtain ⟨x, hx⟩ : ∃ x, l[j]? = some x := ⟨_, Qz hj⟩
   have hjl : (j : Int) < l.length := by omega
   have h4 : inI ((j : Int) + 1) := by unfold inI; omega
   have hx0 := hin x (Zv hx)
   obtain ⟨y, hy⟩ : ∃ y, v[x.toNat]? = some y := ⟨_, Qz (by omega)⟩
   have hay : atN v x = y := by unfold atN; rw [hy]; rfl
   have hst := Qqe (v := v) (i := i) hx
   rw [hay] at hst
   have hfl : Qax ((Qfo l v i j).length + 1) := by have := Qu1 l v i j; unfold Qax; omega
   have hnx : Qa5 (((Qfo l v i j).map eI).flatten ++ [V.i (i : Int)]) = false := by rw [Qbi, Qf2]; rfl
   by_cases e : y = (i : Int)
   ·rw [if_pos e] at hst
    simp only [hx, hjl, h4, hx0, hy, e, hst, Qgj, Nat.mul_one, hfl, Q1, Zl, Zo, Zm, Q9, Q5, Q6, Qag, Qa9, Qa8, Qac, Qad, Qa6, Qck, putB, Qae, Qaj, Qa7, Qa2, Fam.step, Qaf, Qcf, Qb6, putB, nv, sv, Qc8, evO, opv, qv, binV, ldV, iadV, lenV, Qas, putAt, Qb7, Qb4, V.cells, Qav, Qbm, Qab, Qa5, kp, Qa1, Qa0, Qa3, ↓reduceIte, Nat.reduceEqDiff, Nat.reduceLeDiff, Qc, Qe, Qo, Qs, Qf, Qd, Qr, Zn, Qb, Q2, Qj, Qi, Q0, Qh, Qm, Qw, Q7, Q3, Zi, vw_i, Q8, Qn, Qp, Ql, Qa, decide_true, and_self, reduceCtorEq, not_false_eq_true, ne_eq, Zd, Qg, Zc, Qx, Q4, eI]
   ·rw [if_neg e] at hst
    simp only [hx, hjl, h4, hx0, hy, e, hst, Q5, Q6, Qag, Qa9, Qa8, Qac, Qad, Qa6, Qae, Qaj, Qa7, Qa2, Fam.step, Qaf, evO, opv, qv, binV, ldV, iadV, lenV, kp, Qa1, Qa0, Qa3, ↓reduceIte, Nat.reduceEqDiff, Nat.reduceLeDiff, Qc, Qe, Qf, Qd, Qi, Qw, Q8, Qn, Qa, decide_true, decide_false, and_self, reduceCtorEq, Zd, Qg, Zc, Qx, Q4, eI]
  ·have hjl : ¬ ((l.length : Int) < l.length) := by omega
   simp only [hjl, h3, Qrw, Q5, Q6, Qa9, Qa8, Qac, Qb1, Qa6, Qae, Qaj, Qa7, Qa2, Fam.step, Qaf, evO, opv, qv, binV, lenV, Qa1, Qa0, Qa3, ↓reduceIte, Nat.reduceEqDiff, Qc, Qe, Qa, decide_false, and_self, reduceCtorEq, Qg]
 ·have hlt : ¬ ((v.length : Int) < v.length) := by omega
  simp only [hlt, Qgj, Nat.mul_one, Z6, Qfy, vw_I, Qa9, Qa8, Qac, Qb1, Qah, Qa6, Qae, Qaj, Qa7, Qa2, Fam.step, Qaf, evO, opv, qv, binV, lenV, Qa1, Qa0, Qa3, ↓reduceIte, Nat.reduceEqDiff, Qc, Qe, Qm, endQ, rvs, rv1, resV, Qe8, Qn, Qa, decide_false, and_self, reduceCtorEq, Qg]
def e39 (a : List Int × List Int) : List V := [.sl 1 (a.1.map eI), .sl 1 (a.2.map eI)]
def d39 : List V → List Int × List Int | [.sl _ x0, .sl _ x1] => (x0.map dI, x1.map dI) | _ => ([], [])
theorem Qxt (a : List Int × List Int) : d39 (e39 a) = a := by simp [d39, e39, Function.comp_def, Qd8]
noncomputable def HW1 : Gam := HN10.ext 39 (fnG e39 d39 (fun a => (fun (l : List Int) (v : List Int) => OkN l v) a.1 a.2) (fun a => (fun (l : List Int) (v : List Int) => renN l v v.length) a.1 a.2) (fun r => .sl 1 (r.map eI)))
theorem Qyt : GOk Try.prog HW1 := Qlx.ext (f := 39) (fun a w => Try.call39 a w) (Qb9 (e := e39) (d := d39) (ok := (fun a => (fun (l : List Int) (v : List Int) => OkN l v) a.1 a.2)) (g := (fun a => (fun (l : List Int) (v : List Int) => renN l v v.length) a.1 a.2)) (eb := (fun r => .sl 1 (r.map eI))) fun a h => W39 a.1 a.2 h)
theorem h39 (l : List Int) (v : List Int) : HW1 39 [.sl 1 (l.map eI), .sl 1 (v.map eI)] = (OkN l v, ((fun r => .sl 1 (r.map eI))) (renN l v v.length)) :=
 (show HW1 39 _ = fnG e39 d39 (fun a => (fun (l : List Int) (v : List Int) => OkN l v) a.1 a.2) (fun a => (fun (l : List Int) (v : List Int) => renN l v v.length) a.1 a.2) (fun r => .sl 1 (r.map eI)) (e39 (l, v)) from rfl).trans (Qb5 _ (Qxt _))
theorem Qvb (s : Stand)  : HW1 14 [.ag (Qa4 s)] = (True, .b (Qdz s)) := h14 s
theorem Qsg (s : Stand)  : HW1 16 [.ag (Qa4 s)] = (Qaq s, ((fun r => .tp [.i r.1, .i r.2])) (Qdn s)) := h16 s
theorem Qsh (s : Stand)  : HW1 17 [.ag (Qa4 s)] = (Qaq s, ((fun r => .tp [.i r.1, .i r.2.2])) (Qbu s)) := h17 s
theorem Qvc (t : List Int)  : HW1 18 [.sl 1 (t.map eI)] = (t.length ≤ 1000000, .b (takB t)) := h18 t
theorem Qvd (l : List Int) (m : List Int)  : HW1 28 [.sl 1 (l.map eI), .sl 1 (m.map eI)] = (l.length ≤ 1000000, .b (decide (l = m))) := h28 l m
theorem Qsi (s : Stand) (g : Int)  : HW1 37 [.ag (Qa4 s), .i g] = (Qaq s, ((fun r => .tp [.sl 1 (r.1.map eI), .i r.2])) (canR s g)) := h37 s g
theorem h15W : HW1 15 [] = (True, .b true) := (show HW1 15 [] = HN10 15 [] from rfl).trans h15
set_option maxRecDepth 100000 in
set_option maxHeartbeats 4000000 in
theorem P9 (s : Stand) (v : List Int) (g : Int) : Qal Try.prog 9 [.ag (Qa4 s), .sl 1 (v.map eI), .i g] (.b true) := by
 refine Qak Qyt hmix Try.func9 cb9 cc9 cs9 cn9 ?_
 have g1 := Qvb s
 have g2 := Qvc v
 simp only [Qa4] at g1
 by_cases hr : Qdz s = true
 rotate_left
 ·simp only [rc9, rs9, g1, hr, h15W, Qa9, Qa8, Qac, Qah, Qa6, Qae, Qa7, Qa2, Fam.step, Qaf, Qay, Qat, ug, evO, opv, qv, Qai, Qdp, binV, ldV, lenV, Qap, V.cells, Qav, Qab, Qa5, flat, Qa1, Qa0, Qa3, ↓reduceIte, Nat.reduceEqDiff, Nat.reduceAdd, Nat.reduceLT, Nat.reduceLeDiff, Qc, Qe, Qo, Qs, Qf, Qd, Qk, Qb, Qj, Qi, Qh, endQ, rvs, rv1, resV, vw_i, vw_b, Qam, Qau, zipA, Qn, Qp, Qu, Ql, Qq, Qy, Qa, Qv, true_and, and_true, and_self, false_and, forall_const, false_implies, implies_true, reduceCtorEq, beq_false, imp_self, Qg, Qa4]
 obtain ⟨hS, h4, hc, hs, hfa⟩ := Qnx hr
 have hgs := hS.guests
 have hws := hS.wrong
 by_cases hl : (v.length : Int) = s.guests
 rotate_left
 ·simp only [rc9, rs9, g1, hr, hl, h15W, Qa9, Qa8, Qac, Qah, Qa6, Qae, Qa7, Qa2, Fam.step, Qaf, Qay, Qat, ug, evO, opv, qv, Qai, Qdp, binV, ldV, lenV, Qap, V.cells, Qav, Qab, Qa5, flat, Qa1, Qa0, Qa3, ↓reduceIte, Nat.reduceEqDiff, Nat.reduceAdd, Nat.reduceLT, Nat.reduceLeDiff, Qc, Qe, Qo, Qs, Qf, Qd, Qk, Qb, Qj, Qi, Qh, endQ, rvs, rv1, resV, vw_i, vw_b, Qam, Qau, zipA, beq_self_eq_true, Qn, Qp, Qu, Ql, Qq, Qy, Qa, Qv, decide_false, true_and, and_true, and_self, false_and, forall_const, false_implies, implies_true, reduceCtorEq, beq_false, imp_self, Qg, Qa4]
 have hvl : v.length ≤ 1000000 := by omega
 by_cases ht : takB v = true
 rotate_left
 ·simp only [rc9, rs9, g1, g2, hr, hl, hvl, ht, h15W, Qa9, Qa8, Qac, Qah, Qa6, Qae, Qa7, Qa2, Fam.step, Qaf, Qay, Qat, ug, evO, opv, qv, Qai, binV, ldV, lenV, Qap, V.cells, Qav, Qab, Qa5, flat, Qa1, Qa0, Qa3, ↓reduceIte, Nat.reduceEqDiff, Nat.reduceAdd, Nat.reduceLT, Nat.reduceLeDiff, Qc, Qe, Qo, Qs, Qf, Qd, Qk, Qb, Qj, Qi, Qh, endQ, rvs, rv1, resV, vw_i, vw_b, Qam, Qau, zipA, beq_self_eq_true, Qn, Qp, Qu, Ql, Qq, Qy, Qa, Qv, decide_true, and_true, and_self, forall_const, implies_true, reduceCtorEq, beq_false, imp_self, Qg, Qa4]
 have hV : IsTak s.guests v := by have := ((Qkw v).1 ht).2; rwa [hl] at this
 by_cases k0 : g < 0
 ·simp only [rc9, rs9, g1, g2, hr, hl, hvl, ht, k0, h15W, Qa9, Qa8, Qac, Qah, Qa6, Qae, Qa7, Qa2, Fam.step, Qaf, Qay, Qat, ug, evO, opv, qv, Qai, binV, ldV, lenV, Qap, V.cells, Qav, Qab, Qa5, flat, Qa1, Qa0, Qa3, ↓reduceIte, Nat.reduceEqDiff, Nat.reduceAdd, Nat.reduceLT, Nat.reduceLeDiff, Qc, Qe, Qo, Qs, Qf, Qd, Qk, Qb, Qj, Qi, Qh, endQ, rvs, rv1, resV, vw_i, vw_b, Qam, Qau, zipA, beq_self_eq_true, Qn, Qp, Qu, Ql, Qq, Qa, Qv, decide_true, and_true, and_self, forall_const, implies_true, reduceCtorEq, beq_false, imp_self, Qg, Qa4]
 by_cases k1 : s.guests ≤ g
 ·simp only [rc9, rs9, g1, g2, hr, hl, hvl, ht, k0, k1, h15W, Qa9, Qa8, Qac, Qah, Qa6, Qae, Qa7, Qa2, Fam.step, Qaf, Qay, Qat, ug, evO, opv, qv, Qai, binV, ldV, lenV, Qap, V.cells, Qav, Qab, Qa5, flat, Qa1, Qa0, Qa3, ↓reduceIte, Nat.reduceEqDiff, Nat.reduceAdd, Nat.reduceLT, Nat.reduceLeDiff, Qc, Qe, Qo, Qs, Qf, Qd, Qk, Qb, Qj, Qi, Qh, endQ, rvs, rv1, resV, vw_i, vw_b, Qam, Qau, zipA, beq_self_eq_true, Qn, Qp, Ql, Qq, Qa, decide_true, decide_false, and_self, forall_const, implies_true, reduceCtorEq, Qg, Qa4]
 have hgb : Qao s.guests g = true := by simp only [Qao, Qaz, Za, decide_eq_true_eq]; omega
 have e : ((s.guests.toNat : Nat) : Int) = s.guests := by omega
 have hV' : IsTak (s.guests.toNat : Nat) v := by rw [e]; exact hV
 have hvg : 0 ≤ atN v g ∧ atN v g < (s.guests.toNat : Nat) := (Qbp hV' (by omega)).2
 obtain ⟨o, ho⟩ : ∃ o, o = renS s v := ⟨_, rfl⟩
 have o1 : o.guests = s.guests := by rw [ho]; rfl
 have o2 : o.wrong = s.wrong := by rw [ho]; rfl
 have o3 : o.words = s.words.map fun w => renW w v s.guests.toNat := by rw [ho]; rfl
 have hco : Qaw o = 0 := by rw [ho]; exact Qpf hc hs hV
 have hso : Qaq o := by rw [ho]; exact Qr3 hs
 have hO := Qdj hco hso
 have hR : Ren s.guests.toNat v (Qaa s) (Qaa o) := by rw [ho]; exact Qjq hS (by rw [← ho]; exact hO) hV
 have hgo : Qao o.guests (atN v g) = true := by rw [o1]; simp only [Qao, Qaz, Za, decide_eq_true_eq]; omega
 have htn : Qaa o = [] ↔ Qaa s = [] := hR.nil
 have m1 : Qdn s = (((Qaa s).length : Int), 0) := by unfold Qdn; rw [if_pos hc]
 have m2 : Qdn o = (((Qaa s).length : Int), 0) := by unfold Qdn; rw [if_pos hco, hR.len]
 have q2 : (Qbu o).1 = (Qbu s).1 ∧ (Qbu o).2.2 = (Qbu s).2.2 := by
  by_cases h : Qaa s = []
  ·rw [Qha hc h, Qha hco (htn.2 h)]; exact ⟨rfl, rfl⟩
  ·rw [Qfg hc h, Qfg hco (fun e => h (htn.1 e)), hR.least]; exact ⟨rfl, rfl⟩
 obtain ⟨A, hA⟩ : ∃ A, A = (canR s g).1 := ⟨_, rfl⟩
 have c2 : canR o (atN v g) = (renN A v v.length, (canR s g).2) := by
  have evl : v.length = s.guests.toNat := by omega
  rw [hA, Qfx hco hgo, Qfx hc hgb]
  by_cases h : Qaa s = []
  ·rw [if_pos h, if_pos (htn.2 h)]
   simp [renN]
  ·rw [if_neg h, if_neg (fun e => h (htn.1 e)), evl]
   have := Qsa hS (by rw [← ho]; exact hO) hV (g := g) (by omega)
   rw [← ho] at this
   rw [this]
 have hAin : ∀ x ∈ A, 0 ≤ x ∧ x < s.guests := fun x hx => by
  rw [hA, Qfx hc hgb] at hx
  by_cases h : Qaa s = []
  ·rw [if_pos h] at hx; simp at hx
  ·rw [if_neg h, Qei hS hgb, Zs, Qch] at hx; omega
 have hAl : (A.length : Int) ≤ s.guests := by
  rw [hA, Qfx hc hgb]
  by_cases h : Qaa s = []
  ·rw [if_pos h]; simp; omega
  ·rw [if_neg h]
   have e := Qei hS hgb
   have := Ze (fun u => (Qaa s).any fun t => decide (atN t g = u)) (ints 0 (s.guests - 1))
   rw [← e, Qec] at this
   show ((Qc1 (Qaa s) g).length : Int) ≤ _
   omega
 have g4 := Qsg s
 have g5 := Qsg o
 have g6 := Qsh s
 have g7 := Qsh o
 have g8 := Qsi s g
 have g10 := h39 A v
 have g11 := Qvd (renN A v v.length) (renN A v v.length)
 have hN : OkN A v := ⟨by omega, hvl, fun x hx => by have := hAin x hx; omega⟩
 have hRl : (renN A v v.length).length ≤ 1000000 := by have := Qny A v v.length; omega
 obtain ⟨y, hy⟩ : ∃ y, v[g.toNat]? = some y := ⟨_, Qz (by omega)⟩
 have hay : atN v g = y := by unfold atN; rw [hy]; rfl
 have hg0 : 0 ≤ g ∧ g < s.guests := by omega
 rw [hay] at c2
 have g9 := Qsi o y
 obtain ⟨E, hE⟩ : ∃ E, E = (canR s g).2 := ⟨_, rfl⟩
 obtain ⟨R, hR'⟩ : ∃ R, R = renN A v v.length := ⟨_, rfl⟩
 rw [← hE, ← hR'] at c2
 rw [← hR'] at g10 g11 hRl
 simp only [Qa4, m1] at g4
 simp only [Qa4, o1, o2, m2] at g5
 simp only [Qa4] at g6
 simp only [Qa4, o1, o2, q2] at g7
 simp only [Qa4, ← hA, ← hE] at g8
 simp only [Qa4, o1, o2, c2] at g9
 obtain ⟨K, hK⟩ : ∃ K : Nat → List Word, K = fun i => (s.words.take i).map fun w => renW w v s.guests.toNat := ⟨_, rfl⟩
 have hwl := hS.words
 simp only [rc9, rs9, g1, g2, hr, hl, hvl, ht, k0, k1, Qag, Qa9, Qa8, Qac, Qad, Qa6, Qmu, putB, Qae, Qa7, Qa2, Fam.step, Qaf, Qcf, Qay, Qb6, Qat, ug, putB, nv, sv, evO, opv, qv, Qai, binV, ldV, lenV, Qap, Qas, putAt, Qb7, V.cells, Qav, Qbm, Qab, Qa5, flat, Qa1, Qbn, Qa0, Qa3, ↓reduceIte, Nat.reduceEqDiff, Nat.reduceAdd, Nat.reduceLT, Nat.reduceLeDiff, Qc, Qe, Qo, Qs, Qf, Qd, Qr, Qk, Zn, Qb, Q2, Qj, Qi, Zb, Q0, Qh, Qm, Qt, Q7, Zf, vw_i, Qam, Qau, zipA, beq_self_eq_true, Qn, Qp, Ql, Qq, Qa, decide_true, decide_false, true_and, and_self, forall_const, implies_true, reduceCtorEq, Qg, Qa4]
 refine Qc2 s.words.length (fun i => ⟨lkp [(1, .sl 1 (v.map eI)), (2, .i g), (3, .pa (Qa4 s)), (7, .ad 0 0 0), (8, .i i)], [.cells 0 [.i s.guests, .rf 1 (K i).length 0 (K i).length 4, .i s.wrong], .cells (K i).length ((K i).map eWord).flatten]⟩) ?_ ?_ ?_
 ·have hK0 : K 0 = [] := by rw [hK]; rfl
  simp only [Zp, hK0, Q9, cutH, kp, cutV, cutL, cutB, Qa0, Qa3, ↓reduceIte, Nat.reduceEqDiff, Nat.reduceLT, Qc, Qe, Qd, Qb, Qj, Qa4]
 ·intro i hi
  obtain ⟨w, hw⟩ : ∃ w, s.words[i]? = some w := ⟨_, Qz hi⟩
  have hlt : (i : Int) < s.words.length := by omega
  have h5 : inI ((i : Int) + 1) := by unfold inI; omega
  have hwm := Zv hw
  have hKs : K (i + 1) = K i ++ [renW w v s.guests.toNat] := by rw [hK]; simp only; rw [Qbf hw, Zl]; rfl
  have hKl : (K i).length ≤ 20 := by rw [hK]; simp only; rw [Qg, Z7]; omega
  have hwo := hS.word w hwm
  have hsw := Qkl hwo (hS.short w hwm)
  have hgw : 0 ≤ w.guest ∧ w.guest < (s.guests.toNat : Nat) := by have := hsw.guest; omega
  have how : 0 ≤ w.other ∧ w.other < (s.guests.toNat : Nat) := by have := hsw.other; omega
  have hya := (Qbp hV' hgw).1
  have hyb := (Qbp hV' how).1
  have gg : 0 ≤ w.guest ∧ w.guest < (v.length : Int) := by omega
  have go : 0 ≤ w.other ∧ w.other < (v.length : Int) := by omega
  have hWN : OkN w.among v := ⟨hs w hwm, hvl, fun x hx => by have := Qhg hwo x hx; omega⟩
  have g12 := h39 w.among v
  have evl : v.length = s.guests.toNat := by omega
  have hfl : Qax ((K i).length + 1) := by unfold Qax; omega
  obtain ⟨B, hB⟩ : ∃ B, B = renN w.among v v.length := ⟨_, rfl⟩
  have hrw : renW w v s.guests.toNat = ⟨w.kind, atN v w.guest, if w.kind = 3 ∨ w.kind = 4 then atN v w.other else 0, B⟩ := by rw [hB, evl]; rfl
  rw [← hB] at g12
  rw [hrw] at hKs
  have hnx : ∀ w' : Word, Qa5 (((K i).map eWord).flatten ++ eWord w') = false := fun w' => by rw [Qbi, Qeg]; rfl
  simp only [eWord] at hnx
  have hnx : ∀ w' : Word, Qa5 (((K i).map eWord).flatten ++ [.i w'.kind, .i w'.guest, .i w'.other, .sl 1 (w'.among.map eI)]) = false := hnx
  by_cases k3 : w.kind = 3
  ·rw [if_pos (.inl k3)] at hKs
   have hn1 := hnx ⟨w.kind, atN v w.guest, atN v w.other, B⟩
   simp only [k3] at hn1
   simp only [hw, hlt, h5, hya, hyb, gg, go, k3, g12, hWN, hKs, hfl, Qkc, Q1, Zl, Zo, Zm, Q9, Qar _ _ _ hn1, Q5, Q6, Qnv, Zx, Zz, Qag, Qa9, Qbo, Qa8, Qac, Qad, Qa6, Qcb, Qck, ↓Qbq, Qba, optL, cutH, putB, Qae, Qaj, Qa7, Qa2, Fam.step, Qaf, Qcf, Qay, Qb6, Qat, ug, runX, eff, Qb8, fpR, fpQ, fpV, Qc3, hits, putB, nv, sv, Qc8, evO, opv, qv, Qai, binV, ldV, iadV, lenV, curG, Qap, Qas, putAt, Qb7, Qb4, V.cells, Qav, Qbm, Qab, Qa5, flat, kp, cutV, cutL, cutB, Qa1, Qbn, Qa0, Qa3, ↓reduceIte, Nat.reduceEqDiff, Nat.reduceAdd, Nat.reduceMul, Nat.reduceLT, Nat.reduceLeDiff, Nat.reduceBEq, Int.reduceEq, Qc, Qe, Qo, Qs, Qf, Qd, Qr, Qk, Zn, Qb, Q2, Qj, Qi, Zb, Q0, Qh, Qm, Qt, Zg, Qw, Zj, Q7, Zf, Q3, Zi, Zk, Zt, vw_i, Qam, Qau, Qkz, Q8, beq_self_eq_true, Qn, Xa, Qp, Qu, Z0, Zq, Ql, Z1, Qq, Qy, Qa, Qv, decide_true, decide_false, and_true, and_self, forall_const, implies_true, reduceCtorEq, not_false_eq_true, ne_eq, Zd, Z2, Zw, Zr, Zh, beq_false, imp_self, Qg, Zc, Qx, Q4, eWord, Qa4, eI]
  ·by_cases k4 : w.kind = 4
   ·rw [if_pos (.inr k4)] at hKs
    have hn1 := hnx ⟨w.kind, atN v w.guest, atN v w.other, B⟩
    simp only [k4] at hn1
    simp only [hw, hlt, h5, hya, hyb, gg, go, k4, g12, hWN, hKs, hfl, Qkc, Q1, Zl, Zo, Zm, Q9, Qar _ _ _ hn1, Q5, Q6, Qnv, Zx, Zz, Qag, Qa9, Qbo, Qa8, Qac, Qad, Qa6, Qcb, Qck, ↓Qbq, Qba, optL, cutH, putB, Qae, Qaj, Qa7, Qa2, Fam.step, Qaf, Qcf, Qay, Qb6, Qat, ug, runX, eff, Qb8, fpR, fpQ, fpV, Qc3, hits, putB, nv, sv, Qc8, evO, opv, qv, Qai, binV, ldV, iadV, lenV, curG, Qap, Qas, putAt, Qb7, Qb4, V.cells, Qav, Qbm, Qab, Qa5, flat, kp, cutV, cutL, cutB, Qa1, Qbn, Qa0, Qa3, ↓reduceIte, Nat.reduceEqDiff, Nat.reduceAdd, Nat.reduceMul, Nat.reduceLT, Nat.reduceLeDiff, Nat.reduceBEq, Int.reduceEq, Qc, Qe, Qo, Qs, Qf, Qd, Qr, Qk, Zn, Qb, Q2, Qj, Qi, Zb, Q0, Qh, Qm, Qt, Zg, Qw, Zj, Q7, Zf, Q3, Zi, Zk, Zt, vw_i, Qam, Qau, Qkz, Q8, beq_self_eq_true, Qn, Xa, Qp, Qu, Z0, Zq, Ql, Z1, Qq, Qy, Qa, decide_true, decide_false, and_self, forall_const, implies_true, reduceCtorEq, not_false_eq_true, ne_eq, Zd, Z2, Zw, Zr, Zh, imp_self, Qg, Zc, Qx, Q4, eWord, Qa4, eI]
   ·rw [if_neg (by omega)] at hKs
    have hn1 := hnx ⟨w.kind, atN v w.guest, 0, B⟩
    simp only at hn1
    simp only [hw, hlt, h5, hya, gg, k3, k4, g12, hWN, hKs, hfl, Qkc, Q1, Zl, Zo, Zm, Q9, Qar _ _ _ hn1, Q5, Q6, Qnv, Zx, Zz, Qag, Qa9, Qbo, Qa8, Qac, Qad, Qa6, Qcb, Qck, ↓Qbq, Qba, optL, cutH, putB, Qae, Qaj, Qa7, Qa2, Fam.step, Qaf, Qcf, Qay, Qb6, Qat, ug, runX, eff, Qb8, fpR, fpQ, fpV, Qc3, hits, putB, nv, sv, Qc8, evO, opv, qv, Qai, binV, ldV, iadV, lenV, curG, Qap, Qas, putAt, Qb7, Qb4, V.cells, Qav, Qbm, Qab, Qa5, flat, kp, cutV, cutL, cutB, Qa1, Qbn, Qa0, Qa3, ↓reduceIte, Nat.reduceEqDiff, Nat.reduceAdd, Nat.reduceMul, Nat.reduceLT, Nat.reduceLeDiff, Nat.reduceBEq, Qc, Qe, Qo, Qs, Qf, Qd, Qr, Qk, Zn, Qb, Q2, Qj, Qi, Zb, Q0, Qh, Qm, Qt, Zg, Qw, Zj, Q7, Zf, Q3, Zi, Zk, Zt, vw_i, Qam, Qau, Qkz, Q8, beq_self_eq_true, Qn, Xa, Qp, Qu, Z0, Zq, Ql, Z1, Qq, Qy, Qa, decide_true, decide_false, and_self, forall_const, implies_true, reduceCtorEq, not_false_eq_true, ne_eq, Zd, Z2, Zw, Zr, Zh, imp_self, Qg, Zc, Qx, Q4, eWord, Qa4, eI]
 ·have h77 : ¬ ((s.words.length : Int) < s.words.length) := by omega
  have hKw : K s.words.length = o.words := by rw [hK, o3]; simp only; rw [Zy]
  have hck := Qpg o.words
  have hup := Qui 0 o.words
  have hlw2 := Qkc o.words
  have hAg : ¬ s.guests < (A.length : Int) := by omega
  rw [hKw]
  simp only [h77, hpF, upB, upL, upV, hup, hck, hlw2, Z6, vw_W, g4, g5, g6, g7, g8, g9, hs, hso, hy, hg0, hAg, hl, eq_self, Qyw, Qnv, Qx2, Zx, Zz, Qag, Qa9, Qbo, Qa8, Qac, Qad, Qb1, Qa6, Qcb, ↓Qbq, Qba, cutH, Qae, Qaj, Qa7, Qa2, Fam.step, Qaf, Qay, Qat, ug, runX, eff, Qb8, fpR, fpQ, fpV, Qc3, hits, evO, opv, qv, Qai, binV, ldV, iadV, lenV, Qap, Qab, Qa5, flat, Qcx, cutV, Qa1, Qa0, Qa3, ↓reduceIte, Nat.reduceEqDiff, Nat.reduceAdd, Nat.reduceLT, Nat.reduceLeDiff, Qc, Qe, Qo, Qs, Qf, Qd, Qr, Qk, Qb, Q2, Qj, Qi, Zb, Q0, Qh, Qm, Qt, Zg, Qw, Zj, Q3, Zk, vw_i, Qam, Qau, Qkz, Qe8, beq_self_eq_true, Qn, Qp, Qu, Zq, Ql, Qq, Qy, Qa, decide_true, decide_false, true_and, and_self, forall_const, implies_true, Zd, Zw, Zh, imp_self, Qg, Qx, Q4, Qa4, eI]
  refine Qc2 A.length (fun i => ⟨lkp [(1, .sl 1 (v.map eI)), (3, .pa (Qa4 s)), (19, .sl 1 (A.map eI)), (21, .sl 1 (R.map eI)), (23, .i i)], []⟩) ?_ ?_ ?_
  ·simp only [Zp, kp, Qa0, Qa3, ↓reduceIte, Nat.reduceEqDiff, Qc, Qe, Qa4]
  ·intro i hi
   obtain ⟨x, hx⟩ : ∃ x, A[i]? = some x := ⟨_, Qz hi⟩
   have hlt : (i : Int) < A.length := by omega
   have h5 : inI ((i : Int) + 1) := by unfold inI; omega
   have hx0 := hAin x (Zv hx)
   have hx1 : ¬ x < 0 := by omega
   have hx2 : ¬ s.guests ≤ x := by omega
   simp only [hx, hlt, h5, hx1, hx2, Q5, Q6, Qag, Qa9, Qbo, Qa8, Qac, Qad, Qa6, Qba, Qae, Qaj, Qa7, Qa2, Fam.step, Qaf, Qay, Qat, ug, runX, eff, Qb8, fpR, fpQ, fpV, Qc3, hits, evO, opv, qv, Qai, binV, ldV, iadV, lenV, kp, Qa1, Qa0, Qa3, ↓reduceIte, Nat.reduceEqDiff, Nat.reduceAdd, Nat.reduceLeDiff, Qc, Qe, Qo, Qs, Qf, Qd, Qk, Qi, Zb, Q0, Qh, Zg, Qw, Zj, Q3, Zk, Q8, beq_self_eq_true, Qn, Qp, Qu, Zq, Ql, Qq, Qy, Qa, decide_true, decide_false, and_self, forall_const, implies_true, Zd, Zw, Zh, Qg, Zc, Qx, Q4, Qa4, eI]
  ·have hlt : ¬ ((A.length : Int) < A.length) := by omega
   simp only [hlt, g10, hN, g11, hRl, h15W, Qa9, Qa8, Qac, Qb1, Qah, Qa6, Qae, Qaj, Qa7, Qa2, Fam.step, Qaf, Qay, Qat, ug, evO, opv, qv, Qai, binV, lenV, Qap, Qab, Qa5, flat, Qa1, Qa0, Qa3, ↓reduceIte, Nat.reduceEqDiff, Nat.reduceLT, Qc, Qe, Qo, Qs, Qh, endQ, rvs, rv1, resV, vw_b, Qam, beq_self_eq_true, Qp, Ql, Qa, Qv, decide_true, decide_false, and_self, forall_const, implies_true, imp_self, Qg, Qa4]
end Go.C10
set_option linter.unusedSimpArgs false
set_option linter.unusedVariables false
namespace Go.C10
open Go.Fam Go.Proofs
def ansW (g u : Int) : Word := ⟨1, g, 0, [u]⟩
theorem Qow {s : Stand} (h0 : s.wrong = 0) (g u : Int) : Qaa (Qf0 s (ansW g u)) = Qc7 (Qaa s) g u := by
 rw [Qmy]
 unfold Qc7
 refine Xb fun t ht => ?_
 have h1 := (Qcd.1 ht).2
 unfold Qci at h1 ⊢
 rw [decide_eq_true_eq] at h1
 have e : Qc6 (Qf0 s (ansW g u)).words t = Qc6 s.words t + if atN t g = u then 0 else 1 := by
  unfold Qc6 Qf0
  rw [Z8]
  congr 1
  by_cases h : atN t g = u
  ·rw [if_pos h]; simp [soB, ansW, h]
  ·rw [if_neg h]; simp [soB, ansW, h]
 have e2 : (Qf0 s (ansW g u)).wrong = 0 := h0
 rw [e, e2, decide_eq_decide]
 by_cases h : atN t g = u
 ·rw [if_pos h]; simp [h]; omega
 ·rw [if_neg h]; simp [h]
theorem Qp6 {s : Stand} (hS : OkS s) (ht : Qaa s ≠ []) (h0 : Qc5 (Qaa s) ≠ 0) {A : Int} (hA : (askN (Qc5 (Qaa s)) (Qaa s)).getD (-1) = A) :
  (0 ≤ A ∧ A ≤ s.guests - 1) ∧ Qde (Qaa s) A = true ∧ ∀ t ∈ Qaa s, Qc5 (Qc7 (Qaa s) A (atN t A)) + 1 ≤ Qc5 (Qaa s) := by
 have hg := hS.guests
 have hT := Qc9 hS
 obtain ⟨q1, q2⟩ := Qd2 hT ht
 have h1 : ¬ (Qaa s).length = 1 := fun e => by have := q2 0 (Qer e); omega
 obtain ⟨n, hn⟩ : ∃ n, Qc5 (Qaa s) = n + 1 := ⟨Qc5 (Qaa s) - 1, by omega⟩
 rw [hn] at q1 hA ⊢
 unfold canB at q1
 rw [askN, if_neg h1] at q1 hA
 obtain ⟨A', hA'⟩ := Option.isSome_iff_exists.1 q1
 rw [hA', Qw] at hA
 subst hA
 have hp := List.find?_some hA'
 have hm := List.mem_of_find?_eq_some hA'
 rw [Qch, hT.head ht] at hm
 rw [Za, List.all_eq_true] at hp
 refine ⟨by omega, hp.1, fun t htm => ?_⟩
 have hw : Qc7 (Qaa s) A' (atN t A') ≠ [] := Z9 (Qdc.2 ⟨htm, rfl⟩)
 have := (Qd2 (hT.where_ A' (atN t A')) hw).2 n (hp.2 t htm)
 omega
end Go.C10
set_option maxRecDepth 8000
namespace Go.C10
open Go.Fam Go.Proofs
def rc10 : RC := (.seq (.reg false [(cX 1 0), (cQ 2 [] (.mv (kB false)))]) (.keep [1] (.seq (.seq (.reg true [(cLd 13 1 true 3), (cQ 14 [13] (.call (kF 14) [(.t 13)])), (cN 15 14), (cMv 16 15), (gQ 17 16 false [1] (.fad 2 (.t 1))), (gQ 18 16 false [17] (.ld false 1 (.t 17))), (gQ 19 16 false [18] (.bin .gtr (.t 18) (kI 0))), (cQ 20 [16,19] (.pick (.t 16) (kB true) (.t 19))), (cMv 21 20), (gQ 22 21 false [1] (.fad 1 (.t 1))), (gQ 23 21 false [22] (.ld false 1 (.t 22))), (gQ 24 21 false [23] (.len (.t 23))), (gQ 25 21 false [24] (.bin .geq (.t 24) (kI 20))), (cQ 26 [21,25] (.pick (.t 21) (kB true) (.t 25)))]) (.keep [1,26] (.cond (.t 26) (.seq (.reg false [(cQ 27 [] (.call (kF 15) [])), (cMv 2 27)]) .ret) .skip))) (.keep [1] (.seq (.reg false [(cLd 29 1 true 3), (cQ 30 [29] (.call (kF 17) [(.t 29)])), (cMv 28 30), (cEx 31 28 0), (cEx 32 28 1), (cMv 3 31), (cMv 4 32)]) (.keep [1,3,4] (.seq (.reg false [(cLd 34 1 true 3), (cQ 35 [34] (.call (kF 32) [(.t 34)])), (cMv 33 35), (cEx 36 33 0), (cEx 37 33 1), (cMv 5 36), (cMv 6 37)]) (.keep [1,3,4,5,6] (.seq (.seq (.reg true [(cMv 38 4), (cMv 39 6), (cB 40 .neq 38 39), (cMv 41 40), (gMv 42 41 false 4), (gQ 43 41 false [42] (.bin .neq (.t 42) (kI 0))), (gMv 44 41 false 43), (gMv 45 44 true 4), (gQ 46 44 true [45] (.bin .neq (.t 45) (kI 3))), (gQ 47 41 false [44,46] (.pick (.t 44) (.t 46) (kB false))), (cQ 48 [41,47] (.pick (.t 41) (kB true) (.t 47)))]) (.keep [1,3,4,5,48] (.cond (.t 48) (.seq (.reg false [(cQ 2 [] (.mv (kB false)))]) .ret) .skip))) (.keep [1,3,4,5] (.seq (.seq (.reg true [(cMv 49 4), (cC 50 .neq 49 0), (cMv 51 50), (gMv 52 51 false 3), (gQ 53 51 false [52] (.bin .eql (.t 52) (kI 0))), (cQ 54 [51,53] (.pick (.t 51) (kB true) (.t 53)))]) (.keep [1,3,4,5,54] (.cond (.t 54) (.seq (.reg true [(cMv 55 4), (cC 56 .neq 55 0), (cMv 57 56), (gMv 58 57 false 5), (gQ 59 57 false [58] (.bin .eql (.t 58) (.k (.i (-1))))), (cQ 60 [57,59] (.pick (.t 57) (kB true) (.t 59))), (cMv 61 60), (gQ 62 61 true [] (.call (kF 15) [])), (cQ 63 [61,62] (.pick (.t 61) (.t 62) (kB false))), (cMv 2 63)]) .ret) .skip))) (.keep [1,3,5] (.seq (.reg false [(cLd 65 1 true 3), (cMv 66 5), (cQ 67 [65,66] (.call (kF 37) [(.t 65), (.t 66)])), (cMv 64 67), (cEx 68 64 0), (cEx 69 64 1), (cMv 7 68), (cMv 8 69)]) (.keep [1,3,5,7,8] (.seq (.seq (.reg true [(cMv 70 8), (cC 71 .neq 70 0), (cMv 72 71), (gMv 73 72 false 7), (gQ 74 72 false [73] (.len (.t 73))), (gQ 75 72 false [74] (.bin .lss (.t 74) (kI 2))), (cQ 76 [72,75] (.pick (.t 72) (kB true) (.t 75)))]) (.keep [1,3,5,7,76] (.cond (.t 76) (.seq (.reg false [(cQ 2 [] (.mv (kB false)))]) .ret) .skip))) (.keep [1,3,5,7] (.seq (.seq (.reg false [(cI 9 0)]) (.keep [1,3,5,7,9] (.block 0 (.loop [1,3,5,7,9] (some 0) (.seq (.seq (.reg false [(cMv 77 9), (cMv 78 7), (cLn 79 78), (cB 80 .lss 77 79)]) (.keep [1,3,5,7,9,80] (.cond (.t 80) .skip (.exit 0)))) (.keep [1,3,5,7,9] (.seq (.block 1 (.seq (.reg false [(cLd 83 1 true 3), ⟨(some 84), none, [83], none, .o (kF 30) [(.t 83)]⟩, ⟨(some 10), none, [], none, .w (.alc [(.i 0), (.z 4), (.i 0)])⟩, ⟨none, none, [10,84], none, .w (.st 3 (.t 10) (.t 84))⟩]) (.keep [1,3,5,7,9,10] (.seq (.any false 1 [⟨(cFa 85 10 1), [], []⟩, ⟨(cLd 86 85 false 1), [], [0]⟩, ⟨(cMv 87 5), [], []⟩, ⟨(cMv 88 7), [], []⟩, ⟨(cMv 89 9), [], []⟩, ⟨(cA 90 1 88 89), [], [3,4]⟩, ⟨(cLd 91 90 false 1), [], [5,3,4]⟩, ⟨(cQ 92 [91] (.bsl 1 1 [(.i 0)] [(0,1, (.t 91))])), [], [6,5,3,4]⟩, ⟨(cQ 93 [87,92] (.bld [(.i 0), (.i 0), (.i 0), (.z 1)] [(0,1, (kI 1)), (1,1, (.t 87)), (3,1, (.t 92))])), [], [2,7,6,5,3,4]⟩, ⟨(cQ 94 [93] (.bsl 4 1 [(.i 0), (.i 0), (.i 0), (.z 1)] [(0,4, (.t 93))])), [], [8,2,7,6,5,3,4]⟩, ⟨⟨(some 95), none, [86,94], (some 0), .w (.app 4 (.t 86) (.t 94))⟩, [], [1,0,9,8,2,7,6,5,3,4]⟩, ⟨(cFa 96 10 1), [], [0,1,2,3,4,5,6,7,8,9,10]⟩, ⟨⟨none, none, [96,95], none, .w (.st 1 (.t 96) (.t 95))⟩, [], [11,0,1,2,3,4,5,6,7,8,9,10]⟩]) (.keep [1,3,5,7,9,10] (.seq (.reg false [(cLd 98 10 true 3), (cQ 99 [98] (.call (kF 17) [(.t 98)])), (cMv 97 99), (cEx 100 97 0), (cEx 101 97 1), (cMv 11 100), (cMv 12 101)]) (.keep [1,3,5,7,9,11,12] (.seq (.reg true [(cMv 102 12), (cC 103 .neq 102 0), (cMv 104 103), (gMv 105 104 false 11), (gMv 106 104 false 3), (gQ 107 104 false [106] (.bin .sub (.t 106) (kI 1))), (gQ 108 104 false [105,107] (.bin .gtr (.t 105) (.t 107))), (cQ 109 [104,108] (.pick (.t 104) (kB true) (.t 108)))]) (.keep [1,3,5,7,9,109] (.cond (.t 109) (.seq (.reg false [(cQ 2 [] (.mv (kB false)))]) .ret) .skip)))))))))) (.drp 0 (.keep [1,3,5,7,9] (.reg false [(cMv 81 9), (cC 82 .add 81 1), (cMv 9 82)])))))))))) (.keep [] (.seq (.reg false [(cQ 110 [] (.call (kF 15) [])), (cMv 2 110)]) .ret)))))))))))))))))))
def pu10 : List Nat := [1000084,1,92,94]
def rs10 : List RV := [.t 2]
theorem cc10 : CCx Try.prog Try.f10 pu10 rc10 := by unfold CCx; kernel_rfl
theorem cb10 : CBx Try.f10 := by unfold CBx; kernel_rfl
theorem cs10 : CSx Try.prog Try.f10 rs10 := by unfold CSx; kernel_rfl
theorem cn10 : 1 ≤ Try.f10.ntmps := by decide
end Go.C10
set_option linter.unusedSimpArgs false
set_option linter.unusedVariables false
namespace Go.C10
open Go.Fam Go.Proofs
variable {Γ : Gam}
theorem Qve (s : Stand)  : HY1 14 [.ag (Qa4 s)] = (True, .b (Qdz s)) := h14 s
theorem Qsj (s : Stand)  : HY1 17 [.ag (Qa4 s)] = (Qaq s, ((fun r => .tp [.i r.1, .i r.2.2])) (Qbu s)) := h17 s
theorem Qvf (s : Stand)  : HY1 32 [.ag (Qa4 s)] = (Qaq s, ((fun r => .tp [.i r.2.1, .i r.2.2])) (Qbu s)) := h32 s
theorem Qp5 {s : Stand} (hc : Qaw s = 0) (hsh : Qaq s) (hl : s.words.length + 1 ≤ 20) {g u : Int} (hg : 0 ≤ g ∧ g ≤ s.guests - 1) (hu : 0 ≤ u ∧ u ≤ s.guests - 1) : Qaw (Qf0 s (ansW g u)) = 0 := by
 have hS := Qdj hc hsh
 have hgs := hS.guests
 have hw := hS.wrong
 have k1 : Qaz (Qf0 s (ansW g u)).guests 0 7 = true := by unfold Qaz; simp only [Za, decide_eq_true_eq]; exact hgs
 have k2 : Qaz (Qf0 s (ansW g u)).wrong 0 7 = true := by unfold Qaz; simp only [Za, decide_eq_true_eq]; exact hw
 have kw : Qbe s.guests (ansW g u) = true := by
  simp [Qbe, Qfn, Qd7, Qao, Qaz, ansW]
  exact ⟨hu, decide_eq_true hg.1, decide_eq_true hg.2⟩
 have k3 : ((Qf0 s (ansW g u)).words.any fun w => !Qbe (Qf0 s (ansW g u)).guests w) = false := by
  rw [Zu]
  intro w hw
  have e2 : (Qf0 s (ansW g u)).guests = s.guests := rfl
  rw [e2]
  rcases Xc.1 hw with h | h
  ·rw [hS.word w h]; simp
  ·rw [Z5] at h; rw [h, kw]; simp
 unfold Qaw
 simp [k1, k2, k3]
 show (s.words ++ [ansW g u]).length ≤ 20
 rw [Q1, List.length_singleton]; omega
set_option maxRecDepth 100000 in
set_option maxHeartbeats 4000000 in
theorem P10 (s : Stand) : Qal Try.prog 10 [.ag (Qa4 s)] (.b true) := by
 refine Qak Qyu hmix Try.func10 cb10 cc10 cs10 cn10 ?_
 have g1 := Qve s
 have g2 := Qsj s
 have g3 := Qvf s
 have g4 := h30o s
 simp only [Qa4] at g1 g2 g3 g4
 by_cases hr : Qdz s = true
 rotate_left
 ·simp only [rc10, rs10, g1, hr, h15V, Qa9, Qa8, Qac, Qah, Qa6, Qae, Qa7, Qa2, Fam.step, Qaf, Qay, Qat, ug, evO, opv, qv, Qai, binV, ldV, lenV, Qap, V.cells, Qav, Qab, Qa5, flat, Qa1, Qa0, Qa3, ↓reduceIte, Nat.reduceEqDiff, Nat.reduceAdd, Nat.reduceLT, Nat.reduceLeDiff, Int.reduceNeg, Qc, Qe, Qo, Qs, Qf, Qd, Qr, Qk, Qb, Qj, Qi, Qh, endQ, rvs, rv1, resV, vw_i, vw_b, Qam, Qau, zipA, Qn, Qp, Qu, Ql, Qq, Qy, Qa, Qv, and_true, and_self, forall_const, implies_true, beq_false, imp_self, Qg, Qa4]
 obtain ⟨hS, h4, hc, hs, hfa⟩ := Qnx hr
 have hgs := hS.guests
 have hws := hS.wrong
 by_cases w0 : 0 < s.wrong
 ·simp only [rc10, rs10, g1, hr, w0, h15V, Qa9, Qa8, Qac, Qah, Qa6, Qae, Qa7, Qa2, Fam.step, Qaf, Qay, Qat, ug, evO, opv, qv, Qai, binV, ldV, lenV, Qap, V.cells, Qav, Qab, Qa5, flat, Qa1, Qa0, Qa3, ↓reduceIte, Nat.reduceEqDiff, Nat.reduceAdd, Nat.reduceLT, Nat.reduceLeDiff, Int.reduceNeg, Qc, Qe, Qo, Qs, Qf, Qd, Qr, Qk, Qb, Qj, Qi, Qh, endQ, rvs, rv1, resV, vw_i, vw_b, Qam, Qau, zipA, beq_self_eq_true, Qn, Qp, Qu, Ql, Qq, Qa, Qv, decide_true, and_true, and_self, forall_const, implies_true, beq_false, imp_self, Qg, Qa4]
 by_cases h20 : (20 : Int) ≤ s.words.length
 ·simp only [rc10, rs10, g1, hr, w0, h20, h15V, Qa9, Qa8, Qac, Qah, Qa6, Qae, Qa7, Qa2, Fam.step, Qaf, Qay, Qat, ug, evO, opv, qv, Qai, binV, ldV, lenV, Qap, V.cells, Qav, Qab, Qa5, flat, Qa1, Qa0, Qa3, ↓reduceIte, Nat.reduceEqDiff, Nat.reduceAdd, Nat.reduceLT, Nat.reduceLeDiff, Int.reduceNeg, Qc, Qe, Qo, Qs, Qf, Qd, Qr, Qk, Qb, Qj, Qi, Qh, endQ, rvs, rv1, resV, vw_i, vw_b, Qam, Qau, zipA, beq_self_eq_true, Qn, Qp, Ql, Qq, Qa, decide_true, decide_false, and_self, forall_const, implies_true, Qg, Qa4]
 by_cases ht : Qaa s = []
 ·have hq := Qha hc ht
  simp only [hq] at g2 g3
  simp only [rc10, rs10, g1, g2, g3, hr, hs, w0, h20, h15V, Qag, Qa9, Qa8, Qac, Qah, Qa6, Qae, Qa7, Qa2, Fam.step, Qaf, Qay, Qat, ug, evO, opv, qv, Qai, binV, ldV, lenV, Qap, V.cells, Qav, Qab, Qa5, flat, Qcx, Qa1, Qa0, Qa3, ↓reduceIte, Nat.reduceEqDiff, Nat.reduceAdd, Nat.reduceLT, Nat.reduceLeDiff, Int.reduceNeg, Int.reduceEq, Qc, Qe, Qo, Qs, Qf, Qd, Qr, Qk, Qb, Qj, Qi, Qh, Qm, Qt, Qw, endQ, rvs, rv1, resV, vw_i, vw_b, Qam, Qau, zipA, beq_self_eq_true, Qn, Qp, Qu, Ql, Qq, Qy, Qa, Qv, decide_true, decide_false, and_true, and_self, forall_const, implies_true, reduceCtorEq, beq_false, imp_self, Qg, Qa4]
 have hq := Qfg hc ht
 obtain ⟨Q, hQ⟩ : ∃ Q : Int, Q = (Qc5 (Qaa s) : Int) := ⟨_, rfl⟩
 obtain ⟨A, hA⟩ : ∃ A : Int, A = (askN (Qc5 (Qaa s)) (Qaa s)).getD (-1) := ⟨_, rfl⟩
 rw [← hQ, ← hA] at hq
 simp only [hq] at g2 g3
 have i1 : inI (Q - 1) := by have := Qlu hS ht; unfold inI; omega
 by_cases e : Q = 0
 ·have hA1 : A = -1 := by
   have q1 := (Qd2 (Qc9 hS) ht).1
   rw [show Qc5 (Qaa s) = 0 by omega] at hA q1
   have := Qhx.1 q1
   unfold askN at hA
   rw [if_pos this] at hA
   exact hA
  simp only [rc10, rs10, g1, g2, g3, hr, hs, w0, h20, h15V, e, hA1, Qag, Qa9, Qa8, Qac, Qah, Qa6, Qae, Qa7, Qa2, Fam.step, Qaf, Qay, Qat, ug, evO, opv, qv, Qai, binV, ldV, lenV, Qap, V.cells, Qav, Qab, Qa5, flat, Qcx, Qa1, Qa0, Qa3, ↓reduceIte, Nat.reduceEqDiff, Nat.reduceAdd, Nat.reduceLT, Nat.reduceLeDiff, Int.reduceNeg, Int.reduceEq, Qc, Qe, Qo, Qs, Qf, Qd, Qr, Qk, Qb, Qj, Qi, Qh, Qm, Qt, Qw, endQ, rvs, rv1, resV, vw_i, vw_b, Qam, Qau, zipA, beq_self_eq_true, Qn, Qp, Qu, Xd, Ql, Qq, Qy, Qa, Qv, decide_true, decide_false, and_true, and_self, forall_const, implies_true, beq_true, imp_self, Qg, Qa4]
 obtain ⟨hAi, hmul, hlq⟩ := Qp6 hS ht (by omega) hA.symm
 have hgb : Qao s.guests A = true := by simp only [Qao, Qaz, Za, decide_eq_true_eq]; exact hAi
 have c1 : canR s A = (Qc1 (Qaa s) A, 0) := by rw [Qfx hc hgb, if_neg ht]
 have g5 := Qvg s A
 simp only [Qa4, c1] at g5
 have hmem : ∀ u, u ∈ Qc1 (Qaa s) A ↔ ∃ t ∈ Qaa s, atN t A = u := fun u => by
  unfold Qc1
  rw [(Qid (colN (Qaa s) A)).2]
  unfold colN
  rw [List.mem_map]
 have hrange : ∀ u ∈ Qc1 (Qaa s) A, 0 ≤ u ∧ u ≤ s.guests - 1 := fun u hu => by
  rw [Qei hS hgb, Zs, Qch] at hu
  exact hu.1
 have hal : (Qc1 (Qaa s) A).length ≤ 1000 := by
  have e := Qei hS hgb
  have := Ze (fun u => (Qaa s).any fun t => decide (atN t A = u)) (ints 0 (s.guests - 1))
  rw [← e, Qec] at this
  omega
 obtain ⟨a, ha⟩ : ∃ a, a = Qc1 (Qaa s) A := ⟨_, rfl⟩
 rw [← ha] at g5 hmem hrange hal
 have hlen : ¬ (a.length : Int) < 2 := fun h => by
  obtain ⟨t, h1, t', h2, h3⟩ := (Qgm ht).1 hmul
  have m1 := (hmem _).2 ⟨t, h1, rfl⟩
  have m2 := (hmem _).2 ⟨t', h2, rfl⟩
  match a, m1, m2, h with
  | [x], m1, m2, _ =>
   rw [Z5] at m1 m2
   exact h3 (m1.trans m2.symm)
  | x :: y :: r, _, _, h => simp at h; omega
 have hC : okC s := ⟨by omega, hs⟩
 have hf1 : Qax (s.words.length + 1) := by unfold Qax; omega
 simp only [rc10, rs10, g1, g2, g3, g5, hr, hs, w0, h20, e, hlen, Qag, Qa9, Qa8, Qac, Qad, Qa6, Qae, Qa7, Qa2, Fam.step, Qaf, Qay, Qat, ug, evO, opv, qv, Qai, binV, ldV, lenV, Qap, V.cells, Qav, Qab, Qa5, flat, Qcx, Qa1, Qa0, Qa3, ↓reduceIte, Nat.reduceEqDiff, Nat.reduceAdd, Nat.reduceLT, Nat.reduceLeDiff, Int.reduceNeg, Int.reduceEq, Qc, Qe, Qo, Qs, Qf, Qd, Qr, Qk, Qb, Qj, Qi, Qh, Qm, Qt, Qw, vw_i, Qam, Qau, zipA, beq_self_eq_true, Qn, Qp, Qu, Xd, Ql, Qq, Qy, Qa, decide_true, decide_false, true_and, and_true, and_self, forall_const, implies_true, beq_true, imp_self, Qg, Qa4]
 refine Qc2 a.length (fun i => ⟨lkp [(1, .pa (Qa4 s)), (3, .i Q), (5, .i A), (7, .sl 1 (a.map eI)), (9, .i i)], []⟩) ?_ ?_ ?_
 ·simp only [Zp, cutH, kp, cutV, Qa0, Qa3, ↓reduceIte, Nat.reduceEqDiff, Qc, Qe, Qj, Qa4]
 ·intro i hi
  obtain ⟨u, hu⟩ : ∃ u, a[i]? = some u := ⟨_, Qz hi⟩
  have hlt : (i : Int) < a.length := by omega
  have h3 : inI ((i : Int) + 1) := by unfold inI; omega
  have hum := Zv hu
  obtain ⟨t, htm, htu⟩ := (hmem u).1 hum
  obtain ⟨o, ho⟩ : ∃ o, o = Qf0 s (ansW A u) := ⟨_, rfl⟩
  have o1 : o.guests = s.guests := by rw [ho]; rfl
  have o2 : o.wrong = s.wrong := by rw [ho]; rfl
  have hco : Qaw o = 0 := by rw [ho]; exact Qp5 hc hs (by omega) hAi (hrange u hum)
  have hto : Qaa o = Qc7 (Qaa s) A u := by rw [ho]; exact Qow (by omega) A u
  have hne : Qaa o ≠ [] := by rw [hto]; exact Z9 (Qdc.2 ⟨htm, htu⟩)
  have hqo := Qfg hco hne
  have hle := hlq t htm
  rw [htu, ← hto] at hle
  obtain ⟨M, hM⟩ : ∃ M : Int, M = (Qc5 (Qaa o) : Int) := ⟨_, rfl⟩
  rw [← hM] at hqo
  have hMQ : ¬ Q - 1 < M := by omega
  have hso : Qaq o := by
   rw [ho]
   intro v hv
   rcases Xc.1 hv with hv | hv
   ·exact hs v hv
   ·rw [Z5] at hv; rw [hv]; simp [ansW]
  have g6 := Qsj o
  simp only [Qa4, o1, o2, hqo] at g6
  have hck : Qcj 4 ((s.words.map eWord).flatten ++ eWord (ansW A u)) 0 (s.words.length + 1) = o.words.map eWord := by
   have := Qds (e := eWord) (k := 4) (fun _ => rfl) (s.words ++ [ansW A u])
   rw [ho]
   simpa [Qf0] using this
  have hlw : ((s.words.map eWord).flatten ++ eWord (ansW A u)).length = (s.words.length + 1) * 4 := by
   rw [Q1, Qkc]; show _ + 4 = _; omega
  simp only [eWord, ansW, Qc, Qe, eI] at hck hlw
  simp only [hu, hlt, h3, g4, hC, Qjx, Qmg, hf1, Qkc, Qdh _ _ (Qeg _), Zm, Q9, hck, hlw, Z6, vw_W, g6, hso, hMQ, i1, Q5, Q6, Qag, Qa9, Qbo, Qa8, Qac, Qad, Qa6, Qcb, Qck, ↓Qbq, Qjc, ocV, nidQ, plO, plQ, plB, Qba, optL, Qdr, Qhn, Qe1, shV, shL, shB, Qek, cutH, putB, Qae, Qaj, Qa7, Qa2, Fam.step, Qaf, Qcf, Qay, Qb6, Qat, ug, runX, eff, Qb8, fpR, fpQ, fpV, Qc3, hits, putB, nv, sv, Qc8, evO, opv, qv, Qai, binV, ldV, iadV, lenV, curG, Qap, Qas, putAt, Qb7, Qb4, V.cells, Qav, Qbm, Qab, Qa5, flat, Qcx, kp, cutV, Qa1, Qbn, Qa0, Qa3, ↓reduceIte, Nat.reduceEqDiff, Nat.reduceAdd, Nat.reduceMul, Nat.reduceLT, Nat.reduceLeDiff, Qc, Qe, Qo, Qs, Qf, Qd, Qr, Qk, Zn, Qb, Q2, Qj, Qi, Zb, Q0, Qh, Qm, Qt, Zg, Qw, Zj, Q7, Zf, Q3, Zi, Zk, Zt, vw_i, Qam, Qau, Qe8, Q8, beq_self_eq_true, Qn, Qp, Qu, Z0, Zq, Ql, Z1, Bool.or_true, Qq, Qy, Qa, decide_true, decide_false, and_self, forall_const, implies_true, reduceCtorEq, not_false_eq_true, ne_eq, Zd, Z2, Zw, Zr, Zh, Qg, Zc, Qx, Q4, Qa4, eI]
 ·have hlt : ¬ ((a.length : Int) < a.length) := by omega
  simp only [hlt, h15V, Qa9, Qa8, Qac, Qb1, Qah, Qa6, Qae, Qaj, Qa7, Qa2, Fam.step, Qaf, evO, opv, qv, binV, lenV, Qap, Qa5, flat, Qa1, Qa0, Qa3, ↓reduceIte, Nat.reduceEqDiff, Nat.reduceLT, Qc, Qe, Qh, endQ, rvs, rv1, resV, vw_b, Qa, decide_false, and_self, implies_true, Qg, Qa4]
end Go.C10
set_option linter.unusedSimpArgs false
set_option linter.unusedVariables false
namespace Go.C10
open Go.Fam Go.Proofs
def Qcq (s : Stand) (w : Word) : Bool := (Qaa s).any fun t => soB w t
def Qf3 (s : Stand) : Stand := ⟨s.guests, s.words.filter (Qcq s), s.wrong - (s.words.countP fun w => !Qcq s w : Nat)⟩
theorem Qib {p q : Word → Bool} : ∀ ws : List Word, ws.countP p = (ws.filter q).countP p + (ws.filter fun w => !q w).countP p
 | [] => rfl
 | w :: ws => by
  have ih := Qib (p := p) (q := q) ws
  cases hq : q w <;> simp [hq, List.countP_cons, ih] <;> omega
theorem Qj7 (s : Stand) (t : List Int) : Qc6 s.words t = Qc6 (Qf3 s).words t + Qc6 (s.words.filter fun w => !Qcq s w) t := by
 unfold Qc6 Qf3
 exact Qib s.words
theorem Qse (s : Stand) (t : List Int) : Qc6 (s.words.filter fun w => !Qcq s w) t ≤ s.words.countP fun w => !Qcq s w := by
 unfold Qc6
 rw [Z3 (p := fun w => !Qcq s w)]
 exact List.countP_le_length
theorem Qmc {s : Stand} {t : List Int} (ht : t ∈ Qaa s) : Qc6 (s.words.filter fun w => !Qcq s w) t = s.words.countP fun w => !Qcq s w := by
 unfold Qc6
 rw [Z3 (p := fun w => !Qcq s w), List.countP_eq_length]
 intro w hw
 have h := (Zs.1 hw).2
 rw [Bool.not_eq_true'] at h
 unfold Qcq at h
 rw [Zu] at h
 have := h t ht
 simpa using this
theorem Qmz (s : Stand) : Qaa (Qf3 s) = Qaa s := by
 have key : ∀ t ∈ extN s.guests s.guests.toNat [], Qci (Qf3 s) t = Qci s t := by
  intro t ht
  rw [Bool.eq_iff_iff]
  have h1 := Qj7 s t
  have h2 := Qse s t
  constructor
  ·intro h
   unfold Qci at h ⊢
   rw [decide_eq_true_eq] at h ⊢
   have : (Qf3 s).wrong = s.wrong - (s.words.countP fun w => !Qcq s w : Nat) := rfl
   omega
  ·intro h
   have hm : t ∈ Qaa s := by
    unfold Qaa Qcg
    exact Zs.2 ⟨ht, h⟩
   have h3 := Qmc hm
   unfold Qci at h ⊢
   rw [decide_eq_true_eq] at h ⊢
   have : (Qf3 s).wrong = s.wrong - (s.words.countP fun w => !Qcq s w : Nat) := rfl
   omega
 have e : Qaa (Qf3 s) = (extN s.guests s.guests.toNat []).filter (Qci (Qf3 s)) := rfl
 rw [e]
 exact Xb key
theorem Qno {s : Stand} (ht : Qaa s ≠ []) : ((s.words.countP fun w => !Qcq s w : Nat) : Int) ≤ s.wrong := by
 obtain ⟨t, h⟩ := List.exists_mem_of_ne_nil _ ht
 have h3 := Qmc h
 have h1 := Qj7 s t
 have h2 := (Qcd.1 h).2
 unfold Qci at h2
 rw [decide_eq_true_eq] at h2
 omega
theorem Qmm (s : Stand) : (Qcn s s.words.length).length = s.words.countP fun w => !Qcq s w := by
 have key : ∀ n : Nat, n ≤ s.words.length → (Qcn s n).length = (s.words.take n).countP fun w => !Qcq s w := by
  intro n
  induction n with
  | zero => intro _; simp [Qcn]
  | succ n ih =>
   intro hn
   obtain ⟨w, hw⟩ : ∃ w, s.words[n]? = some w := ⟨_, Qz (by omega)⟩
   have := ih (by omega)
   rw [Qbf hw, Z8, ← this]
   unfold Qcn
   rw [List.range_succ, Z4, Zl, Q1]
   congr 1
   have e : Qcq s w = (Qaa s).any fun t => soB w t := rfl
   cases h : Qcq s w <;> rw [h] at e <;> simp [hw, ← e, h]
 have := key s.words.length (Z6 _)
 rwa [Zy] at this
theorem Qos {s : Stand} (hc : Qaw s = 0) (hs : Qaq s) (ht : Qaa s ≠ []) : Qaw (Qf3 s) = 0 := by
 have hS := Qdj hc hs
 have hg := hS.guests
 have hw := hS.wrong
 have hl := hS.words
 have hle := Qno ht
 have hfl : (s.words.filter (Qcq s)).length ≤ s.words.length := Ze _ _
 unfold Qaw
 have e1 : (Qf3 s).wrong = s.wrong - (s.words.countP fun w => !Qcq s w : Nat) := rfl
 have e2 : (Qf3 s).guests = s.guests := rfl
 have e3 : (Qf3 s).words = s.words.filter (Qcq s) := rfl
 have k1 : Qaz (Qf3 s).guests 0 7 = true := by unfold Qaz; simp only [Za, decide_eq_true_eq]; omega
 have k2 : Qaz (Qf3 s).wrong 0 7 = true := by unfold Qaz; simp only [Za, decide_eq_true_eq]; omega
 have k3 : ((Qf3 s).words.any fun w => !Qbe (Qf3 s).guests w) = false := by
  rw [Zu]
  intro w hw
  rw [e3] at hw
  rw [e2, hS.word w (Zs.1 hw).1]
  simp
 simp [k1, k2, k3]
 rw [e3]; omega
end Go.C10
set_option maxRecDepth 8000
namespace Go.C10
open Go.Fam Go.Proofs
def rc12 : RC := (.seq (.reg false [(cX 2 0), (cQ 4 [] (.mv (kB false)))]) (.keep [1,2] (.seq (.seq (.reg true [(cLd 17 2 true 3), (cQ 18 [17] (.call (kF 35) [(.t 17)])), (cMv 19 18), (gQ 20 19 false [2] (.ld true 3 (.t 2))), (gQ 21 19 false [20] (.call (kF 36) [(.t 20)])), (gQ 22 19 false [21] (.bin .neq (.t 21) (kI 0))), (cQ 23 [19,22] (.pick (.t 19) (kB true) (.t 22))), (cMv 24 23), (gMv 25 24 false 1), (gQ 26 24 false [25] (.bin .lss (.t 25) (kI 0))), (cQ 27 [24,26] (.pick (.t 24) (kB true) (.t 26))), (cMv 28 27), (gMv 29 28 false 1), (gQ 30 28 false [2] (.fad 0 (.t 2))), (gQ 31 28 false [30] (.ld false 1 (.t 30))), (gQ 32 28 false [29,31] (.bin .geq (.t 29) (.t 31))), (cQ 33 [28,32] (.pick (.t 28) (kB true) (.t 32)))]) (.keep [1,2,33] (.cond (.t 33) (.seq (.reg false [(cQ 34 [] (.call (kF 15) [])), (cMv 4 34)]) .ret) .skip))) (.keep [1,2] (.seq (.reg false [(cLd 36 2 true 3), (cQ 37 [36] (.call (kF 42) [(.t 36)])), (cMv 35 37), (cEx 38 35 0), (cEx 39 35 1), (cMv 5 38), (cMv 6 39)]) (.keep [1,2,5,6] (.seq (.seq (.reg false [(cMv 40 6), (cC 41 .neq 40 0)]) (.keep [1,2,5,6,41] (.cond (.t 41) (.seq (.reg true [(cMv 42 6), (cC 43 .eql 42 3), (cMv 44 43), (gQ 45 44 true [] (.call (kF 15) [])), (cQ 46 [44,45] (.pick (.t 44) (.t 45) (kB false))), (cMv 4 46)]) .ret) .skip))) (.keep [1,2,5] (.seq (.reg false [(cFa 47 2 0), (cLd 48 47 false 1), (cFa 49 2 2), (cLd 50 49 false 1), (cMv 51 5), (cLn 52 51), (cB 53 .sub 50 52), (cQ 54 [48,53] (.bld [(.i 0), (.z 4), (.i 0)] [(0,1, (.t 48)), (2,1, (.t 53))])), ⟨(some 7), none, [], none, .w (.alc [(.i 0), (.z 4), (.i 0)])⟩, ⟨none, none, [7,54], none, .w (.st 3 (.t 7) (.t 54))⟩]) (.keep [1,2,5,7] (.seq (.seq (.reg false [(cI 8 0)]) (.keep [1,2,5,7,8] (.block 0 (.ownc 7 1 4 (.loop [1,2,5,7,8] (some 2) (.seq (.seq (.reg false [(cMv 55 8), (cFa 56 2 1), (cLd 57 56 false 1), (cLn 58 57), (cB 59 .lss 55 58)]) (.keep [1,2,5,7,8,59] (.cond (.t 59) .skip (.exit 0)))) (.keep [1,2,5,7,8] (.seq (.block 1 (.seq (.reg false [(cMv 62 5), (cMv 63 8), (cQ 64 [62,63] (.call (kF 38) [(.t 62), (.t 63)])), (cN 65 64)]) (.keep [1,2,5,7,8,65] (.cond (.t 65) (.any false 1 [⟨(cFa 66 7 1), [], []⟩, ⟨(cLd 67 66 false 1), [], [0]⟩, ⟨(cFa 68 2 1), [], []⟩, ⟨(cLd 69 68 false 1), [], [2]⟩, ⟨(cMv 70 8), [], []⟩, ⟨(cA 71 4 69 70), [], [3,2,4]⟩, ⟨(cLd 72 71 true 4), [], [5,3,2,4]⟩, ⟨(cQ 73 [72] (.bsl 4 1 [(.i 0), (.i 0), (.i 0), (.z 1)] [(0,4, (.t 72))])), [], [6,5,3,2,4]⟩, ⟨⟨(some 74), none, [67,73], (some 0), .w (.app 4 (.t 67) (.t 73))⟩, [], [1,0,7,6,5,3,2,4]⟩, ⟨(cFa 75 7 1), [], [0,1,2,3,4,5,6,7,8]⟩, ⟨⟨none, none, [75,74], none, .w (.st 1 (.t 75) (.t 74))⟩, [], [9,0,1,2,3,4,5,6,7,8]⟩]) .skip)))) (.drp 2 (.keep [1,2,5,7,8] (.reg false [(cMv 60 8), (cC 61 .add 60 1), (cMv 8 61)]))))))))))) (.keep [1,2,7] (.seq (.seq (.drp 0 (.reg false [(cLd 76 7 true 3), (cQ 77 [76] (.call (kF 36) [(.t 76)])), (cC 78 .neq 77 0)])) (.keep [1,2,7,78] (.cond (.t 78) (.seq (.reg false [(cQ 4 [] (.mv (kB false)))]) .ret) .skip))) (.keep [1,2,7] (.seq (.reg false [(cLd 80 2 true 3), (cQ 81 [80] (.call (kF 16) [(.t 80)])), (cMv 79 81), (cEx 82 79 0), (cEx 83 79 1), (cMv 9 82), (cMv 10 83)]) (.keep [1,2,7,9,10] (.seq (.reg false [(cLd 85 7 true 3), (cQ 86 [85] (.call (kF 16) [(.t 85)])), (cMv 84 86), (cEx 87 84 0), (cEx 88 84 1), (cMv 11 87), (cMv 12 88)]) (.keep [1,2,7,9,10,11,12] (.seq (.reg false [(cLd 90 2 true 3), (cMv 91 1), (cQ 92 [90,91] (.call (kF 37) [(.t 90), (.t 91)])), (cMv 89 92), (cEx 93 89 0), (cEx 94 89 1), (cMv 13 93), (cMv 14 94)]) (.keep [1,7,9,10,11,12,13,14] (.seq (.reg false [(cLd 96 7 true 3), (cMv 97 1), (cQ 98 [96,97] (.call (kF 37) [(.t 96), (.t 97)])), (cMv 95 98), (cEx 99 95 0), (cEx 100 95 1), (cMv 15 99), (cMv 16 100)]) (.keep [9,10,11,12,13,14,15,16] (.seq (.reg true [(cMv 101 10), (cC 102 .eql 101 0), (cMv 103 102), (gMv 104 103 true 12), (gQ 105 103 true [104] (.bin .eql (.t 104) (kI 0))), (cQ 106 [103,105] (.pick (.t 103) (.t 105) (kB false))), (cMv 107 106), (gMv 108 107 true 14), (gQ 109 107 true [108] (.bin .eql (.t 108) (kI 0))), (cQ 110 [107,109] (.pick (.t 107) (.t 109) (kB false))), (cMv 111 110), (gMv 112 111 true 16), (gQ 113 111 true [112] (.bin .eql (.t 112) (kI 0))), (cQ 114 [111,113] (.pick (.t 111) (.t 113) (kB false))), (cMv 115 114), (gMv 116 115 true 9), (gMv 117 115 true 11), (gQ 118 115 true [116,117] (.bin .eql (.t 116) (.t 117))), (cQ 119 [115,118] (.pick (.t 115) (.t 118) (kB false))), (cMv 120 119), (gMv 121 120 true 13), (gMv 122 120 true 15), (gQ 123 120 true [121,122] (.call (kF 28) [(.t 121), (.t 122)])), (cQ 124 [120,123] (.pick (.t 120) (.t 123) (kB false))), (cMv 125 124), (gQ 126 125 true [] (.call (kF 15) [])), (cQ 127 [125,126] (.pick (.t 125) (.t 126) (kB false))), (cMv 4 127)]) .ret)))))))))))))))))))))))
def pu12 : List Nat := [2,73]
def rs12 : List RV := [.t 4]
theorem cc12 : CCx Try.prog Try.f12 pu12 rc12 := by unfold CCx; kernel_rfl
theorem cb12 : CBx Try.f12 := by unfold CBx; kernel_rfl
theorem cs12 : CSx Try.prog Try.f12 rs12 := by unfold CSx; kernel_rfl
theorem cn12 : 2 ≤ Try.f12.ntmps := by decide
end Go.C10
set_option linter.unusedSimpArgs false
set_option linter.unusedVariables false
namespace Go.C10
open Go.Fam Go.Proofs
variable {Γ : Gam}
theorem Qq7 {s : Stand} {i : Nat} {w : Word} (hw : s.words[i]? = some w) : (i : Int) ∈ Qcn s s.words.length ↔ Qcq s w = false := by
 rw [Qrr]
 constructor
 ·rintro ⟨j, hj, e, v, hv, h⟩
  have : j = i := by omega
  subst this
  rw [hw] at hv
  obtain rfl := Option.some.inj hv
  unfold Qcq
  rw [Zu]
  intro t ht
  rw [h t ht]; simp
 ·intro h
  refine ⟨i, Qan hw, rfl, w, hw, fun t ht => ?_⟩
  unfold Qcq at h
  rw [Zu] at h
  have := h t ht
  simpa using this
theorem Qt2 (l : List Int) (m : List Int)  : HN10 28 [.sl 1 (l.map eI), .sl 1 (m.map eI)] = (l.length ≤ 1000000, .b (decide (l = m))) := h28 l m
set_option maxRecDepth 100000 in
set_option maxHeartbeats 4000000 in
theorem P12 (s : Stand) (g : Int) : Qal Try.prog 12 [.ag (Qa4 s), .i g] (.b true) := by
 refine Qak Qlx hmix Try.func12 cb12 cc12 cs12 cn12 ?_
 have g1 := Qt3 s
 have g2 := Qp1 s
 have g3 := Qt5 s
 simp only [Qa4] at g1 g2 g3
 by_cases hf : farB s = true
 ·simp only [rc12, rs12, g1, hf, h15, Qa9, Qa8, Qac, Qah, Qa6, Qae, Qa7, Qa2, Fam.step, Qaf, Qay, Qat, ug, evO, opv, qv, Qai, Qdp, binV, ldV, Qap, V.cells, Qav, Qab, Qa5, flat, Qa1, Qa0, Qa3, ↓reduceIte, Nat.reduceEqDiff, Nat.reduceAdd, Nat.reduceLT, Nat.reduceLeDiff, Qc, Qe, Qo, Qs, Qf, Qd, Qk, Qb, Qj, Qi, Qh, endQ, rvs, rv1, resV, vw_i, vw_b, Qam, Qau, zipA, Qn, Qp, Qu, Ql, Qq, Qa, Qv, true_and, and_true, and_self, false_and, forall_const, false_implies, implies_true, reduceCtorEq, beq_false, imp_self, Qa4]
 have hf' : farB s = false := by simpa using hf
 have hlg := Qgv (Qi0 hf')
 have hsh := hlg.1
 by_cases hc : Qaw s = 0
 rotate_left
 ·simp only [rc12, rs12, g1, g2, hf, hsh, hc, h15, Qa9, Qa8, Qac, Qah, Qa6, Qae, Qa7, Qa2, Fam.step, Qaf, Qay, Qat, ug, evO, opv, qv, Qai, binV, ldV, Qap, V.cells, Qav, Qab, Qa5, flat, Qa1, Qa0, Qa3, ↓reduceIte, Nat.reduceEqDiff, Nat.reduceAdd, Nat.reduceLT, Nat.reduceLeDiff, Qc, Qe, Qo, Qs, Qf, Qd, Qk, Qb, Qj, Qi, Qh, endQ, rvs, rv1, resV, vw_i, vw_b, Qam, Qau, zipA, beq_self_eq_true, Qn, Qp, Qu, Ql, Qq, Qy, Qa, Qv, decide_false, and_true, and_self, forall_const, implies_true, reduceCtorEq, beq_false, imp_self, Qa4]
 have hS := Qdj hc hsh
 have hgs := hS.guests
 have hws := hS.wrong
 by_cases k0 : g < 0
 ·simp only [rc12, rs12, g1, g2, hf, hsh, hc, k0, h15, Qa9, Qa8, Qac, Qah, Qa6, Qae, Qa7, Qa2, Fam.step, Qaf, Qay, Qat, ug, evO, opv, qv, Qai, binV, ldV, Qap, V.cells, Qav, Qab, Qa5, flat, Qa1, Qa0, Qa3, ↓reduceIte, Nat.reduceEqDiff, Nat.reduceAdd, Nat.reduceLT, Nat.reduceLeDiff, Qc, Qe, Qo, Qs, Qf, Qd, Qk, Qb, Qj, Qi, Qh, endQ, rvs, rv1, resV, vw_i, vw_b, Qam, Qau, zipA, beq_self_eq_true, Qn, Qp, Qu, Ql, Qq, Qa, Qv, decide_true, and_true, and_self, forall_const, implies_true, reduceCtorEq, beq_false, imp_self, Qa4]
 by_cases k1 : s.guests ≤ g
 ·simp only [rc12, rs12, g1, g2, hf, hsh, hc, k0, k1, h15, Qa9, Qa8, Qac, Qah, Qa6, Qae, Qa7, Qa2, Fam.step, Qaf, Qay, Qat, ug, evO, opv, qv, Qai, binV, ldV, Qap, V.cells, Qav, Qab, Qa5, flat, Qa1, Qa0, Qa3, ↓reduceIte, Nat.reduceEqDiff, Nat.reduceAdd, Nat.reduceLT, Nat.reduceLeDiff, Qc, Qe, Qo, Qs, Qf, Qd, Qk, Qb, Qj, Qi, Qh, endQ, rvs, rv1, resV, vw_i, vw_b, Qam, Qau, zipA, beq_self_eq_true, Qn, Qp, Ql, Qq, Qa, decide_true, decide_false, and_self, forall_const, implies_true, reduceCtorEq, Qa4]
 have hgb : Qao s.guests g = true := by simp only [Qao, Qaz, Za, decide_eq_true_eq]; omega
 by_cases ht : Qaa s = []
 ·have e : Qdv s = ([], 3) := by unfold Qdv; rw [Qgi hc, if_pos ht]; rfl
  simp only [e] at g3
  simp only [rc12, rs12, g1, g2, g3, hf, hsh, hc, k0, k1, h15, Qag, Qa9, Qa8, Qac, Qah, Qa6, Qae, Qa7, Qa2, Fam.step, Qaf, Qay, Qat, ug, evO, opv, qv, Qai, binV, ldV, Qap, V.cells, Qav, Qab, Qa5, flat, Qcx, Qa1, Qa0, Qa3, ↓reduceIte, Nat.reduceEqDiff, Nat.reduceAdd, Nat.reduceLT, Nat.reduceLeDiff, Int.reduceEq, Qc, Qe, Qo, Qs, Qf, Qd, Qk, Qb, Qj, Qi, Qh, Qm, Qt, Qw, endQ, rvs, rv1, resV, vw_i, vw_b, Qam, Qau, zipA, beq_self_eq_true, Qn, Qp, Qu, Ql, Qq, Qy, Qa, Qv, decide_true, decide_false, and_self, forall_const, implies_true, reduceCtorEq, imp_self, Qa4]
 have e : Qdv s = (Qcn s s.words.length, 0) := by unfold Qdv; rw [Qgi hc, if_neg ht]; rfl
 simp only [e] at g3
 obtain ⟨l, hl⟩ : ∃ l, l = Qcn s s.words.length := ⟨_, rfl⟩
 have hlc := Qmm s
 have hll := Qno ht
 rw [← hl] at g3 hlc
 have hlw : (l.length : Int) ≤ s.wrong := by omega
 have i1 : inI (s.wrong - (l.length : Int)) := by unfold inI; omega
 obtain ⟨o, ho⟩ : ∃ o, o = Qf3 s := ⟨_, rfl⟩
 have o1 : o.guests = s.guests := by rw [ho]; rfl
 have o2 : o.wrong = s.wrong - (l.length : Int) := by rw [ho, hlc]; rfl
 have o3 : o.words = s.words.filter (Qcq s) := by rw [ho]; rfl
 have hco : Qaw o = 0 := by rw [ho]; exact Qos hc hsh ht
 have hso : Qaq o := fun v hv => hsh v (by rw [o3] at hv; exact (Zs.1 hv).1)
 have hto : Qaa o = Qaa s := by rw [ho]; exact Qmz s
 have hgo : Qao o.guests g = true := by rw [o1]; exact hgb
 have m1 : Qdn s = (((Qaa s).length : Int), 0) := by unfold Qdn; rw [if_pos hc]
 have m2 : Qdn o = (((Qaa s).length : Int), 0) := by unfold Qdn; rw [if_pos hco, hto]
 have c1 : canR s g = (Qc1 (Qaa s) g, 0) := by rw [Qfx hc hgb, if_neg ht]
 have c2 : canR o g = (Qc1 (Qaa s) g, 0) := by rw [Qfx hco hgo, hto, if_neg ht]
 have g4 := Qp0 s
 have g5 := Qp0 o
 have g6 := Qp2 s g
 have g7 := Qp2 o g
 have g8 := Qt2 (Qc1 (Qaa s) g) (Qc1 (Qaa s) g)
 have g9 := Qp1 o
 simp only [Qa4, m1] at g4
 simp only [Qa4, o1, o2, m2] at g5
 simp only [Qa4, c1] at g6
 simp only [Qa4, o1, o2, c2] at g7
 simp only [Qa4, o1, o2] at g9
 have hwl := hS.words
 have hll6 : l.length ≤ 1000000 := by omega
 have tl : (Qc1 (Qaa s) g).length ≤ 1000000 := by
  have e := Qei hS hgb
  have := Ze (fun u => (Qaa s).any fun t => decide (atN t g = u)) (ints 0 (s.guests - 1))
  rw [← e, Qec] at this
  omega
 simp only [rc12, rs12, g1, g2, g3, hf, hsh, hc, k0, k1, i1, Qag, Qa9, Qa8, Qac, Qad, Qa6, Qmu, putB, Qae, Qa7, Qa2, Fam.step, Qaf, Qcf, Qay, Qb6, Qat, ug, putB, nv, sv, evO, opv, qv, Qai, binV, ldV, lenV, Qap, Qas, putAt, Qb7, V.cells, Qav, Qbm, Qab, Qa5, flat, Qcx, Qa1, Qbn, Qa0, Qa3, ↓reduceIte, Nat.reduceEqDiff, Nat.reduceAdd, Nat.reduceLT, Nat.reduceLeDiff, Qc, Qe, Qo, Qs, Qf, Qd, Qr, Qk, Zn, Qb, Q2, Qj, Qi, Zb, Q0, Qh, Qm, Qt, Qw, Q7, Zf, vw_i, Qam, Qau, zipA, beq_self_eq_true, Qn, Qp, Qu, Ql, Qq, Qa, decide_true, decide_false, true_and, and_self, forall_const, implies_true, reduceCtorEq, imp_self, Qg, Qa4]
 refine Qc2 s.words.length (fun i => ⟨lkp [(1, .i g), (2, .pa (Qa4 s)), (5, .sl 1 (l.map eI)), (7, .ad 0 0 0), (8, .i i)], [.cells 0 [.i s.guests, .rf 1 ((s.words.take i).filter (Qcq s)).length 0 ((s.words.take i).filter (Qcq s)).length 4, .i (s.wrong - (l.length : Int))], .cells ((s.words.take i).filter (Qcq s)).length (((s.words.take i).filter (Qcq s)).map eWord).flatten]⟩) ?_ ?_ ?_
 ·simp only [Zp, Q2, List.filter_nil, Q9, cutH, kp, cutV, cutL, cutB, Qa0, Qa3, ↓reduceIte, Nat.reduceEqDiff, Nat.reduceLT, Qc, Qe, Qd, Qb, Q2, Qj, Qa4]
 ·intro i hi
  obtain ⟨w, hw⟩ : ∃ w, s.words[i]? = some w := ⟨_, Qz hi⟩
  have hlt : (i : Int) < s.words.length := by omega
  have h4 : inI ((i : Int) + 1) := by unfold inI; omega
  have k2 := Qt4 l i
  have hm := Qq7 hw
  rw [← hl] at hm
  obtain ⟨K, hK⟩ : ∃ K, K = (s.words.take i).filter (Qcq s) := ⟨_, rfl⟩
  have hKl : K.length ≤ i := by
   rw [hK]
   refine Nat.le_trans (Ze _ _) ?_
   rw [Z7]; omega
  have hst : (s.words.take (i + 1)).filter (Qcq s) = if Qcq s w = true then K ++ [w] else K := by
   rw [Qbf hw, Z4, ← hK]
   cases h : Qcq s w <;> simp [h]
  rw [hst, ← hK]
  cases h : Qcq s w with
  | true =>
   have hno : ¬ (i : Int) ∈ l := fun e => by have := hm.1 e; rw [h] at this; cases this
   have hfl : Qax (K.length + 1) := by unfold Qax; omega
   have hnx : Qa5 ((K.map eWord).flatten ++ eWord w) = false := by rw [Qbi, Qeg]; rfl
   simp only [eWord] at hnx
   simp only [hw, hlt, h4, k2, hll6, hno, hfl, Qkc, Q1, Zl, Zo, Zm, Q9, Qar _ _ _ hnx, Q5, Q6, Qag, Qa9, Qbo, Qa8, Qac, Qad, Qa6, Qcb, Qck, ↓Qbq, Qba, optL, cutH, Qae, Qaj, Qa7, Qa2, Fam.step, Qaf, Qb6, runX, eff, Qb8, fpR, fpQ, fpV, Qc3, hits, nv, sv, Qc8, evO, opv, qv, binV, ldV, iadV, lenV, curG, Qap, Qas, putAt, Qb7, Qb4, V.cells, Qav, Qbm, Qab, Qa5, flat, kp, cutV, cutL, cutB, Qa1, Qbn, Qa0, Qa3, ↓reduceIte, Nat.reduceEqDiff, Nat.reduceAdd, Nat.reduceMul, Nat.reduceLT, Nat.reduceLeDiff, Qc, Qe, Qo, Qs, Qf, Qd, Qr, Qk, Zn, Qb, Q2, Qj, Qi, Zb, Q0, Qh, Qm, Qt, Zg, Qw, Zj, Q7, Zf, Q3, Zi, Zk, Zt, vw_i, Qam, Qau, Q8, beq_self_eq_true, Qn, Qp, Qu, Z0, Zq, Ql, Z1, Qq, Qy, Qa, decide_true, decide_false, and_self, implies_true, reduceCtorEq, not_false_eq_true, ne_eq, Zd, Z2, Zw, Zr, Zh, Qg, Zc, Qx, Q4, eWord, Qa4]
  | false =>
   have hyes : (i : Int) ∈ l := hm.2 h
   simp only [hlt, h4, k2, hll6, hyes, Qar _ _ _ (Qeg _), Q5, Q6, Qag, Qa9, Qa8, Qac, Qad, Qa6, Qcb, ↓Qbq, cutH, Qae, Qaj, Qa7, Qa2, Fam.step, Qaf, evO, opv, qv, binV, ldV, lenV, Qap, Qab, Qa5, flat, kp, cutV, cutL, cutB, Qa1, Qa0, Qa3, ↓reduceIte, Nat.reduceEqDiff, Nat.reduceAdd, Nat.reduceLT, Nat.reduceLeDiff, Qc, Qe, Qf, Qd, Qr, Qk, Qb, Qj, Qi, Qh, vw_i, Qam, Qn, Ql, Qq, Qa, decide_true, and_self, implies_true, Qg, Qa4]
 ·have h77 : ¬ ((s.words.length : Int) < s.words.length) := by omega
  have hck := Qpg o.words
  have hup := Qui 0 o.words
  have hlw2 := Qkc o.words
  rw [Zy, ← o3]
  simp only [h77, hpF, upB, upL, upV, hup, hck, hlw2, Z6, vw_W, g4, g5, g6, g7, g8, g9, hsh, hso, hco, tl, h15, eq_self, Qag, Qa9, Qa8, Qac, Qb1, Qah, Qa6, Qcb, ↓Qbq, cutH, Qae, Qaj, Qa7, Qa2, Fam.step, Qaf, Qay, Qat, ug, evO, opv, qv, Qai, binV, ldV, lenV, Qap, Qab, Qa5, flat, Qcx, cutV, Qa1, Qa0, Qa3, ↓reduceIte, Nat.reduceEqDiff, Nat.reduceAdd, Nat.reduceLT, Nat.reduceLeDiff, Qc, Qe, Qo, Qs, Qf, Qd, Qr, Qk, Qb, Q2, Qj, Qi, Q0, Qh, Qm, Qt, Qw, endQ, rvs, rv1, resV, vw_i, vw_b, Qam, Qau, Qkz, Qe8, beq_self_eq_true, Qn, Qp, Qu, Ql, Qq, Qa, Qv, decide_true, decide_false, and_self, forall_const, implies_true, imp_self, Qg, Qa4]
end Go.C10
