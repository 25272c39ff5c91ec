import Derived.Test.YtcdgojonaloclaaG4
import Derived.Test.YtcdgojonaloclaaG3
set_option linter.all false
open List renaming map_cons → Qb, length_cons → Qc, length_nil → Qd, map_nil → Qe, getElem?_cons_zero → Qf, take_succ_cons → Qg, cons_append → Qh, headD_cons → Qj, nil_append → Qk, drop_succ_cons → Ql, append_nil → Qm, drop_zero → Qn, getElem?_cons_succ → Qo, getD_eq_getElem?_getD → Qp, length_map → Qq, getElem?_eq_getElem → Qr, take_nil → Qs, set_cons_zero → Qv, take_zero → Qw, all_cons → Qy, set_cons_succ → Qz, all_nil → Q0, getElem?_map → Q1, replicate_zero → Q2, flatten_nil → Q3, getElem?_nil → Q4, mem_of_getElem? → Q5, replicate_succ → Za, flatten_cons → Zc, length_append → Zf, drop_nil → Zh, isEmpty_nil → Zi, contains_nil → Zl, range → Zq, take_length → Zt, contains_cons → Zu, any_nil → Zv, isEmpty_cons → Zx, length_take_le → Zy, isEmpty → Zz, mem_range → Z1, take_of_length_le → Z5, filter_nil → Z7, any_cons → Z9, length_filter_le → Xa, mem_map → Xd, drop_eq_getElem_cons → Xe, flatten_append → Xf, idxOf_lt_length_iff → Xh, map_append → Xi, flatMap_cons → Xj, take_append_drop → Xk, all_eq_true → Xl, any_eq_true → Xm, sum_cons → Xn, take_append_of_le_length → Xo, count_le_length → Xp, getLast?_concat → Xq, range_succ → Xr, getLastD_eq_getLast? → Xv, getLast?_nil → Xy, mem_append → X0, length_singleton → X1, getElem?_eq_none → X2, drop_eq_nil_iff → X3, map_congr_left → X5, append_assoc → X7, drop_append → X9, any_append → Ja, mem_filter → Jb, range_zero → Jc, headD_nil → Jd, foldl_nil → Je
open Nat renaming zero_add → Qi, le_refl → Zp, add_zero → Zs, mul_one → Zw, le_trans → Z6, pow_le_pow_right → Xb, succ_mul → Xc, mul_le_mul_right → X4
open Bool renaming false_eq_true → Qa, or_false → Qu, and_self → Qx, not_eq_true' → Ze, and_true → Zg, not_false → Zj, not_true → Zk, false_and → Zm, and_eq_true → Zo, not_eq_true → Z0, or_eq_false_iff → Z2, and_false → Z4, false_or → Z8, true_and → Xg, decide_eq_true → Xs, not_eq_false → Xx, true_eq_false → X6, not_not → X8
open Option renaming getD_some → Qt, map_some → Q6, getD_none → Zn, some → Xw
open Int renaming natCast_zero → Q7, natCast_add → Q8, natCast_nonneg → Q9, natCast_one → Zb, toNat_natCast → Zd, lt_irrefl → Zr, add_assoc → Z3, mul_nonneg → Xt, mul_le_mul → Xu, add_zero → Xz
set_option linter.unusedSimpArgs false
set_option linter.unusedVariables false
namespace Go.C02
open Go.Fam Go.Proofs
theorem Qdq {α : Type} {e : α → List V} {k : Nat} (h : ∀ x, (e x).length = k) : ∀ l : List α, ((l.map e).flatten).length = l.length * k
 | [] => by simp
 | x :: l => by rw [Qb, Zc, Zf, h, Qdq h l, Qc, Xc]; omega
mutual
theorem Qmu (hp : List Blk) (n : Nat) : ∀ v : V, Qaa v = false → cutV hp n v = v
 | .u, _ | .b _, _ | .i _, _ | .z _, _ | .sl _ _, _ | .sx _ _, _ | .pa _, _ | .pn, _ | .yl _, _ => by simp [cutV]
 | .ag cs, h | .tp cs, h => by simp only [Qaa] at h; simp only [cutV, Qah hp n cs h]
 | .fn f cs, h => by simp only [Qaa] at h; simp only [cutV, Qah hp n cs h]
 | .gv q v, h => by simp only [Qaa] at h; simp only [cutV, Qmu hp n v h]
 | .ad _ _ _, h | .rf _ _ _ _ _, h | .mp _ _, h | .it _ _, h => by simp [Qaa] at h
theorem Qah (hp : List Blk) (n : Nat) : ∀ vs : List V, Qa6 vs = false → cutL hp n vs = vs
 | [], _ => rfl
 | v :: vs, h => by
  simp only [Qa6, Z2] at h
  simp only [cutL, Qmu hp n v h.1, Qah hp n vs h.2]
end
theorem Qcp (hp : List Blk) (n : Nat) : ∀ (a b : List V), cutL hp n (a ++ b) = cutL hp n a ++ cutL hp n b
 | [], b => rfl
 | v :: a, b => by simp only [Qh, cutL, Qcp hp n a b]
theorem Qdb : ∀ (a b : List V), Qa6 (a ++ b) = (Qa6 a || Qa6 b)
 | [], b => by simp [Qa6]
 | v :: a, b => by simp only [Qh, Qa6, Qdb a b, Bool.or_assoc]
mutual
theorem Qr1 (n : Nat) : ∀ v : V, Qaa v = false → upV n v = v
 | .u, _ | .b _, _ | .i _, _ | .z _, _ | .sl _ _, _ | .sx _ _, _ | .pa _, _ | .pn, _ | .yl _, _ => by simp [upV]
 | .ag cs, h | .tp cs, h => by simp only [Qaa] at h; simp only [upV, Qc8 n cs h]
 | .fn f cs, h => by simp only [Qaa] at h; simp only [upV, Qc8 n cs h]
 | .gv q v, h => by simp only [Qaa] at h; simp only [upV, Qr1 n v h]
 | .ad _ _ _, h | .rf _ _ _ _ _, h | .mp _ _, h | .it _ _, h => by simp [Qaa] at h
theorem Qc8 (n : Nat) : ∀ vs : List V, Qa6 vs = false → upL n vs = vs
 | [], _ => rfl
 | v :: vs, h => by
  simp only [Qa6, Z2] at h
  simp only [upL, Qr1 n v h.1, Qc8 n vs h.2]
end
theorem Qc4 {α : Type} {e : α → List V} (h : ∀ x, Qa6 (e x) = false) : ∀ l : List α, Qa6 (l.map e).flatten = false
 | [] => rfl
 | x :: l => by simp only [Qb, Zc, Qdb, h, Qc4 h l, Qu]
theorem Qk2 (vs : List V) (n : Nat) (h : Qa6 vs = false) : Qa6 (vs.take n) = false := by
 have := Qdb (vs.take n) (vs.drop n)
 rw [Xk, h] at this
 exact (Z2.1 this.symm).1
theorem Qk1 (vs : List V) (n : Nat) (h : Qa6 vs = false) : Qa6 (vs.drop n) = false := by
 have := Qdb (vs.take n) (vs.drop n)
 rw [Xk, h] at this
 exact (Z2.1 this.symm).2
theorem Qtg {vs : List V} {k : Nat} {v : V} (h : vs[k]? = some v) : vs.take k ++ [v] ++ vs.drop (k + 1) = vs := by
 have hl := Qav h
 have e : vs[k] = v := by rw [Qr hl] at h; exact Xw.inj h
 rw [← e, X7, List.singleton_append, ← Xe hl, Xk]
theorem Qo1 {α : Type} {e : α → List V} {k : Nat} (h : ∀ x, (e x).length = k) : ∀ (l : List α) (i j : Nat) (x : α), l[i]? = some x → j < k → ((l.map e).flatten)[i * k + j]? = (e x)[j]?
 | [], i, j, x, hx, _ => by simp at hx
 | y :: l, 0, j, x, hx, hj => by
  simp at hx; subst hx
  rw [Qb, Zc, List.getElem?_append_left (by rw [h]; omega)]
  congr 1; omega
 | y :: l, i + 1, j, x, hx, hj => by
  rw [Qb, Zc, List.getElem?_append_right (by rw [h, Xc]; omega), h]
  have := Qo1 h l i j x (by simpa using hx) hj
  rw [← this]; congr 1; rw [Xc]; omega
theorem Qd6 {α : Type} {e : α → List V} {k : Nat} (h : ∀ x, (e x).length = k) : ∀ (l : List α), Qd8 k ((l.map e).flatten) 0 l.length = l.map e
 | [] => by simp [Qd8]
 | x :: l => by
  rw [Qc, Qmq, Qb, Zc, Qi, Qn]
  have e1 : (e x ++ (l.map e).flatten).take k = e x := by rw [Xo (by rw [h]; exact Zp _), Z5 (by rw [h]; exact Zp _)]
  rw [e1]
  congr 1
  have ih := Qd6 h l
  unfold Qd8 at ih ⊢
  conv => rhs; rw [← ih]
  apply X5
  intro j _
  congr 1
  have e2 : k + j * k = (e x).length + j * k := by rw [h]
  rw [e2, X9, Qi]
  simp
theorem Qcq {α : Type} {e : α → List V} (hp : List Blk) (n : Nat) (h : ∀ x, (e x).map (vw hp n) = e x) (l : List α) : (l.map e).map (fun r => r.map (vw hp n)) = l.map e := by
 rw [List.map_map]
 exact X5 fun x _ => h x
theorem P22 (d : Dome) (h : d.bolts.length < 1000000 ∧ d.gores.length < 1000000 ∧ d.rounds.length < 1000000 ∧ d.widths.length < 1000000 ∧ ∀ b ∈ d.bolts, b.strips.length < 1000000) : Qab Try.prog 55 [.ag (Qal d)] (.ag (Qal d)) := by
 refine Qac okH hmix Try.func55 cb55 cc55 cs55 cn55 ?_
 simp only [rc55, rs55, Q3, Qa7, Qa8, Qa9, Qa4, putB, Qae, Qa5, Qa2, Fam.step, Qaf, Qbi, Qb4, putB, nv, sv, Qce, evO, opv, qv, ldV, curG, Qap, putAt, Qb7, Qb6, V.cells, Qas, Qb3, Qaa, Qa6, Qa3, Qat, Qa0, Qa1, ↓reduceIte, Nat.reduceEqDiff, Nat.reduceAdd, Nat.reduceMul, Nat.reduceLeDiff, Qb, Qe, Qy, Q0, Qc, Qd, Ql, Qn, Zh, Qg, Qw, Qs, Qj, Qh, Qk, Qm, Qf, Qo, Qv, Qz, Q2, vw_i, Qay, Qaz, zipA, beq_self_eq_true, Qi, Zs, Qx, Qu, Qa, true_and, and_self, Qq, Qal]
 refine ⟨by unfold Qbd; omega, ?_⟩
 refine Qbg d.bolts.length (fun i => ⟨lkp [(1, .pa (Qal d)), (2, .ad 0 0 0), (3, .ad 1 0 0), (4, .i i)], [.cells 0 [.z 4, .z 1, .i 0, .z 2, .z 1, .i 0], .cells 0 [.rf 2 1 0 d.bolts.length 4, .sl 1 (d.gores.map eI), .i d.loss, .sl 2 (d.rounds.map eSpan), .sl 1 (d.widths.map eI), .i d.slope], .cells 1 (d.bolts.map eBolt).flatten]⟩) ?_ ?_ ?_
 ·simp only [Q7, Qah _ _ _ (Qc4 (e := eBolt) (fun _ => rfl) d.bolts), cutH, kp, cutV, cutL, cutB, Qa0, Qa1, ↓reduceIte, Nat.reduceEqDiff, Nat.reduceLT, Qb, Qe, Qg, Qs, Qal]
 ·intro i hi
  obtain ⟨x, hx⟩ : ∃ x, d.bolts[i]? = some x := ⟨_, Qr hi⟩
  have hlt : (i : Int) < d.bolts.length := by omega
  have h3 : inI ((i : Int) + 1) := by unfold inI; omega
  have hfl := Qdq (e := eBolt) (k := 4) (fun _ => rfl) d.bolts
  have hst : Qbd x.strips.length := by have := h.2.2.2.2 x (Q5 hx); unfold Qbd; omega
  have hoff : i * 4 + 2 + 1 ≤ d.bolts.length * 4 := by omega
  have hnr := Qc4 (e := eBolt) (fun _ => rfl) d.bolts
  have hns := Qc4 (e := eStrip) (fun _ => rfl) x.strips
  have hsl := Qdq (e := eStrip) (k := 3) (fun _ => rfl) x.strips
  have hvw : ∀ hp, (x.strips.map eStrip).map (fun r => r.map (vw hp 7)) = x.strips.map eStrip := fun hp => Qcq (e := eStrip) hp 7 (fun _ => rfl) _
  have hput : List.take (i * 4 + 2) (d.bolts.map eBolt).flatten ++ [V.sl 3 (x.strips.map eStrip)] ++ List.drop (i * 4 + 2 + 1) (d.bolts.map eBolt).flatten = (d.bolts.map eBolt).flatten :=
   Qtg (Qo1 (k := 4) (fun _ => rfl) d.bolts i 2 x hx (by decide))
  simp only [hx, hlt, Q8, Zb, h3, Q3, hfl, hst, hoff, Qcp, Qah _ _ _ (Qk2 _ _ hnr), Qah _ _ _ (Qk1 _ _ hnr), Qah _ _ _ hnr, hpF, upB, Qc8 _ _ hns, Qd6 (e := eStrip) (k := 3) (fun _ => rfl), hsl, hvw, Zp, hput, Qag, Qa7, Qbf, Qa8, Qad, Qa9, Qa4, Qc5, ↓Qbl, Qba, optL, cutH, Qae, Qaj, Qa5, Qa2, Fam.step, Qaf, Qb4, runX, eff, Qb9, fpR, fpQ, fpV, Qbp, hits, nv, sv, Qce, evO, opv, qv, binV, ldV, iadV, lenV, curG, Qap, putAt, Qb7, Qb6, V.cells, Qas, Qb3, kp, cutV, cutL, cutB, Qa3, Qat, Qa0, Qa1, ↓reduceIte, Nat.reduceEqDiff, Nat.reduceAdd, Nat.reduceMul, Nat.reduceLT, Nat.reduceLeDiff, Nat.reduceBEq, Qb, Qe, Qy, Q0, Qc, Qd, Ql, Qn, Qg, Qw, Qs, Qj, Qh, Qk, Qf, Qo, Q4, Qt, Zn, Qv, Qz, Q2, Za, Zi, Zx, Qdw, Q9, beq_self_eq_true, Qi, Zs, Qx, Zg, Xg, Zm, Z4, Qu, Z8, Zk, Zj, Qa, decide_true, and_self, false_and, reduceCtorEq, Q6, Z9, Zv, Zu, Zl, Qq, Zd, Qp, Q1, eBolt, Qal]
 ·have v1 : ∀ hp, (d.bolts.map eBolt).map (fun r => r.map (vw hp 6)) = d.bolts.map eBolt := fun hp => Qcq (e := eBolt) hp 6 (fun _ => rfl) _
  have v2 : ∀ hp, (d.gores.map eI).map (fun r => r.map (vw hp 6)) = d.gores.map eI := fun hp => Qcq (e := eI) hp 6 (fun _ => rfl) _
  have v3 : ∀ hp, (d.rounds.map eSpan).map (fun r => r.map (vw hp 6)) = d.rounds.map eSpan := fun hp => Qcq (e := eSpan) hp 6 (fun _ => rfl) _
  have v4 : ∀ hp, (d.widths.map eI).map (fun r => r.map (vw hp 6)) = d.widths.map eI := fun hp => Qcq (e := eI) hp 6 (fun _ => rfl) _
  simp only [Q3, Qdq (e := eBolt) (k := 4) (fun _ => rfl), Qdq (e := eI) (k := 1) (fun _ => rfl), Qdq (e := eSpan) (k := 2) (fun _ => rfl), Qd6 (e := eBolt) (k := 4) (fun _ => rfl), Qd6 (e := eI) (k := 1) (fun _ => rfl), Qd6 (e := eSpan) (k := 2) (fun _ => rfl), v1, v2, v3, v4, Zp, Qa7, Qbf, Qa8, Qad, Qam, Qai, Qa4, Qba, optL, putB, Qae, Qaj, Qa5, Qa2, Fam.step, Qaf, Qbi, Qb4, runX, eff, Qb9, fpR, fpQ, fpV, Qbp, hits, putB, nv, sv, Qce, evO, opv, qv, binV, ldV, lenV, curG, Qap, putAt, Qb7, Qb6, V.cells, Qas, Qb3, Qa3, Qat, Qa0, Qa1, ↓reduceIte, Nat.reduceEqDiff, Nat.reduceAdd, Nat.reduceMul, Nat.reduceLeDiff, Nat.reduceBEq, Qb, Qe, Qy, Q0, Qc, Qd, Ql, Qn, Zh, Qg, Qw, Qs, Qj, Qh, Qk, Qm, Qf, Qo, Q4, Qt, Zn, Qv, Qz, Q2, Za, Zi, Zx, endQ, rvs, rv1, resV, vw_i, Qaz, Qdw, Zr, beq_self_eq_true, Qi, Zs, Qx, Zg, Xg, Zm, Z4, Qu, Z8, Zk, Zj, Qa, decide_false, true_and, and_true, and_self, Z9, Zv, Zu, Zl, Qq, Qp, Qal]
  unfold Qbd
  omega
end Go.C02
set_option linter.unusedSimpArgs false
set_option linter.unusedVariables false
namespace Go.C02
open Go.Fam Go.Proofs
def ints (lo hi : Int) : List Int := (Zq (hi + 1 - lo).toNat).map fun (k : Nat) => lo + k
theorem Qhb (lo hi : Int) : (ints lo hi).length = (hi + 1 - lo).toNat := by simp [ints]
theorem Qha {lo hi : Int} {k : Nat} (h : k < (hi + 1 - lo).toNat) : (ints lo hi)[k]? = some (lo + k) := by simp [ints, h]
theorem Qw5 {lo hi : Int} {k : Nat} {x : Int} (h : (ints lo hi)[k]? = some x) : x = lo + k ∧ k < (hi + 1 - lo).toNat := by
 have hl := Qav h
 rw [Qhb] at hl
 rw [Qha hl] at h
 exact ⟨(Xw.inj h).symm, hl⟩
theorem Qiw {lo hi n : Int} : n ∈ ints lo hi ↔ lo ≤ n ∧ n ≤ hi := by
 simp only [ints, Xd, Z1]
 constructor
 ·rintro ⟨k, hk, rfl⟩; omega
 ·rintro ⟨h1, h2⟩; exact ⟨(n - lo).toNat, by omega, by omega⟩
theorem Qvh {α : Type} {l : List α} {k : Nat} {x : α} (h : l[k]? = some x) : l.drop k = x :: l.drop (k + 1) := by
 have hl := Qav h
 rw [Xe hl]
 rw [Qr hl] at h
 rw [Xw.inj h]
def ysB (b : Bolt) : List (List V) := (ints b.stretch.low b.stretch.high).map fun n => [.i n]
theorem I70 (b : Bolt) (h1 : tame 1000 b.stretch.low) (h2 : tame 1000 b.stretch.high) : Qkf Try.prog 118 [.pa (eBolt b)] (ysB b) := by
 refine Qwb okH hmix Try.func118 cb118 (md := 2) rfl cc118 cs118 cn118 ?_
 intro l
 simp only [rc118, Qa7, Qa8, Qa9, Qa4, Qae, Qa5, Qa2, Fam.step, Qaf, evO, opv, qv, ldV, Qa3, Qa0, Qa1, ↓reduceIte, Nat.reduceEqDiff, Nat.reduceAdd, Nat.reduceLeDiff, Qb, Qe, Qc, Qd, Qn, Qj, zipA, Qi, Qa, true_and, reduceCtorEq, eBolt]
 have hN : ∀ i, i < (b.stretch.high + 1 - b.stretch.low).toNat → (ysB b)[i]? = some [.i (b.stretch.low + i)] := fun i hi => by simp only [ysB, Q1, Qha hi, Q6]
 refine Qbg (b.stretch.high + 1 - b.stretch.low).toNat (fun i => ⟨lkp [(0, .yl l), (1, .pa (eBolt b)), (3, .i (b.stretch.low + i))], [.gh [.yl l, .pa (eBolt b)] (some ((ysB b).drop i))]⟩) ?_ ?_ ?_
 ·simp only [Q7, Xz, kp, Qa0, Qa1, ↓reduceIte, Nat.reduceEqDiff, Qb, Qe, Qn, reduceCtorEq, eBolt]
 ·intro i hi
  have hy := Qvh (hN i hi)
  have hlt : b.stretch.low + (i : Int) ≤ b.stretch.high := by omega
  have h3 : inI (b.stretch.low + (i : Int) + 1) := by unfold inI; unfold tame at *; omega
  simp only [hy, hlt, Q8, Zb, Z3, Qag, Qa7, Qa8, Qad, Qbe, Qa9, Qai, Qa4, Qxd, Qs0, yres, Qs1, endI, Qae, Qaj, Qa5, Qa2, Fam.step, Qaf, Qb4, Qbq, evO, opv, qv, binV, ldV, flat, Qcy, kp, Qa3, Qa0, Qa1, ↓reduceIte, Nat.reduceEqDiff, Nat.reduceAdd, Nat.reduceLeDiff, Qb, Qe, Qc, Qd, Ql, Qn, Qj, Qf, Qi, Qx, Qa, decide_true, true_and, reduceCtorEq, Ze, Xx, eBolt]
  refine ⟨?_, ?_⟩
  ·simp [flat]
  ·intro bb
   cases bb <;> simp only [↓reduceIte, Qa, X6, true_and, and_true, and_self, forall_const, false_implies]
   rw [Z3] at h3
   exact h3
 ·have hgt : ¬ (b.stretch.low + ((b.stretch.high + 1 - b.stretch.low).toNat : Int) ≤ b.stretch.high) := by omega
  have hnil : (ysB b).drop (b.stretch.high + 1 - b.stretch.low).toNat = [] := by rw [X3]; simp [ysB, Qhb]
  simp only [hgt, hnil, Qa7, Qa8, Qad, Qam, Qa4, endI, Qae, Qaj, Qa5, Qa2, Fam.step, Qaf, evO, opv, qv, binV, ldV, Qa3, Qa0, Qa1, ↓reduceIte, Nat.reduceEqDiff, Nat.reduceAdd, Nat.reduceLeDiff, Qb, Qe, Qc, Qd, Ql, Qn, Qj, Qf, Qi, Qa, decide_false, and_self, reduceCtorEq, eBolt]
structure ValidB (b : Bolt) : Prop where
 st : 0 ≤ b.stretch.low ∧ b.stretch.low ≤ b.stretch.high ∧ b.stretch.high ≤ 60
 n : b.strips.length ≤ 8
 wr : 0 ≤ b.wrong ∧ b.wrong ≤ 2
 sp : ∀ x ∈ b.strips, 1 ≤ x.long ∧ x.long ≤ 2000 ∧ 0 ≤ x.pulled.low ∧ x.pulled.low ≤ x.pulled.high ∧ x.pulled.high ≤ 4000
structure Valid (d : Dome) : Prop where
 nb : 1 ≤ d.bolts.length ∧ d.bolts.length ≤ 4
 ng : 3 ≤ d.gores.length ∧ d.gores.length ≤ 16
 nr : 1 ≤ d.rounds.length ∧ d.rounds.length ≤ 12
 nw : d.widths.length = d.rounds.length
 loss : 0 ≤ d.loss ∧ d.loss ≤ 20
 slope : 0 ≤ d.slope ∧ d.slope ≤ 500
 gores : ∀ g ∈ d.gores, 0 ≤ g ∧ g < d.bolts.length
 rounds : ∀ s ∈ d.rounds, 0 ≤ s.low ∧ s.low ≤ s.high ∧ s.high ≤ 40000
 widths : ∀ n ∈ d.widths, 2 * d.loss ≤ n ∧ n ≤ 2000
 bolts : ∀ b ∈ d.bolts, ValidB b
theorem Qxo {b : Bolt} (h : Qds b = true) : ValidB b := by
 simp only [Qds, Qcn, Qak, Zo, decide_eq_true_eq, Xl, Qef] at h
 refine ⟨by omega, by omega, by omega, fun x hx => ?_⟩
 have := h.2 x hx
 omega
theorem Qwa {d : Dome} (h : Qcl d = 0) : Qeh d = true ∧ d.bolts.all Qds = true := by
 unfold Qcl at h
 cases h1 : Qeh d <;> cases h2 : d.bolts.all Qds <;> simp [h1, h2] at h ⊢
theorem Qg9 {d : Dome} (h : Qcl d = 0) : Valid d := by
 obtain ⟨h1, h2⟩ := Qwa h
 simp only [Qeh, Qio, Qak, Zo, decide_eq_true_eq, Xl, Qin, Qfj, Qcn, Qfk] at h1
 rw [Xl] at h2
 refine ⟨by omega, by omega, by omega, by omega, by omega, by omega, fun g hg => ?_, fun s hs => ?_, fun n hn => ?_, fun b hb => Qxo (h2 b hb)⟩
 ·have := h1.1.1.2 g hg; omega
 ·have := h1.1.2 s hs; omega
 ·have := h1.2 n hn; omega
theorem ValidB.ok66 {b : Bolt} (h : ValidB b) {s : Int} (hs : 0 ≤ s ∧ s ≤ 60) : ok66 b.strips s := by
 refine ⟨by unfold tame; omega, fun x hx => ?_, by have := h.n; omega⟩
 have := h.sp x hx
 unfold tame; omega
theorem P60 (b : Bolt) : Qab Try.prog 99 [.ag (eBolt b)] (.fn 118 [.pa (eBolt b)]) := by
 refine Qac okH hmix Try.func99 cb99 cc99 cs99 cn99 ?_
 simp only [rc99, rs99, eBolt, Qa7, Qa8, Qai, Qa4, Qae, Qa5, Qa2, Fam.step, Qaf, evO, opv, qv, V.cells, Qas, Qaa, Qa6, Qa3, Qa0, Qa1, ↓reduceIte, Nat.reduceEqDiff, Qb, Qe, endQ, rvs, rv1, resV, vw_i, Qay, Qda, Qaz, Qjb, zipA, Qu, and_self, eBolt]
def rI70 : List V → Prop × V := fnG (fun b => [.pa (eBolt b)]) (fun vs => Qnr (pC (vs.headD .u))) (fun b => tame 1000 b.stretch.low ∧ tame 1000 b.stretch.high) ysB (.sl 0)
def r60 : List V → Prop × V := fnG (fun b => [.ag (eBolt b)]) dB (fun _ => True) (fun b => b) (fun b => .fn 118 [.pa (eBolt b)])
def r41 : List V → Prop × V := fnG (fun d => [.ag (Qal d)]) dD (fun _ => True) Qcl .i
def eDN (a : Dome × Int) : List V := [.ag (Qal a.1), .i a.2]
def dDN : List V → Dome × Int | [.ag cs, .i n] => (Qjh cs, n) | _ => (D0, 0)
theorem Qy5 (a : Dome × Int) : dDN (eDN a) = a := by simp [dDN, eDN, Qdh]
def r46 : List V → Prop × V := fnG eDN dDN (fun a => a.1.rounds.length < 1000) (fun a => Qak a.2 0 (a.1.rounds.length - 1)) .b
def r56 : List V → Prop × V := fnG eDN dDN (fun a => a.1.bolts.length < 1000) (fun a => Qak a.2 0 (a.1.bolts.length - 1)) .b
def r61 : List V → Prop × V := fnG eBI dBI (fun a => ok66 a.1.strips a.2) (fun a => (Qdl a.1.strips a.2 : Int)) .i
def GJ : Gam := ((((((GH.ext 74 r41).ext 97 r46).ext 103 r56).ext 100 r61).ext 58 r39).ext 99 r60).ext 2000118 rI70
theorem okJ : GOk Try.prog GJ := by
 have k1 := okH.ext (f := 74) (r := r41) (fun a w => Try.call74 a w) (Qau fun a _ => P41 a)
 have k2 := k1.ext (f := 97) (r := r46) (fun a w => Try.call97 a w) (Qau fun a h => P46 a.1 a.2 h)
 have k3 := k2.ext (f := 103) (r := r56) (fun a w => Try.call103 a w) (Qau fun a h => P56 a.1 a.2 h)
 have k4 := k3.ext (f := 100) (r := r61) (fun a w => Try.call100 a w) (Qau fun a h => P61 a.1 a.2 h)
 have k5 := k4.ext (f := 58) (r := r39) (fun a w => Try.call58 a w) (Qau fun a _ => P39 a)
 have k6 := k5.ext (f := 99) (r := r60) (fun a w => Try.call99 a w) (Qau fun a _ => P60 a)
 refine k6.extI (f := 118) (r := rI70) (fun a w => Try.call118 a w) fun vs ys h1 h2 => ?_
 simp only [rI70, fnG, V.sl.injEq, true_and] at h1 h2
 rw [← h1.1, ← h2]
 exact I70 _ h1.2.1 h1.2.2
theorem gJ54 (n lo hi : Int) : GJ 88 [.i n, .i lo, .i hi] = (True, .b (Qak n lo hi)) := rfl
theorem gJ66 (a b : Int) (l : List Strip) (w s : Int) : GJ 93 [.ag [.i a, .i b, .sl 3 (l.map eStrip), .i w], .i s] = (ok66 l s, .i (Qdl l s)) :=
 (show GJ 93 _ = r66 (eBI (⟨⟨a, b⟩, l, w⟩, s)) from rfl).trans (Qb1 _ (Qv5 _))
theorem gJ61 (a b : Int) (l : List Strip) (w s : Int) : GJ 100 [.ag [.i a, .i b, .sl 3 (l.map eStrip), .i w], .i s] = (ok66 l s, .i (Qdl l s)) :=
 (show GJ 100 _ = r61 (eBI (⟨⟨a, b⟩, l, w⟩, s)) from rfl).trans (Qb1 _ (Qv5 _))
theorem gJ49 (a b : Int) (l : List Strip) (w s : Int) : GJ 69 [.ag [.i a, .i b, .sl 3 (l.map eStrip), .i w], .i s] = (ok66 l s, .b (can ⟨⟨a, b⟩, l, w⟩ s)) :=
 (show GJ 69 _ = r49 (eBI (⟨⟨a, b⟩, l, w⟩, s)) from rfl).trans (Qb1 _ (Qv5 _))
theorem gJ41 (d : Dome) : GJ 74 [.ag (Qal d)] = (True, .i (Qcl d)) := (show GJ 74 _ = r41 [.ag (Qal d)] from rfl).trans (Qb1 (e := fun d => [.ag (Qal d)]) d (Qdh _))
theorem gJ39 (d : Dome) : GJ 58 [.ag (Qal d)] = (True, .i (Qcl d)) := (show GJ 58 _ = r39 [.ag (Qal d)] from rfl).trans (Qb1 (e := fun d => [.ag (Qal d)]) d (Qdh _))
theorem gJ46 (d : Dome) (n : Int) : GJ 97 [.ag (Qal d), .i n] = (d.rounds.length < 1000, .b (Qak n 0 (d.rounds.length - 1))) := (show GJ 97 _ = r46 (eDN (d, n)) from rfl).trans (Qb1 _ (Qy5 _))
theorem gJ56 (d : Dome) (n : Int) : GJ 103 [.ag (Qal d), .i n] = (d.bolts.length < 1000, .b (Qak n 0 (d.bolts.length - 1))) := (show GJ 103 _ = r56 (eDN (d, n)) from rfl).trans (Qb1 _ (Qy5 _))
theorem gJ60 (b : Bolt) : GJ 99 [.ag (eBolt b)] = (True, .fn 118 [.pa (eBolt b)]) := (show GJ 99 _ = r60 [.ag (eBolt b)] from rfl).trans (Qb1 (e := fun b => [.ag (eBolt b)]) b (Qeq _))
theorem gJ70 (b : Bolt) : GJ 2000118 [.pa (eBolt b)] = (tame 1000 b.stretch.low ∧ tame 1000 b.stretch.high, .sl 0 (ysB b)) := (show GJ 2000118 _ = rI70 [.pa (eBolt b)] from rfl).trans (Qb1 (e := fun b => [.pa (eBolt b)]) b (Qeq _))
theorem Qxs {b : Bolt} {k : Nat} {x : List V} (h : (ysB b)[k]? = some x) : x = [.i (b.stretch.low + k)] ∧ k < (b.stretch.high + 1 - b.stretch.low).toNat := by
 simp only [ysB, Q1, Option.map_eq_some_iff] at h
 obtain ⟨n, hn, rfl⟩ := h
 obtain ⟨rfl, h2⟩ := Qw5 hn
 exact ⟨rfl, h2⟩
theorem Zbi (b : Bolt) : (ysB b).length = (b.stretch.high + 1 - b.stretch.low).toNat := by simp [ysB, Qhb]
def Qdo (d : Dome) (n : Int) : Bolt := (d.bolts[n.toNat]?).getD ⟨⟨0, 0⟩, [], 0⟩
theorem Qhp {n : Int} {k : Nat} (h : Qak n 0 ((k : Int) - 1) = true) : 0 ≤ n ∧ n < k := by simp only [Qak, Zo, decide_eq_true_eq] at h; omega
end Go.C02
set_option linter.unusedSimpArgs false
set_option linter.unusedVariables false
namespace Go.C02
open Go.Fam Go.Proofs
theorem Qgq {α : Type} (e : α → List V) (l : List α) (x : α) : ((l ++ [x]).map e).flatten = (l.map e).flatten ++ e x := by simp
theorem Qg1 {α : Type} (p : α → Bool) {l : List α} {k : Nat} {x : α} (h : l[k]? = some x) : (l.take (k + 1)).filter p = (l.take k).filter p ++ (if p x then [x] else []) := by
 rw [Qar h, List.filter_append]
 congr 1
 by_cases hp : p x <;> simp [hp]
theorem Qdp (l : List Int) : Qd8 1 ((l.map eI).flatten) 0 l.length = l.map eI := Qd6 (e := eI) (k := 1) (fun _ => rfl) l
theorem Qet (l : List Int) : ((l.map eI).flatten).length = l.length * 1 := Qdq (e := eI) (k := 1) (fun _ => rfl) l
theorem vw_I (hp : List Blk) (n : Nat) (l : List Int) : (l.map eI).map (fun r => r.map (vw hp (n + 1))) = l.map eI := Qcq (e := eI) hp (n + 1) (fun _ => rfl) l
theorem Qdu (l : List Int) : Qa6 ((l.map eI).flatten) = false := Qc4 (e := eI) (fun _ => rfl) l
def Qan (b : Bolt) : List Int := (ints b.stretch.low b.stretch.high).filter (can b)
def Qbm (b : Bolt) (k : Nat) : List Int := ((ints b.stretch.low b.stretch.high).take k).filter (can b)
theorem Qfi {b : Bolt} {k : Nat} (h : k < (b.stretch.high + 1 - b.stretch.low).toNat) : Qbm b (k + 1) = Qbm b k ++ (if can b (b.stretch.low + k) then [b.stretch.low + k] else []) :=
 Qg1 _ (Qha h)
theorem Qg5 (b : Bolt) : Qbm b (b.stretch.high + 1 - b.stretch.low).toNat = Qan b := by
 unfold Qbm Qan
 rw [← Qhb, Zt]
theorem Qg6 (b : Bolt) (k : Nat) : (Qbm b k).length ≤ k := by
 unfold Qbm
 exact Z6 (Xa _ _) (Zy _ _)
theorem P65 (b : Bolt) (hv : ValidB b) : Qab Try.prog 106 [.ag (eBolt b)] (eIs (Qan b)) := by
 refine Qac okJ hmix Try.func106 cb106 cc106 cs106 cn106 ?_
 have hst := hv.st
 simp only [rc106, rs106, Qa7, Qa8, Qa9, Qa4, Qgh, Qae, Qa5, Qa2, Fam.step, Qaf, evO, opv, qv, ldV, V.cells, Qas, Qaa, Qa6, Qa3, Qa0, Qa1, ↓reduceIte, Nat.reduceEqDiff, Nat.reduceAdd, Nat.reduceLeDiff, Qb, Qe, Qc, Qd, Qn, Qj, Qk, vw_i, Qay, Qaz, zipA, Qi, Qu, Qa, true_and, and_self, eBolt, eIs]
 refine Qbg (b.stretch.high + 1 - b.stretch.low).toNat (fun i => ⟨lkp [(1, .pa (eBolt b)), (3, .rf 0 (Qbm b i).length 0 (Qbm b i).length 1), (4, .i (b.stretch.low + i))], [.cells (Qbm b i).length ((Qbm b i).map eI).flatten]⟩) ?_ ?_ ?_
 ·simp only [Q7, Xz, Qbm, Z7, Q3, kp, Qa0, Qa1, ↓reduceIte, Nat.reduceEqDiff, Qb, Qe, Qd, Qw, eBolt]
 ·intro i hi
  have hlt : b.stretch.low + (i : Int) ≤ b.stretch.high := by omega
  have h3 : inI (b.stretch.low + (i : Int) + 1) := by unfold inI; omega
  have h4 := hv.ok66 (s := b.stretch.low + i) (by omega)
  have h5 := Qg6 b i
  simp only [hlt, h4, gJ49, Qfi hi, Q8, Zb, Z3, Qnp, Qi9, Qag, Qa7, Qa8, Qad, Qbe, Qa9, Qa4, Qcv, putB, Qae, Qaj, Qa5, Qa2, Fam.step, Qaf, Qbi, Qb4, putB, nv, sv, Qce, evO, opv, qv, binV, ldV, Qaw, Qap, putAt, Qb7, Qb6, V.cells, Qas, Qb3, Qaa, Qa6, flat, kp, Qa3, Qa0, Qa1, ↓reduceIte, Nat.reduceEqDiff, Nat.reduceAdd, Nat.reduceMul, Nat.reduceLT, Nat.reduceLeDiff, Qb, Qe, Qy, Q0, Qc, Qd, Ql, Qn, Qg, Qw, Qs, Qj, Qh, Qk, Qm, Qf, Qv, Q2, Za, vw_i, Qay, Qaz, Qi, Qx, Qu, Qa, decide_true, true_and, and_self, implies_true, reduceCtorEq, not_false_eq_true, ne_eq, Z0, Qi9, Qnp, eBolt]
  rw [Z3] at h3
  refine ⟨fun h => ?_, fun h => ?_⟩
  ·simp only [h, h3, Qet, Zw, Zf, Xi, Xf, Zc, Q3, ↓reduceIte, Qb, Qe, Qc, Qd, Qm, Qi, true_and, and_true, and_self, eI]
   unfold Qbd; omega
  ·simp only [h, h3, ↓reduceIte, Qm, Qa, and_self]
 ·have hgt : ¬ (b.stretch.low + ((b.stretch.high + 1 - b.stretch.low).toNat : Int) ≤ b.stretch.high) := by omega
  simp only [hgt, Qet, Zw, Zp, Qdp, vw_I, Qg5, Qa7, Qa8, Qad, Qam, Qai, Qa4, Qae, Qaj, Qa5, Qa2, Fam.step, Qaf, evO, opv, qv, binV, ldV, Qa3, Qa0, Qa1, ↓reduceIte, Nat.reduceEqDiff, Nat.reduceAdd, Nat.reduceLeDiff, Qb, Qe, Qc, Qd, Ql, Qn, Qj, Qf, endQ, rvs, rv1, resV, Qdw, Qi, Qa, decide_false, and_self, eBolt]
def Qbj (d : Dome) : List (List Int) := d.bolts.map Qan
theorem Qky (l : List (List Int)) : Qd8 1 ((l.map eCan).flatten) 0 l.length = l.map eCan := Qd6 (e := eCan) (k := 1) (fun _ => rfl) l
theorem Qo9 (l : List (List Int)) : ((l.map eCan).flatten).length = l.length * 1 := Qdq (e := eCan) (k := 1) (fun _ => rfl) l
theorem vw_C (hp : List Blk) (n : Nat) (l : List (List Int)) : (l.map eCan).map (fun r => r.map (vw hp (n + 1))) = l.map eCan := Qcq (e := eCan) hp (n + 1) (fun _ => rfl) l
theorem Qfh (l : List (List Int)) : Qa6 ((l.map eCan).flatten) = false := Qc4 (e := eCan) (fun _ => rfl) l
def Qbc (d : Dome) (is : Bool) : Int := if Qcl d ≠ 0 then Qcl d else if is then (if (Qbj d).any Zz then 3 else 0) else 1
def Qgy (d : Dome) (is : Bool) : V := .tp [if Qbc d is = 0 then .pa (Qbk ⟨d, Qbj d⟩) else .pn, .i (Qbc d is)]
theorem Qu6 (b : Bolt) {s : Int} (h1 : b.stretch.low ≤ s) (h2 : s ≤ b.stretch.high) : can b s = decide ((Qdl b.strips s : Int) ≤ b.wrong) := by
 simp [can, Qak, h1, h2]
theorem P45 (d : Dome) (is : Bool) : Qab Try.prog 79 [.ag (Qal d), .b is] (Qgy d is) := by
 refine Qac okJ hmix Try.func79 cb79 cc79 cs79 cn79 ?_
 have g1 := gJ41 d
 unfold Qal at g1
 simp only [rc79, rs79, g1, Qgy, Qag, Qa7, Qa8, Qad, Qbe, Qa9, Qai, Qa4, Qm4, Qae, Qa5, Qa2, Fam.step, Qaf, Qbi, Qb4, nv, evO, opv, qv, binV, ldV, lenV, Qaw, Qap, putAt, Qb7, V.cells, Qas, Qb3, Qaa, Qa6, flat, Qa3, Qa0, Qa1, ↓reduceIte, Nat.reduceEqDiff, Nat.reduceAdd, Nat.reduceLT, Nat.reduceLeDiff, Qb, Qe, Qy, Q0, Qc, Qd, Ql, Qn, Qg, Qw, Qs, Qj, Qh, Qk, Qm, Qf, Qo, Q4, Qv, Qz, endQ, rvs, rv1, resV, vw_i, Qul, Qay, Qaz, Qcg, zipA, Qi, Qx, Qu, Qa, decide_eq_false_iff_not, true_and, and_self, implies_true, reduceCtorEq, Ze, Qq, Xx, Classical.not_not, Qal, Qbk]
 refine ⟨fun h => ?_, fun h => ⟨fun h2 => ?_, fun h2 => ?_⟩⟩
 ·have e : Qbc d is = Qcl d := by simp [Qbc, h]
  rw [e, if_neg h]
 ·have e : Qbc d is = 1 := by simp [Qbc, h, h2]
  rw [e]; rfl
 have hv := Qg9 h
 have hnb := hv.nb
 refine Qb8 d.bolts.length (fun i => ⟨lkp [(7, .ad 0 0 0), (23, .sl 4 (d.bolts.map eBolt)), (24, .i d.bolts.length), (25, .i i), (31, .u)],
  [.cells 0 (Qal d ++ [.rf 1 i 0 i 1]), .cells i (((Qbj d).take i).map eCan).flatten]⟩) (fun i => ((Qbj d).take i).any Zz = false) ?_ ?_ ?_ ?_
 ·simp only [Q7, Q3, cutH, kp, cutV, cutL, cutB, Qa0, Qa1, ↓reduceIte, Nat.reduceEqDiff, Nat.reduceLT, Qb, Qe, Qg, Qw, Qs, Qh, Qk, Qal]
 ·rfl
 ·intro i hi hC
  obtain ⟨b, hb⟩ : ∃ b, d.bolts[i]? = some b := ⟨_, Qr hi⟩
  have hvb := hv.bolts b (Q5 hb)
  have hst := hvb.st
  have hlt : (i : Int) < d.bolts.length := by omega
  have h3 : inI ((i : Int) + 1) := by unfold inI; omega
  have hcan : (Qbj d)[i]? = some (Qan b) := by simp [Qbj, hb]
  have hti := Qar hcan
  have hlen : ((Qbj d).take i).length = i := by simp [Qbj]; omega
  have g3 := gJ60 b
  unfold eBolt at g3
  have g4 := gJ70 b
  unfold eBolt at g4
  simp only [hb, hlt, g3, Qag, Qa7, Qa8, Qad, Qa9, Qa4, Qm4, cutH, putB, Qae, Qa5, Qa2, Fam.step, Qaf, Qbi, Qb4, putB, nv, sv, evO, opv, qv, binV, ldV, iadV, Qaw, putAt, V.cells, Qas, Qb3, Qaa, Qa6, flat, kp, Qa3, Qat, Qa0, Qa1, ↓reduceIte, Nat.reduceEqDiff, Nat.reduceAdd, Nat.reduceLT, Nat.reduceLeDiff, Qb, Qe, Qy, Q0, Qc, Qd, Ql, Qn, Zh, Qg, Qw, Qs, Qh, Qk, Qm, Qf, Qo, Qt, Qv, Qz, vw_i, Qay, Qaz, Q9, Qi, Zs, Qx, Qu, Qa, decide_true, true_and, and_self, Q6, imp_self, Qq, Zd, Qp, Q1, eBolt, Qal]
  refine Zb8 (gf := 118) (caps := [.pa (eBolt b)]) (ok := tame 1000 b.stretch.low ∧ tame 1000 b.stretch.high) (ys := ysB b)
   (fun k => [.cells 0 (Qal d ++ [.rf 1 i 0 i 1]), .cells i (((Qbj d).take i).map eCan).flatten, .cells 0 (eBolt b), .cells 0 [.rf 4 (Qbm b k).length 0 (Qbm b k).length 1], .cells (Qbm b k).length ((Qbm b k).map eI).flatten]) (fun _ => True) ?_ ?_ (by decide) ?_ rfl ?_ ?_ trivial ?_ ?_
  ·simp only [evO, Qa0, ↓reduceIte, Nat.reduceEqDiff, eBolt]
  ·simp only [g4, Nat.reduceAdd, Qb, Qe, Qda, eBolt]
  ·unfold tame; omega
  ·intro x hx
   obtain ⟨k, hk⟩ := List.getElem?_of_mem hx
   rw [(Qxs hk).1]; rfl
  ·simp only [Qbm, Z7, Q3, Qah _ _ _ (Qfh ((Qbj d).take i)), cutH, cutV, cutL, cutB, ↓reduceIte, Nat.reduceLT, Qb, Qe, Qd, Qg, Qw, Qs, Qh, Qk, eBolt, Qal]
  ·intro k x hx _
   obtain ⟨rfl, hk⟩ := Qxs hx
   have h4 := hvb.ok66 (s := b.stretch.low + k) (by omega)
   have h5 := Qg6 b k
   simp only [gJ61, h4, Qfi hk, Qu6 b (s := b.stretch.low + k) (by omega) (by omega), Qag, Qa7, Qbf, Qa8, Qad, Qbe, Qa9, Qa4, Qcv, ↓Qbl, rnQ, rndQ, updL, Qba, cutH, putB, Qae, Qaj, Qa5, Qa2, Fam.step, Qaf, Qbi, Qb4, runX, eff, Qb9, fpR, fpQ, fpV, Qbp, hits, putB, nv, sv, Qce, evO, opv, qv, binV, ldV, curG, Qaw, Qap, putAt, Qb7, Qb6, V.cells, Qas, Qb3, Qaa, Qa6, flat, cutV, cutL, cutB, Qa3, Qat, Qa0, Qa1, ↓reduceIte, Nat.reduceEqDiff, Nat.reduceAdd, Nat.reduceMul, Nat.reduceLT, Nat.reduceLeDiff, Qb, Qe, Qy, Q0, Qc, Qd, Ql, Qn, Zh, Qg, Qw, Qs, Qj, Qh, Qk, Qm, Qf, Qo, Q4, Zn, Qv, Qz, Q2, Za, Zi, vw_i, Qay, Qaz, beq_self_eq_true, Qi, Qx, Zg, Zm, Qu, Zk, Zj, Qa, decide_eq_true_eq, true_and, and_self, implies_true, reduceCtorEq, not_false_eq_true, ne_eq, Zv, Zu, Zl, Qp, eBolt, Qal]
   refine ⟨fun h => ?_, fun h => ?_⟩
   ·simp only [h, Qet, Zw, Zf, Xi, Xf, Zc, Q3, Qah _ _ _ (Qfh ((Qbj d).take i)), Qcp, Qah _ _ _ (Qdu (Qbm b k)), cutV, cutL, ↓reduceIte, Qb, Qe, Qc, Qd, Qm, Qi, true_and, and_true, eI]
    unfold Qbd; omega
   ·simp only [h, Qah _ _ _ (Qfh ((Qbj d).take i)), Qah _ _ _ (Qdu (Qbm b k)), ↓reduceIte, Qm]
  ·intro _
   have hdrop : ∀ hp : List Blk, True := fun _ => trivial
   simp only [Zbi, Qg5, Qah _ _ _ (Qfh ((Qbj d).take i)), hpF, upB, upL, upV, Qc8 _ _ (Qdu (Qan b)), Qet, Zw, Zp, Qdp, vw_I, vw8, Qag, Qa7, Qbf, Qa8, Qad, Qbe, Qai, Qa4, Qc5, Qcv, ↓Qbl, Qba, optL, cutH, Qae, Qaj, Qa5, Qa2, Fam.step, Qaf, Qb4, runX, eff, Qb9, fpR, fpQ, fpV, Qbp, hits, nv, sv, Qce, evO, opv, qv, binV, ldV, lenV, curG, Qap, putAt, Qb7, Qb6, V.cells, Qas, Qb3, Qaa, Qa6, cutV, cutL, cutB, Qa3, Qat, Qa0, Qa1, ↓reduceIte, Nat.reduceEqDiff, Nat.reduceAdd, Nat.reduceLT, Qb, Qe, Qy, Q0, Qc, Qd, Ql, Qn, Zh, Qg, Qw, Qs, Qj, Qh, Qk, Qm, Qf, Qo, Q4, Qt, Zn, Qv, Qz, Q2, Za, Zi, Zx, endQ, rvs, rv1, resV, vw_i, Qul, Qay, Qcg, Qjx, Qdw, beq_self_eq_true, Qi, Qx, Zg, Xg, Zm, Qu, Z8, Zk, Zj, Qa, decide_eq_true_eq, true_and, and_self, reduceCtorEq, not_false_eq_true, ne_eq, Z9, Zv, Zu, Zl, Qp, eBolt, Qal]
   refine ⟨fun h => ?_, fun h => ?_⟩
   ·have e : Qbc d is = 3 := by
     have : (Qbj d).any Zz = true := Xm.2 ⟨_, Q5 hcan, by simpa using h⟩
     simp [Qbc, h2, this, ‹Qcl d = 0›]
    rw [e]; rfl
   ·refine ⟨⟨by rw [Qo9, hlen, Zw], by unfold Qbd; omega⟩, h3, ?_, ?_⟩
    ·rw [hti, Ja, hC]
     simpa using h
    ·simp only [Qcp, Qah _ _ _ (Qfh ((Qbj d).take i)), hti, Qgq, Q8, Zb, Zc, Q3, cutV, cutL, Qm, eCan]
 ·intro hC
  have e : Qbc d is = 0 := by
   have hl : (Qbj d).take d.bolts.length = Qbj d := by rw [show d.bolts.length = (Qbj d).length from by simp [Qbj], Zt]
   rw [hl] at hC
   simp [Qbc, h2, hC, ‹Qcl d = 0›]
  have hl : (Qbj d).take d.bolts.length = Qbj d := by rw [show d.bolts.length = (Qbj d).length from by simp [Qbj], Zt]
  have hl2 : d.bolts.length = (Qbj d).length := by simp [Qbj]
  simp only [e, Qo9, Zw, hl2, Zt, Zp, Qky, vw_C, Qa7, Qa8, Qad, Qam, Qai, Qa4, Qae, Qaj, Qa5, Qa2, Fam.step, Qaf, evO, opv, qv, binV, ldV, Qa3, Qa0, Qa1, ↓reduceIte, Nat.reduceEqDiff, Qb, Qe, Qn, Qh, Qk, Qf, Qo, endQ, rvs, rv1, resV, vw_i, Qay, Qcg, Qjx, Qdw, Zr, Qi, Qa, decide_false, and_self, Qal]
end Go.C02
set_option linter.unusedSimpArgs false
set_option linter.unusedVariables false
namespace Go.C02
open Go.Fam Go.Proofs
def dTN : List V → Tent × Int | [.pa cs, .i n] => (Qya cs, n) | _ => (⟨D0, []⟩, 0)
def eTN (a : Tent × Int) : List V := [.pa (Qbk a.1), .i a.2]
theorem Qy9 (a : Tent × Int) : dTN (eTN a) = a := by simp [dTN, eTN, Qve]
def eDB (a : Dome × Bool) : List V := [.ag (Qal a.1), .b a.2]
def dDB : List V → Dome × Bool | [.ag cs, .b n] => (Qjh cs, n) | _ => (D0, false)
theorem Zdd (a : Dome × Bool) : dDB (eDB a) = a := by simp [dDB, eDB, Qdh]
def r50 : List V → Prop × V := fnG eTN dTN (fun a => ok50 a.1 a.2) (fun a => Qe6 a.1 a.2) (fun s => .ag (eSpan s))
def r45 : List V → Prop × V := fnG eDB dDB (fun _ => True) (fun a => a) (fun a => Qgy a.1 a.2)
def GL : Gam := (GJ.ext 98 r50).ext 79 r45
theorem okL : GOk Try.prog GL := by
 have k1 := okJ.ext (f := 98) (r := r50) (fun a w => Try.call98 a w) (Qau fun a h => P50 a.1 a.2 h)
 have k2 := k1.ext (f := 79) (r := r45) (fun a w => Try.call79 a w) (Qau fun a _ => P45 a.1 a.2)
 exact k2
theorem gL50 (b : List Bolt) (g : List Int) (l : Int) (r : List Span) (w : List Int) (s : Int) (c : List (List Int)) (n : Int) :
  GL 98 [.pa [.sl 4 (b.map eBolt), .sl 1 (g.map eI), .i l, .sl 2 (r.map eSpan), .sl 1 (w.map eI), .i s, .sl 1 (c.map eCan)], .i n] = (ok50 ⟨⟨b, g, l, r, w, s⟩, c⟩ n, .ag (eSpan (Qe6 ⟨⟨b, g, l, r, w, s⟩, c⟩ n))) :=
 (show GL 98 _ = r50 (eTN (⟨⟨b, g, l, r, w, s⟩, c⟩, n)) from rfl).trans (Qb1 _ (Qy9 _))
theorem gL45 (b : List Bolt) (g : List Int) (l : Int) (r : List Span) (w : List Int) (s : Int) (x : Bool) :
  GL 79 [.ag [.sl 4 (b.map eBolt), .sl 1 (g.map eI), .i l, .sl 2 (r.map eSpan), .sl 1 (w.map eI), .i s], .b x] = (True, Qgy ⟨b, g, l, r, w, s⟩ x) :=
 (show GL 79 _ = r45 (eDB (⟨b, g, l, r, w, s⟩, x)) from rfl).trans (Qb1 _ (Zdd _))
def Qee (d : Dome) (n : Int) : Bool := Qak n 0 (d.rounds.length - 1)
def Qbx (d : Dome) (n : Int) : Bool := Qak n 0 (d.bolts.length - 1)
theorem gL46 (b : List Bolt) (g : List Int) (l : Int) (r : List Span) (w : List Int) (s : Int) (n : Int) :
  GL 97 [.ag [.sl 4 (b.map eBolt), .sl 1 (g.map eI), .i l, .sl 2 (r.map eSpan), .sl 1 (w.map eI), .i s], .i n] = (r.length < 1000, .b (Qee ⟨b, g, l, r, w, s⟩ n)) := gJ46 ⟨b, g, l, r, w, s⟩ n
theorem gL56 (b : List Bolt) (g : List Int) (l : Int) (r : List Span) (w : List Int) (s : Int) (n : Int) :
  GL 103 [.ag [.sl 4 (b.map eBolt), .sl 1 (g.map eI), .i l, .sl 2 (r.map eSpan), .sl 1 (w.map eI), .i s], .i n] = (b.length < 1000, .b (Qbx ⟨b, g, l, r, w, s⟩ n)) := gJ56 ⟨b, g, l, r, w, s⟩ n
structure Good (d : Dome) : Prop where
 v : Valid d
 c : Qcl d = 0
 ne : ∀ b ∈ d.bolts, Qan b ≠ []
theorem Qe4 {d : Dome} {is : Bool} (h : Qbc d is = 0) : Good d ∧ is = true := by
 unfold Qbc at h
 by_cases h1 : Qcl d = 0
 ·rw [if_neg (by simp [h1])] at h
  cases is
  ·simp at h
  ·refine ⟨⟨Qg9 h1, h1, fun b hb hn => ?_⟩, rfl⟩
   by_cases h2 : (Qbj d).any Zz = true
   ·simp [h2] at h
   ·apply h2
    rw [Xm]
    exact ⟨Qan b, List.mem_map_of_mem hb, by simp [hn]⟩
 ·rw [if_pos h1] at h
  exact absurd h h1
theorem Good.pitch {d : Dome} (h : Good d) (is : Bool) : Qbc d is = if is then 0 else 1 := by
 have : ¬ (Qbj d).any Zz = true := by
  rw [Xm]
  rintro ⟨l, hl, he⟩
  obtain ⟨b, hb, rfl⟩ := Xd.1 hl
  exact h.ne b hb (by simpa using he)
 simp [Qbc, h.c, this]
def Qc0 (d : Dome) : Tent := ⟨d, Qbj d⟩
theorem Qoe {b : Bolt} {s : Int} : s ∈ Qan b ↔ can b s = true := by
 simp only [Qan, Jb, Qiw]
 constructor
 ·exact fun h => h.2
 ·intro h
  refine ⟨?_, h⟩
  simp only [can, Qak, Zo, decide_eq_true_eq] at h
  omega
theorem Qgx {b : Bolt} (hv : ValidB b) {s : Int} (h : s ∈ Qan b) : 0 ≤ s ∧ s ≤ 60 := by
 have := Qoe.1 h
 simp only [can, Qak, Zo, decide_eq_true_eq] at this
 have := hv.st
 omega
theorem Qcf {b : Bolt} (hv : ValidB b) : (Qan b).length ≤ 61 := by
 have h1 : (Qan b).length ≤ (ints b.stretch.low b.stretch.high).length := Xa _ _
 rw [Qhb] at h1
 have := hv.st
 omega
theorem Good.ok50 {d : Dome} (h : Good d) {w : Int} (hw : tame 100000 w) : ok50 (Qc0 d) w := by
 have := h.v.loss
 have := h.v.ng
 refine ⟨hw, by unfold tame Qc0; dsimp only; omega, fun g hg => ?_, fun l hl => ?_, by unfold Qc0; dsimp only; omega⟩
 ·have := h.v.gores g hg
  simp only [Qc0, Qbj, Qq]
  omega
 ·obtain ⟨b, hb, rfl⟩ := Xd.1 hl
  have hvb := h.v.bolts b hb
  refine ⟨h.ne b hb, by have := Qcf hvb; omega, fun s hs => ?_⟩
  have := Qgx hvb hs
  unfold tame; omega
def Qdx (d : Dome) (n : Int) : Int := d.widths[n.toNat]?.getD 0
def Qd5 (d : Dome) (n : Int) : Span := d.rounds[n.toNat]?.getD ⟨0, 0⟩
def Qxa (d : Dome) (row : Int) : Span × Int := if Qbc d (Qee d row) = 0 then (Qe6 (Qc0 d) (Qdx d row), 0) else (⟨0, 0⟩, Qbc d (Qee d row))
def eSE (a : Span × Int) : V := .tp [.ag (eSpan a.1), .i a.2]
theorem Qxb {d : Dome} (hv : Valid d) {n : Int} (h : Qee d n = true) : 0 ≤ n ∧ n < d.rounds.length ∧ n < d.widths.length ∧ d.widths[n.toNat]? = some (Qdx d n) ∧ d.rounds[n.toNat]? = some (Qd5 d n) ∧ 2 * d.loss ≤ Qdx d n ∧ Qdx d n ≤ 2000 := by
 obtain ⟨k1, k2⟩ := Qhp h
 have := hv.nw
 have e1 : d.widths[n.toNat]? = some (Qdx d n) := by rw [Qdx, Qr (by omega)]; rfl
 have e2 : d.rounds[n.toNat]? = some (Qd5 d n) := by rw [Qd5, Qr (by omega)]; rfl
 have := hv.widths _ (Q5 e1)
 exact ⟨k1, k2, by omega, e1, e2, this⟩
theorem P23 (d : Dome) (n : Int) (hb : d.rounds.length < 1000) : Qab Try.prog 77 [.ag (Qal d), .i n] (eSE (Qxa d n)) := by
 refine Qac okL hmix Try.func77 cb77 cc77 cs77 cn77 ?_
 simp only [rc77, rs77, gL46, gL45, Qgy, eSE, Qxa, Qag, Qa7, Qbf, Qa8, Qad, Qbe, Qai, Qa4, Qba, putB, Qae, Qa5, Qa2, Fam.step, Qaf, Qbi, Qb4, runX, eff, Qb9, fpR, fpQ, fpV, Qbp, hits, putB, nv, sv, evO, opv, qv, binV, ldV, iadV, Qaw, Qap, putAt, Qb7, V.cells, Qas, Qb3, Qaa, Qa6, flat, Qcy, Qa3, Qat, Qa0, Qa1, ↓reduceIte, Nat.reduceEqDiff, Nat.reduceAdd, Nat.reduceLT, Nat.reduceLeDiff, Qb, Qe, Qy, Q0, Qc, Qd, Ql, Qn, Zh, Qg, Qw, Qs, Qj, Qh, Qk, Qm, Qf, Qo, Q4, Qt, Zn, Qv, Q2, Zi, endQ, rvs, rv1, resV, vw_i, vw_b, Qay, Qaz, Qcg, zipA, Qi, Qx, Zg, Zm, Qu, Zk, Zj, Qa, decide_eq_false_iff_not, true_and, and_true, and_self, false_implies, implies_true, reduceCtorEq, Zv, Zl, Ze, Qq, Qp, Q1, Classical.not_not, Qfd, eSpan, Qal, Qbk]
 refine ⟨by omega, fun h => ?_, fun h => ?_⟩
 ·simp [h]
 ·obtain ⟨hg, hr⟩ := Qe4 h
  obtain ⟨k1, k2, k3, k4, k5, k6⟩ := Qxb hg.v hr
  have hl := hg.v.loss
  have h3 := hg.ok50 (w := Qdx d n) (by unfold tame; omega)
  unfold Qc0 at *
  simp only [h, k1, k3, k4, gL50, h3, Qb3, Qaa, flat, Qcy, ↓reduceIte, Nat.reduceAdd, Nat.reduceLeDiff, Qb, Qe, Qy, Q0, Qc, Qd, Ql, Zh, Qg, Qs, Qj, Qm, Qt, vw_i, Qda, Qi, Qx, Qu, Qa, and_self, implies_true, Q6, Qfd, eSpan, eI]
  all_goals skip
def fits (t : Tent) (row w : Int) : Bool := !(decide ((Qe6 t w).low < (Qd5 t.dome row).low) || decide ((Qd5 t.dome row).high < (Qe6 t w).high))
theorem Qn8 {l : List Int} {x y : Int} : (l ++ [x]).headD y = if l.isEmpty then x else l.headD y := by cases l <;> simp
theorem Qil {l : List Int} {x y : Int} : (l ++ [x]).getLastD y = x := by simp [Xv]
theorem Qk3 {l : List Int} {x : Int} : (l ++ [x]).isEmpty = false := by cases l <;> rfl
def Qkc (t : Tent) (row : Int) : List Int := (ints (2 * t.dome.loss) 2000).filter (fits t row)
def Qgs (t : Tent) (row : Int) (k : Nat) : List Int := ((ints (2 * t.dome.loss) 2000).take k).filter (fits t row)
def Zbs (l : List Int) : Span := ⟨l.headD 0, l.getLastD 0⟩
def Qy2 (t : Tent) (row : Int) : Span × Bool := (Zbs (Qkc t row), !(Qkc t row).isEmpty)
def eSB (a : Span × Bool) : V := .tp [.ag (eSpan a.1), .b a.2]
def ok48 (t : Tent) (row : Int) : Prop := 0 ≤ t.dome.loss ∧ t.dome.loss ≤ 20 ∧ 0 ≤ row ∧ row < t.dome.rounds.length ∧ ∀ w, 0 ≤ w → w ≤ 2000 → ok50 t w
theorem P48 (t : Tent) (row : Int) (h : ok48 t row) : Qab Try.prog 81 [.pa (Qbk t), .i row] (eSB (Qy2 t row)) := by
 refine Qac okL hmix Try.func81 cb81 cc81 cs81 cn81 ?_
 obtain ⟨h1, h2, h3, h4, h5⟩ := h
 have e2 : t.dome.rounds[row.toNat]? = some (Qd5 t.dome row) := by rw [Qd5, Qr (by omega)]; rfl
 have i1 : inI (2 * t.dome.loss) := by unfold inI; omega
 simp only [rc81, rs81, Qbk, h3, h4, e2, i1, eSB, Qa7, Qa8, Qa9, Qa4, putB, Qae, Qa5, Qa2, Fam.step, Qaf, Qbi, Qb4, putB, nv, sv, evO, opv, qv, binV, ldV, iadV, putAt, V.cells, Qas, Qb3, Qa3, Qat, Qa0, Qa1, ↓reduceIte, Nat.reduceEqDiff, Nat.reduceAdd, Nat.reduceLeDiff, Qb, Qe, Qy, Q0, Qc, Qd, Ql, Qn, Zh, Qg, Qw, Qs, Qj, Qh, Qk, Qm, Qf, Qo, Qt, Qv, Qz, zipA, Qi, Qx, Qa, true_and, and_self, reduceCtorEq, Q6, Qq, Qp, Q1, eSpan, Qal, Qbk]
 refine Qbg (2001 - 2 * t.dome.loss).toNat (fun k => ⟨lkp [(0, .pa (Qbk t)), (4, .ad 0 0 0), (5, .b (!(Qgs t row k).isEmpty)), (6, .ad 1 0 0), (7, .i (2 * t.dome.loss + k))],
  [.cells 0 [.i ((Qgs t row k).headD 0), .i ((Qgs t row k).getLastD 0)], .cells 0 (eSpan (Qd5 t.dome row))]⟩) ?_ ?_ ?_
 ·simp only [Q7, Xz, Qgs, Z7, Zi, Jd, List.getLastD_nil, cutH, kp, cutV, cutL, cutB, Qa0, Qa1, ↓reduceIte, Nat.reduceEqDiff, Nat.reduceLT, Qb, Qe, Qg, Qw, Qs, Jd, Qh, Qk, Zi, Zk, reduceCtorEq, eSpan, Qal, Qbk]
 ·intro k hk
  have hget : (ints (2 * t.dome.loss) 2000)[k]? = some (2 * t.dome.loss + k) := Qha (by omega)
  have hs : Qgs t row (k + 1) = Qgs t row k ++ (if fits t row (2 * t.dome.loss + k) then [2 * t.dome.loss + k] else []) := Qg1 _ hget
  have hlt : 2 * t.dome.loss + (k : Int) ≤ 2000 := by omega
  have i2 : inI (2 * t.dome.loss + (k : Int) + 1) := by unfold inI; omega
  have o3 := h5 (2 * t.dome.loss + k) (by omega) (by omega)
  simp only [hlt, Qbk, gL50, o3, hs, Q8, Zb, Z3, Qag, Qa7, Qa8, Qad, Qbe, Qa9, Qam, Qa4, Qc5, ↓Qbl, cutH, putB, Qae, Qaj, Qa5, Qa2, Fam.step, Qaf, Qbi, Qbz, Qb4, Qbq, ug, putB, nv, sv, evO, opv, qv, Qb2, binV, ldV, curG, Qaw, putAt, V.cells, Qas, Qb3, Qaa, Qa6, flat, Qcy, kp, cutV, cutL, cutB, Qa3, Qat, Qa0, Qa1, ↓reduceIte, Nat.reduceEqDiff, Nat.reduceAdd, Nat.reduceLT, Nat.reduceLeDiff, Qb, Qe, Qy, Q0, Qc, Qd, Ql, Qn, Zh, Qg, Qw, Qs, Qj, Qh, Qk, Qm, Qf, Qo, Qv, Qz, vw_i, Qda, beq_self_eq_true, Qi, Zs, Qx, Zg, Qu, Qa, decide_true, decide_eq_true_eq, decide_eq_false_iff_not, true_and, and_true, and_self, implies_true, reduceCtorEq, beq_false, X8, Ze, Qf1, imp_self, Z0, Qfd, Qzc, eSpan, Qal, Qbk]
  rw [Z3] at i2
  refine ⟨fun h => ?_, fun h => ⟨fun he => ?_, fun he => ?_⟩⟩
  ·have hf : fits t row (2 * t.dome.loss + k) = false := by unfold fits; rw [h]; rfl
   simp only [hf, i2, ↓reduceIte, Qm, Qa, and_self]
  ·have hf : fits t row (2 * t.dome.loss + k) = true := by unfold fits; rw [h]; rfl
   simp only [hf, i2, he, Qn8, Qil, Qk3, ↓reduceIte, Zj, and_self]
  ·have hf : fits t row (2 * t.dome.loss + k) = true := by unfold fits; rw [h]; rfl
   simp only [hf, i2, he, Qn8, Qil, Qk3, ↓reduceIte, Zj, Qa, and_self]
 ·have hgt : ¬ (2 * t.dome.loss + ((2001 - 2 * t.dome.loss).toNat : Int) ≤ 2000) := by omega
  simp only [hgt, Qa7, Qa8, Qad, Qam, Qai, Qa4, putB, Qae, Qaj, Qa5, Qa2, Fam.step, Qaf, Qbi, Qb4, putB, nv, sv, evO, opv, qv, binV, ldV, putAt, V.cells, Qas, Qb3, Qa3, Qat, Qa0, Qa1, ↓reduceIte, Nat.reduceEqDiff, Nat.reduceAdd, Nat.reduceLeDiff, Qb, Qe, Qy, Q0, Qc, Qd, Ql, Qn, Zh, Qg, Qw, Qs, Qh, Qk, Qm, Qf, Qv, endQ, rvs, rv1, resV, vw_i, vw_b, Qaz, Qcg, Qi, Qx, Qa, decide_false, true_and, and_self, reduceCtorEq, eSpan, Qal, Qbk]
  have e : Qgs t row (2001 - 2 * t.dome.loss).toNat = Qkc t row := by
   unfold Qgs Qkc
   rw [show (2001 - 2 * t.dome.loss).toNat = (ints (2 * t.dome.loss) 2000).length from by rw [Qhb]; rfl, Zt]
  rw [e]; rfl
theorem Good.ok48 {d : Dome} (h : Good d) {row : Int} (hr : Qee d row = true) : ok48 (Qc0 d) row := by
 obtain ⟨k1, k2, k3, k4, k5, k6⟩ := Qxb h.v hr
 have hl := h.v.loss
 exact ⟨hl.1, hl.2, k1, k2, fun w h1 h2 => h.ok50 (by unfold tame; omega)⟩
def r48 : List V → Prop × V := fnG eTN dTN (fun a => ok48 a.1 a.2) (fun a => Qy2 a.1 a.2) eSB
def GM : Gam := GL.ext 81 r48
theorem okM : GOk Try.prog GM := okL.ext (f := 81) (r := r48) (fun a w => Try.call81 a w) (Qau fun a h => P48 a.1 a.2 h)
theorem gM48 (b : List Bolt) (g : List Int) (l : Int) (r : List Span) (w : List Int) (s : Int) (c : List (List Int)) (n : Int) :
  GM 81 [.pa [.sl 4 (b.map eBolt), .sl 1 (g.map eI), .i l, .sl 2 (r.map eSpan), .sl 1 (w.map eI), .i s, .sl 1 (c.map eCan)], .i n] = (ok48 ⟨⟨b, g, l, r, w, s⟩, c⟩ n, eSB (Qy2 ⟨⟨b, g, l, r, w, s⟩, c⟩ n)) :=
 (show GM 81 _ = r48 (eTN (⟨⟨b, g, l, r, w, s⟩, c⟩, n)) from rfl).trans (Qb1 _ (Qy9 _))
theorem gM45 (b : List Bolt) (g : List Int) (l : Int) (r : List Span) (w : List Int) (s : Int) (x : Bool) :
  GM 79 [.ag [.sl 4 (b.map eBolt), .sl 1 (g.map eI), .i l, .sl 2 (r.map eSpan), .sl 1 (w.map eI), .i s], .b x] = (True, Qgy ⟨b, g, l, r, w, s⟩ x) := gL45 b g l r w s x
theorem gM56 (b : List Bolt) (g : List Int) (l : Int) (r : List Span) (w : List Int) (s : Int) (n : Int) :
  GM 103 [.ag [.sl 4 (b.map eBolt), .sl 1 (g.map eI), .i l, .sl 2 (r.map eSpan), .sl 1 (w.map eI), .i s], .i n] = (b.length < 1000, .b (Qbx ⟨b, g, l, r, w, s⟩ n)) := gL56 b g l r w s n
def Qcc (d : Dome) (n : Int) : List Int × Int := if Qbc d (Qbx d n) = 0 then (Qan (Qdo d n), 0) else ([], Qbc d (Qbx d n))
def eLE (a : List Int × Int) : V := .tp [.sl 1 (a.1.map eI), .i a.2]
theorem P36 (d : Dome) (n : Int) (hb : d.bolts.length < 1000) : Qab Try.prog 82 [.ag (Qal d), .i n] (eLE (Qcc d n)) := by
 refine Qac okM hmix Try.func82 cb82 cc82 cs82 cn82 ?_
 simp only [rc82, rs82, gM56, gM45, Qgy, eLE, Qcc, Qag, Qa7, Qbf, Qa8, Qad, Qbe, Qai, Qa4, Qba, Qae, Qa5, Qa2, Fam.step, Qaf, runX, eff, Qb9, fpR, fpQ, fpV, Qbp, hits, evO, opv, qv, binV, ldV, iadV, curG, Qaw, V.cells, Qas, Qaa, Qa6, flat, Qcy, Qa3, Qa0, Qa1, ↓reduceIte, Nat.reduceEqDiff, Nat.reduceAdd, Nat.reduceLT, Nat.reduceLeDiff, Qb, Qe, Q0, Qc, Qd, Qg, Qs, Qh, Qk, Qm, Qf, Qo, Q4, Qt, Zn, Q2, Zi, endQ, rvs, rv1, resV, vw_i, vw_b, vw_z, Qay, Qaz, Qcg, zipA, Qi, Qx, Zg, Zm, Qu, Zk, Zj, Qa, decide_eq_false_iff_not, true_and, and_true, and_self, false_implies, implies_true, reduceCtorEq, Zv, Zl, Ze, Qp, Classical.not_not, Qfd, Qal, Qbk]
 refine ⟨by omega, fun h => ?_, fun h => ?_⟩
 ·simp [h]
 ·obtain ⟨hg, hr⟩ := Qe4 h
  obtain ⟨k1, k2⟩ := Qhp hr
  obtain ⟨b, hbo⟩ : ∃ b, d.bolts[n.toNat]? = some b := ⟨_, Qr (by omega)⟩
  have e1 : (Qbj d)[n.toNat]? = some (Qan b) := by simp [Qbj, hbo]
  have e2 : (Qbj d).length = d.bolts.length := by simp [Qbj]
  have e3 : Qdo d n = b := by simp [Qdo, hbo]
  simp only [h, e1, e2, e3, k1, k2, ↓reduceIte, Nat.reduceLeDiff, Qc, Qd, Ql, Qn, Qj, Qt, Qay, Qi, and_self, Q6, Qq, Q1, eCan]
end Go.C02
set_option linter.unusedSimpArgs false
set_option linter.unusedVariables false
namespace Go.C02
open Go.Fam Go.Proofs
theorem Qrh {α : Type} {e : α → List V} {k : Nat} (h : ∀ x, (e x).length = k) : ∀ {l : List α} {i : Nat} {x : α}, l[i]? = some x → (((l.map e).flatten).drop (i * k)).take k = e x
 | [], i, x, hx => by simp at hx
 | y :: l, 0, x, hx => by
  simp at hx; subst hx
  rw [Qb, Zc, Nat.zero_mul, Qn, Xo (by rw [h]; exact Zp _), Z5 (by rw [h]; exact Zp _)]
 | y :: l, i + 1, x, hx => by
  simp at hx
  have e1 : (e y).drop ((i + 1) * k) = [] := by rw [X3, h, Xc]; omega
  rw [Qb, Zc, X9, e1, Qk, h, show (i + 1) * k - k = i * k from by rw [Xc]; omega]
  exact Qrh h hx
theorem Qlp (l : List Span) : Qa6 ((l.map eSpan).flatten) = false := Qc4 (e := eSpan) (fun _ => rfl) l
theorem Zce (l : List Span) : ((l.map eSpan).flatten).length = l.length * 2 := Qdq (e := eSpan) (k := 2) (fun _ => rfl) l
theorem Qqd {t : Tent} {r w : Int} : w ∈ Qkc t r ↔ (2 * t.dome.loss ≤ w ∧ w ≤ 2000) ∧ fits t r w = true := by
 simp only [Qkc, Jb, Qiw]
def Qiu (d : Dome) (r : Int) : Int := (Qkc (Qc0 d) r).headD 0
def Qip (d : Dome) (r : Int) : Int := (Qkc (Qc0 d) r).getLastD 0
theorem Qw4 {l : List Int} (h : l ≠ []) : l.headD 0 ∈ l := by cases l <;> simp at *
theorem Qpz {l : List Int} (h : l ≠ []) : l.getLastD 0 ∈ l := by
 rw [Xv, List.getLast?_eq_some_getLast h]
 exact List.getLast_mem h
theorem Qg3 (d : Dome) (r : Int) (h : 0 ≤ d.loss) : 0 ≤ Qiu d r ∧ Qiu d r ≤ 2000 := by
 unfold Qiu
 by_cases he : Qkc (Qc0 d) r = []
 ·rw [he]; simp
 ·have := (Qqd.1 (Qw4 he)).1
  have e : (Qc0 d).dome.loss = d.loss := rfl
  rw [e] at this
  omega
theorem Qq2 (d : Dome) (r : Int) (h : 0 ≤ d.loss) : 0 ≤ Qip d r ∧ Qip d r ≤ 2000 := by
 unfold Qip
 by_cases he : Qkc (Qc0 d) r = []
 ·rw [he]; simp
 ·have := (Qqd.1 (Qpz he)).1
  have e : (Qc0 d).dome.loss = d.loss := rfl
  rw [e] at this
  omega
def Qm6 (d : Dome) (r : Nat) : Span := ⟨Qiu d r, Qip d r⟩
def Qfo (d : Dome) (k : Nat) : List Span := (Zq k).map (Qm6 d)
theorem Qmv {d : Dome} {n k : Nat} (h : k < n) : (Qfo d n)[k]? = some (Qm6 d k) := by simp [Qfo, h]
theorem Qr8 (d : Dome) (k : Nat) : Qfo d (k + 1) = Qfo d k ++ [Qm6 d k] := by simp [Qfo, Xr]
theorem Qmw (d : Dome) (k : Nat) : (Qfo d k).length = k := by simp [Qfo]
def Qei (d : Dome) (row : Nat) (k : Nat) : Int := (Zq k).foldl (fun (m : Int) (j : Nat) => max m (Qiu d j - d.slope * max ((row : Int) - j) ((j : Int) - row))) (Qiu d row)
theorem Qi6 (d : Dome) (row k : Nat) : Qei d row (k + 1) = max (Qei d row k) (Qiu d k - d.slope * max ((row : Int) - k) ((k : Int) - row)) := by
 simp [Qei, Xr]
theorem Qqy {s a : Int} (h : 0 ≤ s ∧ s ≤ 500) (ha : 0 ≤ a ∧ a ≤ 1000) : 0 ≤ s * a ∧ s * a ≤ 500000 := by
 refine ⟨Xt h.1 ha.1, ?_⟩
 have := Xu h.2 ha.2 ha.1 (by decide)
 omega
theorem Qgw {d : Dome} (hv : Valid d) {row : Nat} (hr : row ≤ 12) : ∀ k : Nat, k ≤ 12 → 0 ≤ Qei d row k ∧ Qei d row k ≤ 2000
 | 0, _ => by simpa [Qei] using Qg3 d row hv.loss.1
 | k + 1, hk => by
  have h1 := Qgw hv hr k (by omega)
  have h2 := Qg3 d k hv.loss.1
  have h3 := Qqy (a := max ((row : Int) - k) ((k : Int) - row)) hv.slope (by omega)
  rw [Qi6]
  omega
def Qhu (d : Dome) (n k : Nat) : List Int := (Zq k).map fun r => Qei d r n
theorem Qrt (d : Dome) (n k : Nat) : Qhu d n (k + 1) = Qhu d n k ++ [Qei d k n] := by simp [Qhu, Xr]
theorem Qjp (d : Dome) (n k : Nat) : (Qhu d n k).length = k := by simp [Qhu]
def Qri (d : Dome) (k : Nat) : Bool := (Zq k).all fun r => !(Qkc (Qc0 d) r).isEmpty
def Ql6 (d : Dome) (n k : Nat) : Bool := (Zq k).all fun r => decide (Qei d r n ≤ Qip d r)
def Qv3 (d : Dome) : List Int × Int :=
 if Qbc d true = 0 then
  (if Qri d d.rounds.length && Ql6 d d.rounds.length d.rounds.length then (Qhu d d.rounds.length d.rounds.length, 0) else ([], 3))
 else ([], Qbc d true)
theorem Qeo {p : Nat → Bool} {n i : Nat} (hi : i < n) (h : p i = false) : (Zq n).all p = false := by
 rw [List.all_eq_false]
 exact ⟨i, Z1.2 hi, by simp [h]⟩
theorem Qfb {p : Nat → Bool} {n : Nat} (h : (Zq n).all p = true) (h2 : p n = true) : (Zq (n + 1)).all p = true := by
 rw [Xr, List.all_append, h]; simp [h2]
theorem P33 (d : Dome) : Qab Try.prog 47 [.ag (Qal d)] (eLE (Qv3 d)) := by
 refine Qac okM hmix Try.func47 cb47 cc47 cs47 cn47 ?_
 simp only [rc47, rs47, gM45, Qgy, eLE, Qv3, Qag, Qa7, Qa8, Qad, Qbe, Qa9, Qai, Qa4, Qgh, Qae, Qa5, Qa2, Fam.step, Qaf, evO, opv, qv, binV, ldV, lenV, Qaw, V.cells, Qas, Qaa, Qa6, flat, Qcy, Qa3, Qa0, Qa1, ↓reduceIte, Nat.reduceEqDiff, Nat.reduceAdd, Nat.reduceLT, Nat.reduceLeDiff, Qb, Qe, Qc, Qd, Ql, Qn, Qg, Qs, Qj, Qh, Qk, Qm, Qf, Qo, Q4, Qt, endQ, rvs, rv1, resV, vw_i, vw_b, vw_z, Qay, Qaz, Qcg, zipA, Qi, Qx, Zg, Qu, Qa, decide_eq_false_iff_not, true_and, and_self, false_implies, Ze, Qq, Classical.not_not, Qfd, Qal, Qbk]
 refine ⟨fun h => by simp [h], fun h => ?_⟩
 obtain ⟨hg, _⟩ := Qe4 h
 have hnr := hg.v.nr
 simp only [h, ↓reduceIte]
 refine Qb8 d.rounds.length (fun i => ⟨lkp [(1, .pa (Qal d)), (4, .pa (Qbk (Qc0 d))), (6, .rf 0 i 0 i 2), (26, .i d.rounds.length), (27, .i i)], [.cells i ((Qfo d i).map eSpan).flatten]⟩) (fun i => Qri d i = true) ?_ ?_ ?_ ?_
 ·simp only [Q7, Qc0, Qbk, Qfo, Jc, Q3, cutH, kp, cutV, cutL, cutB, Qa0, Qa1, ↓reduceIte, Nat.reduceEqDiff, Nat.reduceLT, Qb, Qe, Qg, Qs, Qh, Qk, Qal, Qbk]
 ·rfl
 ·intro i hi hC
  have hrow : Qee d i = true := by simp only [Qee, Qak, Zo, decide_eq_true_eq]; omega
  have h48 := hg.ok48 hrow
  have hlt : (i : Int) < d.rounds.length := by omega
  have h3 : inI ((i : Int) + 1) := by unfold inI; omega
  unfold Qc0 at h48
  simp only [hlt, h3, Qbk, Qc0, gM48, h48, eSB, Qy2, Q8, Zb, Qr8, Qag, Qa7, Qa8, Qad, Qbe, Qa9, Qai, Qa4, Qc5, Qcv, ↓Qbl, cutH, putB, Qae, Qaj, Qa5, Qa2, Fam.step, Qaf, Qbi, Qb4, putB, nv, sv, Qce, evO, opv, qv, binV, ldV, Qaw, Qap, putAt, Qb7, Qb6, V.cells, Qas, Qb3, Qaa, Qa6, flat, Qcy, kp, cutV, cutL, cutB, Qa3, Qat, Qa0, Qa1, ↓reduceIte, Nat.reduceEqDiff, Nat.reduceAdd, Nat.reduceMul, Nat.reduceLT, Nat.reduceLeDiff, Qb, Qe, Qy, Q0, Qc, Qd, Ql, Qn, Zh, Qg, Qw, Qs, Qh, Qk, Qm, Qf, Qo, Qt, Qv, Qz, Q2, Za, endQ, rvs, rv1, resV, vw_i, vw_z, Qda, Qaz, Qcg, Qjx, Qi, Qx, Qu, Qa, decide_true, true_and, and_self, implies_true, reduceCtorEq, not_false_eq_true, ne_eq, X8, Z0, Qfd, eSpan, Qal, Qbk]
  refine ⟨fun he => ?_, fun he => ?_⟩
  ·have e : Qri d d.rounds.length = false := Qeo hi (by simp only [Qc0, he]; rfl)
   simp only [e, ↓reduceIte, Qe, Zm, Qa]
  ·have hsp : Zbs (Qkc ⟨d, Qbj d⟩ i) = Qm6 d i := rfl
   refine ⟨⟨by rw [Zce, Qmw], by unfold Qbd; omega⟩, Qfb hC (by simp only [Qc0, he]; rfl), ?_⟩
   simp only [hsp, Qcp, Qah _ _ _ (Qlp (Qfo d i)), Zc, Q3, Qgq, cutV, cutL, Qm, eSpan]
 ·intro hC
  simp only [Qa7, Qa8, Qad, Qa9, Qam, Qa4, Qgh, Qae, Qaj, Qa5, Qa2, Fam.step, Qaf, evO, opv, qv, binV, lenV, Qa3, Qa0, Qa1, ↓reduceIte, Nat.reduceEqDiff, Qb, Qe, Qc, Qd, Qh, Qk, Qf, Zr, Qi, Qa, decide_false, true_and, Qal, Qbk]
  refine Qb8 d.rounds.length (fun i => ⟨lkp [(1, .pa (Qal d)), (6, .rf 0 d.rounds.length 0 d.rounds.length 2), (10, .rf 1 i 0 i 1), (43, .rf 0 d.rounds.length 0 d.rounds.length 2), (44, .i d.rounds.length), (45, .i i)],
   [.cells d.rounds.length ((Qfo d d.rounds.length).map eSpan).flatten, .cells i ((Qhu d d.rounds.length i).map eI).flatten]⟩) (fun i => Ql6 d d.rounds.length i = true) ?_ ?_ ?_ ?_
  ·simp only [Q7, Qhu, Jc, Q3, Qah _ _ _ (Qlp _), cutH, kp, cutV, cutL, cutB, Qa0, Qa1, ↓reduceIte, Nat.reduceEqDiff, Nat.reduceLT, Qb, Qe, Qg, Qs, Qal]
  ·rfl
  ·intro i hi hC2
   have hlt : (i : Int) < d.rounds.length := by omega
   have h3 : inI ((i : Int) + 1) := by unfold inI; omega
   have hat := Qrh (e := eSpan) (k := 2) (fun _ => rfl) (Qmv (d := d) hi)
   have hli := Zce (Qfo d d.rounds.length)
   rw [Qmw] at hli
   have h5 : i * 2 + 2 ≤ d.rounds.length * 2 := by omega
   simp only [hlt, hat, hli, h5, Qag, Qa7, Qa8, Qad, Qa9, Qa4, cutH, putB, Qae, Qa5, Qa2, Fam.step, Qaf, Qbi, Qb4, putB, nv, sv, evO, opv, qv, binV, ldV, iadV, lenV, curG, putAt, V.cells, Qas, Qb3, kp, Qa3, Qat, Qa0, Qa1, ↓reduceIte, Nat.reduceEqDiff, Nat.reduceAdd, Nat.reduceLeDiff, Qb, Qe, Qy, Q0, Qc, Qd, Ql, Qn, Zh, Qw, Qj, Qh, Qk, Qm, Qf, Qo, Qv, Qz, Q9, beq_self_eq_true, Qi, Zs, Qx, Qa, decide_true, true_and, and_self, Zd, eSpan, Qal]
   refine Qbg d.rounds.length (fun k => ⟨lkp [(1, .pa (Qal d)), (6, .rf 0 d.rounds.length 0 d.rounds.length 2), (10, .rf 1 i 0 i 1), (11, .i i), (12, .ad 2 0 0), (13, .i (Qei d i k)), (43, .rf 0 d.rounds.length 0 d.rounds.length 2), (44, .i d.rounds.length), (45, .i i), (52, .rf 0 d.rounds.length 0 d.rounds.length 2), (53, .i d.rounds.length), (54, .i k)],
    [.cells d.rounds.length ((Qfo d d.rounds.length).map eSpan).flatten, .cells i ((Qhu d d.rounds.length i).map eI).flatten, .cells 0 (eSpan (Qm6 d i))]⟩) ?_ ?_ ?_
   ·simp only [Q7, Qah _ _ _ (Qlp _), Qah _ _ _ (Qdu _), cutH, kp, cutV, cutL, cutB, Qa0, Qa1, ↓reduceIte, Nat.reduceEqDiff, Nat.reduceLT, Qb, Qe, Qg, Qs, eSpan, Qal]
    rfl
   ·intro k hk
    have hat2 := Qrh (e := eSpan) (k := 2) (fun _ => rfl) (Qmv (d := d) hk)
    have hlt2 : (k : Int) < d.rounds.length := by omega
    have h4 : inI ((k : Int) + 1) := by unfold inI; omega
    have l1 := Qg3 d k hg.v.loss.1
    have l2 := Qgw hg.v (row := i) (by omega) k (by omega)
    have l3 := Qqy (a := max ((i : Int) - k) ((k : Int) - i)) hg.v.slope (by omega)
    have i5 : inI ((i : Int) - k) := by unfold inI; omega
    have i6 : inI ((k : Int) - i) := by unfold inI; omega
    have i7 : inI (d.slope * max ((i : Int) - k) ((k : Int) - i)) := by unfold inI; omega
    have i8 : inI (Qiu d k - d.slope * max ((i : Int) - k) ((k : Int) - i)) := by unfold inI; omega
    have h6 : k * 2 + 2 ≤ d.rounds.length * 2 := by omega
    simp only [hlt2, h4, h6, hat2, hli, Q8, Zb, Qi6, Qm6, i5, i6, i7, i8, Qah _ _ _ (Qlp _), Qah _ _ _ (Qdu _), Qag, Qa7, Qa8, Qad, Qa9, Qa4, Qc5, ↓Qbl, cutH, putB, Qae, Qaj, Qa5, Qa2, Fam.step, Qaf, Qbi, Qb4, putB, nv, sv, evO, opv, qv, binV, ldV, iadV, curG, putAt, V.cells, Qas, Qb3, kp, cutV, cutL, cutB, Qa3, Qat, Qa0, Qa1, ↓reduceIte, Nat.reduceEqDiff, Nat.reduceAdd, Nat.reduceLT, Nat.reduceLeDiff, Qb, Qe, Qy, Q0, Qc, Qd, Ql, Qn, Zh, Qg, Qw, Qs, Qj, Qh, Qk, Qm, Qf, Qo, Qv, Qz, Qjx, Q9, beq_self_eq_true, Qi, Zs, Qx, Qa, decide_true, and_self, Zd, eSpan, Qal]
   ·have hsp : Qm6 d i = ⟨Qiu d i, Qip d i⟩ := rfl
    have hn := Qgw hg.v (row := i) (by omega) d.rounds.length (by omega)
    simp only [hsp, Qah _ _ _ (Qlp _), Qag, Qa7, Qa8, Qad, Qbe, Qam, Qai, Qa4, Qc5, Qcv, ↓Qbl, cutH, putB, Qae, Qaj, Qa5, Qa2, Fam.step, Qaf, Qbi, Qb4, putB, nv, sv, Qce, evO, opv, qv, binV, ldV, curG, Qap, putAt, Qb7, Qb6, V.cells, Qas, Qb3, Qaa, Qa6, cutV, cutB, Qa3, Qa0, Qa1, ↓reduceIte, Nat.reduceEqDiff, Nat.reduceAdd, Nat.reduceMul, Nat.reduceLT, Nat.reduceLeDiff, Qb, Qe, Qy, Q0, Qc, Qd, Ql, Qn, Qg, Qw, Qs, Qj, Qh, Qk, Qf, Qo, Qv, Qz, Q2, Za, endQ, rvs, rv1, resV, vw_i, vw_z, Qcg, Zr, beq_self_eq_true, Qi, Qx, Qu, Qa, decide_false, decide_eq_true_eq, true_and, and_self, reduceCtorEq, not_false_eq_true, ne_eq, eSpan, Qal]
    refine ⟨fun hgt => ?_, fun hle => ?_⟩
    ·have e : Ql6 d d.rounds.length d.rounds.length = false := Qeo hi (by simp; omega)
     simp only [e, ↓reduceIte, Qe, Z4, Qa]
    ·have e : decide (Qei d i d.rounds.length ≤ Qip d i) = true := by simp; omega
     refine ⟨⟨by rw [Qet, Qjp], by unfold Qbd; omega⟩, h3, Qfb hC2 e, ?_⟩
     simp only [Qrt, Qcp, Qah _ _ _ (Qdu _), Zc, Q3, Qgq, Q8, Zb, cutV, cutL, Qm, eI]
  ·intro hC2
   have hch := Qdp (Qhu d d.rounds.length d.rounds.length)
   rw [Qjp] at hch
   simp only [hC, hC2, hch, Qjp, Qet, vw_I, Zw, Zp, Qa7, Qa8, Qad, Qam, Qai, Qa4, Qae, Qaj, Qa5, Qa2, Fam.step, Qaf, evO, opv, qv, binV, ldV, Qa3, Qa0, Qa1, ↓reduceIte, Nat.reduceEqDiff, Qb, Qe, Qf, Qo, endQ, rvs, rv1, resV, vw_i, Qcg, Qdw, Zr, Qi, Qx, Qa, decide_false, and_self, Qal]
def r33 : List V → Prop × V := fnG (fun d => [.ag (Qal d)]) dD (fun _ => True) Qv3 eLE
def GN : Gam := GM.ext 47 r33
theorem okN : GOk Try.prog GN := okM.ext (f := 47) (r := r33) (fun a w => Try.call47 a w) (Qau fun a _ => P33 a)
end Go.C02
set_option linter.unusedSimpArgs false
set_option linter.unusedVariables false
namespace Go.C02
open Go.Fam Go.Proofs
theorem gN69 (l s : Int) : GN 117 [.i l, .i s] = (tame 1000000 l ∧ tame 1000000 s, .i (pull l s)) := rfl
def Qf0 (t : Tent) (b : Int) : List Int := (t.can[b.toNat]?).getD []
structure Ok68 (t : Tent) (w : Int) : Prop where
 w : 0 ≤ w - 2 * t.dome.loss ∧ w - 2 * t.dome.loss ≤ 2000
 loss : 0 ≤ t.dome.loss ∧ t.dome.loss ≤ 20
 ng : t.dome.gores.length ≤ 16
 gores : ∀ g ∈ t.dome.gores, 0 ≤ g ∧ g < t.can.length
 nc : t.can.length ≤ 4
 can : ∀ l ∈ t.can, l.length ≤ 61 ∧ ∀ s ∈ l, 0 ≤ s ∧ s ≤ 60
theorem Quh {l s : Int} (hl : 0 ≤ l ∧ l ≤ 2000) (hs : 0 ≤ s ∧ s ≤ 60) : 0 ≤ pull l s ∧ pull l s ≤ 2120 := by
 have h1 : 0 ≤ l * (1000 + s) := Xt hl.1 (by omega)
 have h2 : l * (1000 + s) ≤ 2000 * 1060 := Xu hl.2 (by omega) (by omega) (by decide)
 unfold pull
 rw [Int.tdiv_eq_ediv_of_nonneg h1]
 omega
def part (t : Tent) (w b s : Int) : Int := (t.dome.gores.count b : Int) * pull (w - 2 * t.dome.loss) s
def gk (t : Tent) (j : Nat) : Int := ((cmKs t.dome.gores)[j]?.getD []).headD 0
def psum (t : Tent) (w : Int) (c : Int → Int) (pre : List Nat) : Int := (pre.map fun j => part t w (gk t j) (c (gk t j))).sum
structure Inv68 (t : Tent) (w : Int) (pre : List Nat) (xs : List Int) : Prop where
 len : xs.length ≤ 61 ^ pre.length
 rng : ∀ x ∈ xs, 0 ≤ x ∧ x ≤ 33920 * (pre.length : Int)
 mem : ∀ x, x ∈ xs ↔ ∃ c : Int → Int, (∀ j ∈ pre, c (gk t j) ∈ Qf0 t (gk t j)) ∧ x = psum t w c pre
def ys68 (t : Tent) (w b : Int) (xs : List Int) (pre2 : List Nat) : List Int :=
 pre2.flatMap fun j => (Qf0 t b).map fun s => ((cmKs xs)[j]?.getD []).headD 0 + part t w b s
def R68 (t : Tent) (w : Int) (r : V) (hp : List Blk) : Prop := ∃ xs : List Int, r = .mp 0 0 ∧ hp = [cm xs] ∧ Inv68 t w (Zq (cmKs t.dome.gores).length) xs
theorem Qw8 (t : Tent) (w : Int) : Inv68 t w [] [0] :=
 ⟨by simp, by simp, fun x => by simp [psum]⟩
theorem Qnb {t : Tent} {w : Int} {c c' : Int → Int} : ∀ {pre : List Nat}, (∀ j ∈ pre, c (gk t j) = c' (gk t j)) → psum t w c pre = psum t w c' pre
 | [], _ => rfl
 | j :: pre, h => by
  have h1 := Qnb (t := t) (w := w) (pre := pre) fun i hi => h i (by simp [hi])
  have h2 := h j (by simp)
  simp only [psum, Qb, Xn] at h1 ⊢
  rw [h1, h2]
theorem Qqn (t : Tent) (w : Int) (c : Int → Int) (pre : List Nat) (j : Nat) : psum t w c (pre ++ [j]) = psum t w c pre + part t w (gk t j) (c (gk t j)) := by simp [psum]
theorem Zca {t : Tent} {i j : Nat} (hi : i < (cmKs t.dome.gores).length) (hj : j < (cmKs t.dome.gores).length) (h : gk t i = gk t j) : i = j := by
 obtain ⟨x, _, hx, _⟩ := Qf3 hi
 obtain ⟨y, _, hy, _⟩ := Qf3 hj
 simp only [gk, hx, hy, Qt, Qj] at h
 subst h
 have h1 := (Qen t.dome.gores).idxOf_getElem i hi
 have h2 := (Qen t.dome.gores).idxOf_getElem j hj
 rw [Qr hi] at hx
 rw [Qr hj] at hy
 rw [Xw.inj hx] at h1
 rw [Xw.inj hy] at h2
 rw [← h1, h2]
theorem Qyx {l l' : List Int} (h : l.Perm l') : l.sum = l'.sum := by
 induction h with
 | nil => rfl
 | cons x _ ih => rw [Xn, Xn, ih]
 | swap x y l => simp only [Xn]; omega
 | trans _ _ h1 h2 => rw [h1, h2]
theorem Qqg {α β : Type} {f : α → β} {l : List α} (h : ∀ a ∈ l, ∀ b ∈ l, f a = f b → a = b) (hn : l.Nodup) : (l.map f).Nodup := by
 unfold List.Nodup at *
 rw [List.pairwise_map]
 exact hn.imp_of_mem fun ha hb hab e => hab (h _ ha _ hb e)
theorem Qjq {t : Tent} {w : Int} (h : Ok68 t w) {b s : Int} (hs : 0 ≤ s ∧ s ≤ 60) : 0 ≤ part t w b s ∧ part t w b s ≤ 33920 := by
 have h1 := Quh h.w hs
 have h2 : t.dome.gores.count b ≤ 16 := Z6 Xp h.ng
 unfold part
 refine ⟨Xt (by omega) h1.1, ?_⟩
 have := Xu (show (t.dome.gores.count b : Int) ≤ 16 by omega) h1.2 h1.1 (by decide)
 omega
theorem Qkv {t : Tent} {w : Int} (h : Ok68 t w) {b s : Int} (hs : s ∈ Qf0 t b) : 0 ≤ s ∧ s ≤ 60 := by
 unfold Qf0 at hs
 cases hc : t.can[b.toNat]? with
 | none => rw [hc] at hs; simp at hs
 | some l => rw [hc] at hs; exact (h.can l (Q5 hc)).2 s hs
theorem Qp9 {t : Tent} {w : Int} (h : Ok68 t w) (b : Int) : (Qf0 t b).length ≤ 61 := by
 unfold Qf0
 cases hc : t.can[b.toNat]? with
 | none => simp
 | some l => exact (h.can l (Q5 hc)).1
theorem Qp2 {t : Tent} {w : Int} (h : Ok68 t w) (b : Int) (xs : List Int) : ∀ pre2 : List Nat, (ys68 t w b xs pre2).length ≤ pre2.length * 61
 | [] => by simp [ys68]
 | j :: l => by
  have h1 := Qp2 h b xs l
  have h2 := Qp9 h b
  simp only [ys68, Xj, Zf, Qq, Qc] at *
  omega
theorem Qxr (t : Tent) (w b : Int) (xs : List Int) (pre2 : List Nat) (j : Nat) : ys68 t w b xs (pre2 ++ [j]) = ys68 t w b xs pre2 ++ (Qf0 t b).map fun s => ((cmKs xs)[j]?.getD []).headD 0 + part t w b s := by simp [ys68]
theorem Qt6 {t : Tent} {w b : Int} {xs : List Int} {pre2 : List Nat} (hp : pre2.Perm (Zq (cmKs xs).length)) (y : Int) : y ∈ ys68 t w b xs pre2 ↔ ∃ x ∈ xs, ∃ s ∈ Qf0 t b, y = x + part t w b s := by
 simp only [ys68, List.mem_flatMap, Xd]
 constructor
 ·rintro ⟨j, hj, s, hs, rfl⟩
  have hj := Z1.1 (hp.mem_iff.1 hj)
  obtain ⟨x, hx, e, _⟩ := Qf3 hj
  exact ⟨x, hx, s, hs, by simp [e]⟩
 ·rintro ⟨x, hx, s, hs, rfl⟩
  have hm := (Qcd xs [x]).2 ⟨x, hx, rfl⟩
  refine ⟨(cmKs xs).idxOf [x], hp.mem_iff.2 (Z1.2 (Xh.2 hm)), s, hs, ?_⟩
  rw [Qfp hm]; rfl
theorem Qub {t : Tent} {w : Int} (h : Ok68 t w) {pre : List Nat} {xs : List Int} {j : Nat} (hC : Inv68 t w pre xs) (hlt : ∀ i ∈ pre, i < (cmKs t.dome.gores).length) (hj : j < (cmKs t.dome.gores).length) (hjp : j ∉ pre)
  {pre2 : List Nat} (hp : pre2.Perm (Zq (cmKs xs).length)) : Inv68 t w (pre ++ [j]) (ys68 t w (gk t j) xs pre2) := by
 refine ⟨?_, fun y hy => ?_, fun y => ?_⟩
 ·have h1 := Qp2 h (gk t j) xs pre2
  have h2 : pre2.length ≤ xs.length := by rw [hp.length_eq, List.length_range]; exact Qsf xs
  have h3 := hC.len
  rw [Zf, X1, Nat.pow_succ]
  calc _ ≤ pre2.length * 61 := h1
   _ ≤ 61 ^ pre.length * 61 := Nat.mul_le_mul (Z6 h2 h3) (Zp _)
 ·obtain ⟨x, hx, s, hs, rfl⟩ := (Qt6 hp y).1 hy
  have h1 := hC.rng x hx
  have h2 := Qjq h (b := gk t j) (Qkv h hs)
  simp only [Zf, X1]
  omega
 ·rw [Qt6 hp]
  have hne : ∀ i ∈ pre, gk t i ≠ gk t j := fun i hi e => hjp (Zca (hlt i hi) hj e ▸ hi)
  constructor
  ·rintro ⟨x, hx, s, hs, rfl⟩
   obtain ⟨c, hc, rfl⟩ := (hC.mem x).1 hx
   refine ⟨fun b => if b = gk t j then s else c b, fun i hi => ?_, ?_⟩
   ·rcases X0.1 hi with hi | hi
    ·simp only [if_neg (hne i hi)]; exact hc i hi
    ·simp at hi; subst hi; simpa using hs
   ·rw [Qqn, if_pos rfl]
    congr 1
    exact Qnb fun i hi => by simp only [if_neg (hne i hi)]
  ·rintro ⟨c, hc, rfl⟩
   exact ⟨psum t w c pre, (hC.mem _).2 ⟨c, fun i hi => hc i (by simp [hi]), rfl⟩, c (gk t j), hc j (by simp), Qqn t w c pre j⟩
theorem Qua {t : Tent} {w : Int} {pre pre' : List Nat} {xs : List Int} (hC : Inv68 t w pre xs) (hp : pre.Perm pre') : Inv68 t w pre' xs := by
 refine ⟨hp.length_eq ▸ hC.len, hp.length_eq ▸ hC.rng, fun x => (hC.mem x).trans ?_⟩
 have e : ∀ c, psum t w c pre = psum t w c pre' := fun c => Qyx (hp.map _)
 simp only [e, hp.mem_iff]
theorem Qvu {t : Tent} {w : Int} (h : Ok68 t w) : (cmKs t.dome.gores).length ≤ 4 := by
 have := Qev (n := 4) (pre := (cmKs t.dome.gores).map fun k => (k.headD 0).toNat) ?_ ?_
 ·simpa using this
 ·apply Qqg ?_ (Qen _)
  intro a ha b hb e
  obtain ⟨x, hx, rfl⟩ := (Qcd _ _).1 ha
  obtain ⟨y, hy, rfl⟩ := (Qcd _ _).1 hb
  have := h.gores x hx
  have := h.gores y hy
  simp at e
  rw [show x = y by omega]
 ·intro i hi
  obtain ⟨k, hk, rfl⟩ := Xd.1 hi
  obtain ⟨x, hx, rfl⟩ := (Qcd _ _).1 hk
  have := h.gores x hx
  have := h.nc
  simp; omega
theorem P68 (t : Tent) (w : Int) (h : Ok68 t w) : Qd7 Try.prog 101 [.pa (Qbk t), .i w] (R68 t w) := by
 refine Qqr okN hmix Try.func101 cb101 cc101 cs101 cn101 ?_
 simp only [rc101, rs101, Qa7, Qa8, Qa9, Qa4, Qae, Qa5, Qa2, Fam.step, Qaf, Qbi, Qb4, nv, evO, opv, qv, ldV, lenV, Qa3, Qa0, Qa1, ↓reduceIte, Nat.reduceEqDiff, Nat.reduceAdd, Nat.reduceLeDiff, Qb, Qe, Qc, Qd, Ql, Qn, Qj, Qh, Qk, rv1, resV, zipA, Qi, Qa, true_and, and_self, reduceCtorEq, Qq, Qal, Qbk]
 refine Qbg t.dome.gores.length (fun i => ⟨lkp [(0, .pa (Qbk t)), (1, .i w), (5, .mp 0 0), (20, .sl 1 (t.dome.gores.map eI)), (21, .i t.dome.gores.length), (22, .i i)], [cm (t.dome.gores.take i)]⟩) ?_ ?_ ?_
 ·simp only [Q7, Qbk, Zbq, kp, Qa0, Qa1, ↓reduceIte, Nat.reduceEqDiff, Qb, Qe, Qw, Qh, Qk, reduceCtorEq, Qal, Qbk]
 ·intro i hi
  obtain ⟨g, hg⟩ : ∃ g, t.dome.gores[i]? = some g := ⟨_, Qr hi⟩
  have hng := h.ng
  have hlt : (i : Int) < t.dome.gores.length := by omega
  have h3 : inI ((i : Int) + 1) := by unfold inI; omega
  have hc : (t.dome.gores.take i).count g ≤ i := Z6 Xp (Zy _ _)
  have h4 : inI (((t.dome.gores.take i).count g : Int) + 1) := by unfold inI; omega
  simp only [hlt, hg, h3, cm, Qsg, h4, Qv0, ← Qe8, Q8, Zb, Qar hg, Qag, Qa7, Qa8, Qad, Qa9, Qa4, putB, lkpV, keyL, Qch, Qae, Qaj, Qa5, Qa2, Fam.step, Qaf, Qbi, Qb4, putB, nv, sv, evO, opv, qv, binV, ldV, iadV, kp, Qa3, Qat, Qa0, Qa1, ↓reduceIte, Nat.reduceEqDiff, Nat.reduceLeDiff, Qb, Qe, Qc, Qd, Qj, Qh, Qk, Qf, Qt, Qv, Q9, Qi, Qa, decide_true, and_self, false_implies, reduceCtorEq, Q6, Qq, Zd, Qp, Q1, Qal, eI, Qbk]
 ·simp only [Zt, cm, Qa7, Qa8, Qad, Qa9, Qam, Qa4, putB, keyL, Qch, Qae, Qaj, Qa5, Qa2, Fam.step, Qaf, Qbi, Qb4, putB, nv, sv, evO, opv, qv, binV, Qa3, Qat, Qa0, Qa1, ↓reduceIte, Nat.reduceEqDiff, Nat.reduceAdd, Qb, Qe, Qc, Qd, Qh, Qk, Qf, Qo, Qv, Qz, Zr, Qi, Qa, decide_false, true_and, and_self, false_implies, reduceCtorEq, Qal, Qbk]
  refine Qj4 (cmKs t.dome.gores).length (fun pre xs => ⟨lkp [(0, .pa (Qbk t)), (1, .i w), (8, .mp 1 0), (34, .it 2 0)], [cm t.dome.gores, cm xs, .iter 0 (cmKs t.dome.gores).length (Qes (cmKs t.dome.gores).length pre) pre.getLast?]⟩) (Inv68 t w) [0] ?_ ?_ ?_
  ·simp only [Qbk, cm, Qfq, Xy, Qah _ _ _ (Qf8 _), cutH, kp, cutV, cutB, Qa0, Qa1, ↓reduceIte, Nat.reduceEqDiff, Nat.reduceLT, Qb, Qe, Qg, Qs, Qh, Qk, reduceCtorEq, Qal, Qbk]
   rfl
  ·exact Qw8 t w
  ·intro pre xs hnd hlt hC
   simp only [Qbk, cm, Qag, Qa7, Qa8, Qad, Qa9, Qam, Qai, Qa4, Qc5, Qm5, Qk8, ↓Qbl, ↓Qgz, swH, sw, renV, renB, cutH, entV, keyV, endK, Qae, Qaj, Qa5, Qa2, Fam.step, Qaf, Qbi, Qb4, nv, evO, opv, qv, kp, cutV, cutB, Qa3, Qa0, Qa1, ↓reduceIte, Nat.reduceEqDiff, Nat.reduceAdd, Nat.reduceLT, Qb, Qe, Qc, Qd, Qg, Qw, Qh, Qk, Qf, Qo, Qt, Qv, Qz, rvs, rv1, Qi, Qa, true_and, and_self, reduceCtorEq, Qp, Qal, Qbk]
   refine ⟨fun hnil => ?_, fun j hj => ?_⟩
   ·refine ⟨xs, rfl, ?_, Qua hC (Qjr hnd hlt hnil)⟩
    simp only [Qck _ _ (Qf8 _), Qah _ _ _ (Qf8 _), cm]
   obtain ⟨hjn, hjp⟩ := Qcr.1 hj
   obtain ⟨b, hb, hk1, hk2⟩ := Qf3 hjn
   obtain ⟨hb0, hbl⟩ := h.gores b hb
   have hgk : gk t j = b := by simp [gk, hk1]
   simp only [hk1, hk2, Qdi hj, Qj, Qt]
   refine Qtm (cmKs xs).length (fun pre2 => ⟨lkp [(0, .pa (Qbk t)), (1, .i w), (9, .i b), (10, .i (t.dome.gores.count b)), (11, .mp 3 0), (34, .it 2 0), (42, .it 4 0)],
    [cm t.dome.gores, cm xs, .iter 0 (cmKs t.dome.gores).length (Qes (cmKs t.dome.gores).length (pre ++ [j])) (some j), cm (ys68 t w b xs pre2), .iter 1 (cmKs xs).length (Qes (cmKs xs).length pre2) pre2.getLast?]⟩) (fun _ => True) ?_ trivial ?_
   ·simp only [Qbk, cm, Qfq, Xy, kp, Qa0, Qa1, ↓reduceIte, Nat.reduceEqDiff, Qb, Qe, Qh, Qk, reduceCtorEq, Qal, Qbk]
    rfl
   ·intro pre2 hnd2 hlt2 _
    simp only [Qbk, cm, Qag, Qa7, Qa8, Qad, Qa9, Qam, Qa4, Qm5, Qk8, ↓Qgz, swH, sw, renV, renB, entV, keyV, Qae, Qaj, Qa5, Qa2, Fam.step, Qaf, evO, opv, qv, ldV, iadV, lenV, kp, cutV, cutB, Qa3, Qa0, Qa1, ↓reduceIte, Nat.reduceEqDiff, Nat.reduceAdd, Nat.reduceLT, Nat.reduceLeDiff, Qb, Qe, Qc, Qd, Ql, Qn, Qg, Qw, Qj, Qh, Qk, Qf, Qo, Qt, Qv, Qz, Qi, Qa, true_and, and_self, reduceCtorEq, Qq, Qp, Q1, Qal, Qbk]
    refine ⟨fun hnil2 => ?_, fun j2 hj2 => ?_⟩
    ·refine ⟨j, ys68 t w b xs pre2, hj, hgk ▸ Qub h hC hlt hjn hjp (Qjr hnd2 hlt2 hnil2), ?_⟩
     simp only [Qck _ _ (Qf8 _), Qah _ _ _ (Qf8 _), Xq]
    ·obtain ⟨hjn2, hjp2⟩ := Qcr.1 hj2
     obtain ⟨x, hx, hk3, hk4⟩ := Qf3 hjn2
     have hcan : t.can[b.toNat]? = some (Qf0 t b) := by rw [Qf0, Qr (by omega)]; rfl
     have hx2 := hC.rng x hx
     have hpl : pre.length < 4 := by
      have := Qvu h
      have := Qev (pre := pre ++ [j]) (n := (cmKs t.dome.gores).length) (by
       rw [List.nodup_append]
       exact ⟨hnd, by simp, fun a ha b hb => by simp at hb; subst hb; rintro rfl; exact hjp ha⟩) (by
       intro i hi
       rcases X0.1 hi with hi | hi
       ·exact hlt i hi
       ·simp at hi; omega)
      simp at this; omega
     have hys := Qp2 h b xs pre2
     have hp2 : pre2.length ≤ 226981 := by
      have := Qev hnd2 hlt2
      have := Qsf xs
      have := hC.len
      have : 61 ^ pre.length ≤ 61 ^ 3 := Xb (by decide) (by omega)
      omega
     have hcl := Qp9 h b
     simp only [hk3, Qdi hj2, hb0, hbl, hcan, Nat.reduceLeDiff, Qc, Qd, Qj, Qt, Qi, true_and, and_self, Q6, Qq, eCan]
     refine Qbg (Qf0 t b).length (fun k => ⟨lkp [(0, .pa (Qbk t)), (1, .i w), (9, .i b), (10, .i (t.dome.gores.count b)), (11, .mp 3 0), (12, .i x), (34, .it 2 0), (42, .it 4 0), (53, .sl 1 ((Qf0 t b).map eI)), (54, .i (Qf0 t b).length), (55, .i k)],
      [cm t.dome.gores, cm xs, .iter 0 (cmKs t.dome.gores).length (Qes (cmKs t.dome.gores).length (pre ++ [j])) (some j), cm (ys68 t w b xs pre2 ++ ((Qf0 t b).take k).map fun s => x + part t w b s), .iter 1 (cmKs xs).length (Qes (cmKs xs).length (pre2 ++ [j2])) (some j2)]⟩) ?_ ?_ ?_
     ·simp only [Q7, Qbk, cm, kp, Qa0, Qa1, ↓reduceIte, Nat.reduceEqDiff, Qb, Qe, Qw, Qh, Qk, Qm, reduceCtorEq, Qal, Qbk]
     ·intro k hk
      obtain ⟨s, hs⟩ : ∃ s, (Qf0 t b)[k]? = some s := ⟨_, Qr hk⟩
      have hsm := Q5 hs
      have hsr := Qkv h hsm
      have hlt3 : (k : Int) < (Qf0 t b).length := by omega
      have i1 : inI ((k : Int) + 1) := by unfold inI; omega
      have hl := h.loss
      have i2 : inI (2 * t.dome.loss) := by unfold inI; omega
      have i3 : inI (w - 2 * t.dome.loss) := by have := h.w; unfold inI; omega
      have i4 : tame 1000000 (w - 2 * t.dome.loss) ∧ tame 1000000 s := by have := h.w; unfold tame; omega
      have i5 : inI ((t.dome.gores.count b : Int) * pull (w - 2 * t.dome.loss) s) := by have := Qjq h (b := b) hsr; unfold part at this; unfold inI; omega
      have i6 : inI (x + (t.dome.gores.count b : Int) * pull (w - 2 * t.dome.loss) s) := by have := Qjq h (b := b) hsr; unfold part at this; unfold inI; omega
      have i7 : ∀ y, inI (((ys68 t w b xs pre2 ++ ((Qf0 t b).take k).map fun s => x + part t w b s).count y : Int) + 1) := by
       intro y
       have h1 := Xp (a := y) (l := ys68 t w b xs pre2 ++ ((Qf0 t b).take k).map fun s => x + part t w b s)
       have h2 := Zy k (Qf0 t b)
       rw [Zf, Qq] at h1
       unfold inI; omega
      simp only [hlt3, hs, i1, i2, i3, i4, i5, i6, i7, Qbk, cm, gN69, Qsg, Qv0, ← Qe8, Qar hs, Q8, Zb, Qag, Qa7, Qa8, Qad, Qa9, Qa4, putB, lkpV, keyL, Qch, Qae, Qaj, Qa5, Qa2, Fam.step, Qaf, Qbi, Qb4, putB, nv, sv, evO, opv, qv, binV, ldV, iadV, Qaw, Qaa, Qa6, flat, kp, Qa3, Qat, Qa0, Qa1, ↓reduceIte, Nat.reduceEqDiff, Nat.reduceAdd, Nat.reduceLT, Nat.reduceLeDiff, Qb, Qe, Qc, Qd, Ql, Qn, Qj, Qh, Qk, Qm, Qf, Qo, Qt, Qv, Qz, vw_i, Q9, Qi, Qu, Qa, decide_true, true_and, and_self, false_implies, implies_true, reduceCtorEq, Q6, Qq, Zd, Qp, Q1, Qal, eI, Qbk]
      simp only [Xi, part, X7, Qb, Qe]
     ·simp only [Qbk, cm, Zt, Qa7, Qa8, Qad, Qam, Qa4, Qae, Qaj, Qa5, Qa2, Fam.step, Qaf, evO, opv, qv, binV, Qa3, Qa0, Qa1, ↓reduceIte, Nat.reduceEqDiff, Qb, Qe, Qh, Qk, Zr, Qa, decide_false, true_and, reduceCtorEq, Qal, Qbk]
      refine ⟨j2, hj2, ?_⟩
      simp only [Qxr, hk3, Xq, Qj, Qt]
end Go.C02
set_option linter.unusedSimpArgs false
set_option linter.unusedVariables false
namespace Go.C02
open Go.Fam Go.Proofs
theorem Qor (ks : List (List Int)) (f : List Int → Int) : ((Zq ks.length).map fun j => f (ks[j]?.getD [])).sum = (ks.map f).sum := by
 congr 1
 apply List.ext_getElem?
 intro i
 rw [Q1, Q1]
 by_cases h : i < ks.length
 ·rw [List.getElem?_range h, Qr h]; simp [h]
 ·rw [X2 (by simp; omega), X2 (by omega)]; rfl
theorem Qz2 (t : Tent) (w : Int) (c : Int → Int) : psum t w c (Zq (cmKs t.dome.gores).length) = Qj8 t.dome.gores fun g => pull (w - 2 * t.dome.loss) (c g) := by
 unfold psum Qj8
 rw [← Zbr (fun g => pull (w - 2 * t.dome.loss) (c g)) t.dome.gores]
 exact Qor (cmKs t.dome.gores) fun k => part t w (k.headD 0) (c (k.headD 0))
def Qlc (t : Tent) (w x : Int) : Prop := ∃ c : Int → Int, (∀ g ∈ t.dome.gores, c g ∈ Qf0 t g) ∧ x = Qj8 t.dome.gores fun g => pull (w - 2 * t.dome.loss) (c g)
theorem Qw7 {t : Tent} {w : Int} {xs : List Int} (h : Inv68 t w (Zq (cmKs t.dome.gores).length) xs) (x : Int) : x ∈ xs ↔ Qlc t w x := by
 rw [h.mem]
 have : ∀ c : Int → Int, (∀ j ∈ Zq (cmKs t.dome.gores).length, c (gk t j) ∈ Qf0 t (gk t j)) ↔ ∀ g ∈ t.dome.gores, c g ∈ Qf0 t g := by
  intro c
  constructor
  ·intro hj g hg
   have hm := (Qcd t.dome.gores [g]).2 ⟨g, hg, rfl⟩
   have := hj ((cmKs t.dome.gores).idxOf [g]) (Z1.2 (Xh.2 hm))
   have e : gk t ((cmKs t.dome.gores).idxOf [g]) = g := by unfold gk; rw [Qfp hm]; rfl
   rwa [e] at this
  ·intro hg j hj
   obtain ⟨x, hx, e, _⟩ := Qf3 (Z1.1 hj)
   have e : gk t j = x := by unfold gk; rw [e]; rfl
   rw [e]; exact hg x hx
 simp only [this, Qz2]; rfl
def p68 (vs : List V) : Prop := eTN (dTN vs) = vs ∧ Ok68 (dTN vs).1 (dTN vs).2
def q68 : List V → Prop
 | .tp (r :: bs) :: vs => ∃ xs : List Int, r = .mp 0 0 ∧ bs = [bV (cm xs)] ∧ ∀ x, x ∈ xs ↔ Qlc (dTN vs).1 (dTN vs).2 x
 | _ => False
def GO : Gam := (GN.ext 3000101 fun vs => (p68 vs, .u)).ext 4000101 fun vs => (q68 vs, .u)
theorem okO : GOk Try.prog GO := by
 refine okN.extR (f := 101) (p := p68) (q := q68) (fun a w => Try.call101 a w) fun vs h => ?_
 have := P68 _ _ h.2
 have e : eTN (dTN vs) = vs := h.1
 unfold eTN at e
 rw [e] at this
 refine this.mono fun r hp hr => ?_
 obtain ⟨xs, rfl, rfl, hi⟩ := hr
 exact ⟨[bV (cm xs)], by simp [cm, Qmc], xs, rfl, rfl, Qw7 hi⟩
theorem gO68 (b : List Bolt) (g : List Int) (l : Int) (r : List Span) (w : List Int) (s : Int) (c : List (List Int)) (n : Int) :
  GO 3000101 [.pa [.sl 4 (b.map eBolt), .sl 1 (g.map eI), .i l, .sl 2 (r.map eSpan), .sl 1 (w.map eI), .i s, .sl 1 (c.map eCan)], .i n] = (Ok68 ⟨⟨b, g, l, r, w, s⟩, c⟩ n, .u) := by
 have e := Qy9 (⟨⟨b, g, l, r, w, s⟩, c⟩, n)
 refine (show GO 3000101 _ = (p68 (eTN (⟨⟨b, g, l, r, w, s⟩, c⟩, n)), V.u) from rfl).trans ?_
 unfold p68
 rw [e]; simp
theorem Zdi (b : List Bolt) (g : List Int) (l : Int) (r : List Span) (w : List Int) (s : Int) (c : List (List Int)) (n : Int) (x : V) (bs : List V) :
  GO 4000101 [.tp (x :: bs), .pa [.sl 4 (b.map eBolt), .sl 1 (g.map eI), .i l, .sl 2 (r.map eSpan), .sl 1 (w.map eI), .i s, .sl 1 (c.map eCan)], .i n] = (∃ xs : List Int, x = .mp 0 0 ∧ bs = [bV (cm xs)] ∧ ∀ y, y ∈ xs ↔ Qlc ⟨⟨b, g, l, r, w, s⟩, c⟩ n y, .u) := by
 have e := Qy9 (⟨⟨b, g, l, r, w, s⟩, c⟩, n)
 refine (show GO 4000101 _ = (∃ xs : List Int, x = .mp 0 0 ∧ bs = [bV (cm xs)] ∧ ∀ y, y ∈ xs ↔ Qlc (dTN (eTN (⟨⟨b, g, l, r, w, s⟩, c⟩, n))).1 (dTN (eTN (⟨⟨b, g, l, r, w, s⟩, c⟩, n))).2 y, V.u) from rfl).trans ?_
 rw [e]
theorem gO67 (n lo hi : Int) : GO 102 [.i n, .i lo, .i hi] = (True, .b (Qak n lo hi)) := rfl
theorem gO50 (b : List Bolt) (g : List Int) (l : Int) (r : List Span) (w : List Int) (s : Int) (c : List (List Int)) (n : Int) :
  GO 98 [.pa [.sl 4 (b.map eBolt), .sl 1 (g.map eI), .i l, .sl 2 (r.map eSpan), .sl 1 (w.map eI), .i s, .sl 1 (c.map eCan)], .i n] = (ok50 ⟨⟨b, g, l, r, w, s⟩, c⟩ n, .ag (eSpan (Qe6 ⟨⟨b, g, l, r, w, s⟩, c⟩ n))) := gL50 b g l r w s c n
open Classical in
noncomputable def Qg8 (t : Tent) (row w : Int) : Int :=
 if (Qd5 t.dome row).low ≤ (Qe6 t w).low ∧ (Qe6 t w).high ≤ (Qd5 t.dome row).high then 1
 else if ∃ x, Qlc t w x ∧ Qak x (Qd5 t.dome row).low (Qd5 t.dome row).high = true then 3 else 2
structure Ok47 (t : Tent) (row w : Int) : Prop where
 row : 0 ≤ row ∧ row < t.dome.rounds.length
 k50 : ok50 t w
 k68 : Ok68 t w
theorem P47 (t : Tent) (row w : Int) (h : Ok47 t row w) : Qab Try.prog 80 [.pa (Qbk t), .i row, .i w] (.i (Qg8 t row w)) := by
 refine Qac okO hmix Try.func80 cb80 cc80 cs80 cn80 ?_
 obtain ⟨⟨h3, h4⟩, h5, h6⟩ := h
 have e2 : t.dome.rounds[row.toNat]? = some (Qd5 t.dome row) := by rw [Qd5, Qr (by omega)]; rfl
 simp only [rc80, rs80, Qbk, h3, h4, e2, gO50, h5, gO68, h6, Zdi, Qag, Qa7, Qa8, Qad, Qbe, Qa9, Qai, Qa4, Qnf, putB, Qae, Qa5, Qa2, Fam.step, Qaf, Qbi, Qbz, Qb4, Qbq, ug, putB, nv, sv, evO, opv, qv, Qb2, binV, ldV, iadV, curG, Qaw, putAt, V.cells, Qas, Qb3, Qaa, Qa6, flat, Qcy, Qa3, Qat, Qa0, Qa1, ↓reduceIte, Nat.reduceEqDiff, Nat.reduceAdd, Nat.reduceLT, Nat.reduceLeDiff, Qb, Qe, Qy, Q0, Qc, Qd, Ql, Qn, Zh, Qg, Qw, Qs, Qj, Qh, Qk, Qm, Qf, Qo, Qt, Qv, Qz, endQ, rvs, rv1, resV, vw_i, Qda, zipA, beq_self_eq_true, Qi, Zs, V.i.injEq, Qx, Zg, Qu, Qa, decide_eq_true_eq, decide_eq_false_iff_not, true_and, and_true, and_self, and_false, implies_true, reduceCtorEq, Q6, beq_true, Qff, imp_self, Qq, Qp, Q1, Z0, Qfd, Qzc, eSpan, Qal, Qbk]
 refine ⟨fun hs => ?_, fun hs r bs hr => ?_⟩
 ·rw [Zo, decide_eq_true_eq, decide_eq_true_eq] at hs
  simp [Qg8, hs]
 ·have hs' : ¬ ((Qd5 t.dome row).low ≤ (Qe6 t w).low ∧ (Qe6 t w).high ≤ (Qd5 t.dome row).high) := by
   rw [Bool.and_eq_false_iff, decide_eq_false_iff_not, decide_eq_false_iff_not] at hs
   omega
  obtain ⟨xs, rfl, rfl, hm⟩ := hr
  simp only [Qmc, cm, Qez _ _ (Qf8 _), shV, shB, Qmc, Nat.reduceAdd, Qb, Qe, Qc, Qd, Qh, Qk, Qf, Qo, Qi, Zs, true_and]
  refine Qtm (cmKs xs).length (fun pre => ⟨lkp [(7, .ad 0 0 0), (36, .it 3 0)], [.cells 0 (eSpan (Qd5 t.dome row)), .cells 0 (eSpan (Qe6 t w)), cm xs, .iter 2 (cmKs xs).length (Qes (cmKs xs).length pre) pre.getLast?]⟩)
   (fun pre => ∀ j ∈ pre, Qak (((cmKs xs)[j]?.getD []).headD 0) (Qd5 t.dome row).low (Qd5 t.dome row).high = false) ?_ (by simp) ?_
  ·simp only [cm, Qfq, Xy, kp, Qa0, Qa1, ↓reduceIte, Nat.reduceEqDiff, Qb, Qe, eSpan]
  ·intro pre hnd hlt hC
   simp only [cm, Qag, Qa7, Qa8, Qad, Qbe, Qa9, Qam, Qai, Qa4, Qk8, entV, keyV, Qae, Qaj, Qa5, Qa2, Fam.step, Qaf, evO, opv, qv, ldV, curG, Qaw, Qaa, Qa6, kp, Qa3, Qa0, Qa1, ↓reduceIte, Nat.reduceEqDiff, Nat.reduceAdd, Nat.reduceLT, Nat.reduceLeDiff, Qb, Qe, Qc, Qd, Ql, Qn, Qj, Qm, Qf, Qo, Qt, Qv, Qz, endQ, rvs, rv1, resV, vw_i, beq_self_eq_true, Qi, Zs, V.i.injEq, Qu, Qa, true_and, and_true, and_self, false_implies, Qp, Z0, eSpan]
   refine ⟨fun hnil => ?_, fun j hj => ?_⟩
   ·have hp := Qjr hnd hlt hnil
    have : ¬ ∃ x, Qlc t w x ∧ Qak x (Qd5 t.dome row).low (Qd5 t.dome row).high = true := by
     rintro ⟨x, hx, hw⟩
     have hk := (Qcd xs [x]).2 ⟨x, (hm x).2 hx, rfl⟩
     have := hC ((cmKs xs).idxOf [x]) (hp.mem_iff.2 (Z1.2 (Xh.2 hk)))
     rw [Qfp hk] at this
     simp [hw] at this
    simp [Qg8, hs', this]
   ·obtain ⟨hjn, hjp⟩ := Qcr.1 hj
    obtain ⟨x, hx, hk1, hk2⟩ := Qf3 hjn
    simp only [hk1, Qdi hj, gO67, Qj, Qt, true_and]
    refine ⟨fun hw => ?_, fun hw => ⟨j, hj, ?_, ?_⟩⟩
    ·have : ∃ x, Qlc t w x ∧ Qak x (Qd5 t.dome row).low (Qd5 t.dome row).high = true := ⟨x, (hm x).1 hx, hw⟩
     simp [Qg8, hs', this]
    ·intro i hi
     rcases X0.1 hi with hi | hi
     ·exact hC i hi
     ·simp at hi; subst hi; rw [hk1]; exact hw
    ·simp only [Xq]
theorem Good.ok68 {d : Dome} (h : Good d) {w : Int} (hw : 2 * d.loss ≤ w ∧ w ≤ 2000) : Ok68 (Qc0 d) w := by
 have hl := h.v.loss
 refine ⟨⟨?_, ?_⟩, h.v.loss, h.v.ng.2, ?_, ?_, ?_⟩
 ·show 0 ≤ w - 2 * d.loss; omega
 ·show w - 2 * d.loss ≤ 2000; omega
 ·intro g hg
  have := h.v.gores g hg
  simp only [Qc0, Qbj, Qq]
  omega
 ·have := h.v.nb
  simp only [Qc0, Qbj, Qq]
  omega
 ·intro l hl
  obtain ⟨b, hb, rfl⟩ := Xd.1 hl
  have hvb := h.v.bolts b hb
  exact ⟨Qcf hvb, fun s hs => Qgx hvb hs⟩
theorem Good.ok47 {d : Dome} (h : Good d) {row w : Int} (hr : Qee d row = true) (hw : 2 * d.loss ≤ w ∧ w ≤ 2000) : Ok47 (Qc0 d) row w := by
 obtain ⟨k1, k2, _⟩ := Qxb h.v hr
 have := h.v.loss
 exact ⟨⟨k1, k2⟩, h.ok50 (by unfold tame; omega), h.ok68 hw⟩
def eTNN (a : Tent × Int × Int) : List V := [.pa (Qbk a.1), .i a.2.1, .i a.2.2]
def dTNN : List V → Tent × Int × Int | [.pa cs, .i n, .i m] => (Qya cs, n, m) | _ => (⟨D0, []⟩, 0, 0)
theorem Zc4 (a : Tent × Int × Int) : dTNN (eTNN a) = a := by simp [dTNN, eTNN, Qve]
noncomputable def r47 : List V → Prop × V := fnG eTNN dTNN (fun a => Ok47 a.1 a.2.1 a.2.2) (fun a => Qg8 a.1 a.2.1 a.2.2) .i
noncomputable def GP : Gam := GO.ext 80 r47
theorem okP : GOk Try.prog GP := okO.ext (f := 80) (r := r47) (fun a w => Try.call80 a w) (Qau fun a h => P47 a.1 a.2.1 a.2.2 h)
theorem gP47 (b : List Bolt) (g : List Int) (l : Int) (r : List Span) (w : List Int) (s : Int) (c : List (List Int)) (n m : Int) :
  GP 80 [.pa [.sl 4 (b.map eBolt), .sl 1 (g.map eI), .i l, .sl 2 (r.map eSpan), .sl 1 (w.map eI), .i s, .sl 1 (c.map eCan)], .i n, .i m] = (Ok47 ⟨⟨b, g, l, r, w, s⟩, c⟩ n m, .i (Qg8 ⟨⟨b, g, l, r, w, s⟩, c⟩ n m)) :=
 (show GP 80 _ = r47 (eTNN (⟨⟨b, g, l, r, w, s⟩, c⟩, n, m)) from rfl).trans (Qb1 _ (Zc4 _))
theorem gP45 (b : List Bolt) (g : List Int) (l : Int) (r : List Span) (w : List Int) (s : Int) (x : Bool) :
  GP 79 [.ag [.sl 4 (b.map eBolt), .sl 1 (g.map eI), .i l, .sl 2 (r.map eSpan), .sl 1 (w.map eI), .i s], .b x] = (True, Qgy ⟨b, g, l, r, w, s⟩ x) := gL45 b g l r w s x
noncomputable def Qby (d : Dome) (k : Nat) : List Int := ((ints 0 (d.widths.length - 1)).take k).filter fun r => decide (Qg8 (Qc0 d) r (Qdx d r) ≠ 1)
noncomputable def Qwh (d : Dome) : List Int × Int := if Qbc d true = 0 then (Qby d d.widths.length, 0) else ([], Qbc d true)
theorem P26 (d : Dome) : Qab Try.prog 45 [.ag (Qal d)] (eLE (Qwh d)) := by
 refine Qac okP hmix Try.func45 cb45 cc45 cs45 cn45 ?_
 simp only [rc45, rs45, gP45, Qgy, eLE, Qwh, Qag, Qa7, Qa8, Qad, Qbe, Qa9, Qai, Qa4, Qgh, Qae, Qa5, Qa2, Fam.step, Qaf, evO, opv, qv, binV, ldV, lenV, Qaw, V.cells, Qas, Qaa, Qa6, flat, Qcy, Qa3, Qa0, Qa1, ↓reduceIte, Nat.reduceEqDiff, Nat.reduceAdd, Nat.reduceLT, Nat.reduceLeDiff, Qb, Qe, Qc, Qd, Ql, Qn, Qg, Qs, Qj, Qh, Qk, Qm, Qf, Qo, Q4, Qt, endQ, rvs, rv1, resV, vw_i, vw_b, vw_z, Qay, Qaz, Qcg, zipA, Qi, Qx, Zg, Qu, Qa, decide_eq_false_iff_not, true_and, and_self, false_implies, Ze, Qq, Classical.not_not, Qfd, Qal, Qbk]
 refine ⟨fun h => by simp [h], fun h => ?_⟩
 obtain ⟨hg, _⟩ := Qe4 h
 have hnr := hg.v.nr
 have hnw := hg.v.nw
 simp only [h, ↓reduceIte]
 refine Qbg d.widths.length (fun i => ⟨lkp [(4, .pa (Qbk (Qc0 d))), (6, .rf 0 (Qby d i).length 0 (Qby d i).length 1), (18, .sl 1 (d.widths.map eI)), (19, .i d.widths.length), (20, .i i)], [.cells (Qby d i).length ((Qby d i).map eI).flatten]⟩) ?_ ?_ ?_
 ·simp only [Q7, Qc0, Qbk, Qby, Z7, Q3, kp, Qa0, Qa1, ↓reduceIte, Nat.reduceEqDiff, Qb, Qe, Qd, Qw, Qh, Qk, ne_eq, Qal, Qbk]
 ·intro i hi
  obtain ⟨x, hx⟩ : ∃ x, d.widths[i]? = some x := ⟨_, Qr hi⟩
  have hxw : Qdx d i = x := by simp [Qdx, hx]
  have hrow : Qee d i = true := by simp only [Qee, Qak, Zo, decide_eq_true_eq]; omega
  have h47 := hg.ok47 hrow (w := x) (hg.v.widths x (Q5 hx))
  have hlt : (i : Int) < d.widths.length := by omega
  have h3 : inI ((i : Int) + 1) := by unfold inI; omega
  have hget : (ints 0 ((d.widths.length : Int) - 1))[i]? = some (i : Int) := by rw [Qha (by omega)]; simp
  have hs : Qby d (i + 1) = Qby d i ++ (if decide (Qg8 (Qc0 d) i (Qdx d i) ≠ 1) then [(i : Int)] else []) := Qg1 _ hget
  have hll : (Qby d i).length ≤ i := Z6 (Xa _ _) (Zy _ _)
  rw [hxw] at hs
  unfold Qc0 at hs h47
  simp only [hlt, h3, hx, Qbk, Qc0, gP47, h47, hs, Q8, Zb, Qag, Qa7, Qa8, Qad, Qbe, Qa9, Qa4, Qcv, putB, Qae, Qaj, Qa5, Qa2, Fam.step, Qaf, Qbi, Qb4, putB, nv, sv, Qce, evO, opv, qv, binV, ldV, iadV, Qaw, Qap, putAt, Qb7, Qb6, V.cells, Qas, Qb3, Qaa, Qa6, flat, kp, Qa3, Qa0, Qa1, ↓reduceIte, Nat.reduceEqDiff, Nat.reduceMul, Nat.reduceLT, Nat.reduceLeDiff, Qb, Qe, Qy, Q0, Qc, Qd, Qg, Qw, Qj, Qh, Qk, Qm, Qf, Qt, Qv, Q2, Za, vw_i, Qda, Q9, Qi, Qx, Qu, Qa, decide_true, decide_eq_true_eq, decide_eq_false_iff_not, true_and, and_self, implies_true, reduceCtorEq, not_false_eq_true, ne_eq, Q6, Ze, Qq, Zd, Qp, Q1, Classical.not_not, Qfd, Qal, eI, Qbk]
  refine ⟨fun he => ?_, fun he => ?_⟩
  ·simp only [he, Qet, Zf, Xi, Xf, Zc, Q3, Zw, ↓reduceIte, Qb, Qe, Qc, Qd, Qm, Qi, true_and, and_true, not_false_eq_true, eI]
   unfold Qbd; omega
  ·simp only [he, ↓reduceIte, Qm, not_true_eq_false]
 ·simp only [Qby, Qet, Zw, Zp, Qdp, vw_I, Qa7, Qa8, Qad, Qam, Qai, Qa4, Qae, Qaj, Qa5, Qa2, Fam.step, Qaf, evO, opv, qv, binV, ldV, Qa3, Qa0, Qa1, ↓reduceIte, Nat.reduceEqDiff, Qb, Qe, Qh, Qk, Qf, endQ, rvs, rv1, resV, vw_i, Qcg, Qdw, Zr, Qi, Qa, decide_false, and_self, ne_eq, Qal, Qbk]
end Go.C02
set_option linter.unusedSimpArgs false
set_option linter.unusedVariables false
namespace Go.C02
open Go.Fam Go.Proofs
def Qph (d : Dome) : List V := [.rf 2 1 0 d.bolts.length 4, .rf 3 1 0 d.gores.length 1, .i d.loss, .rf 5 1 0 d.rounds.length 2, .rf 7 1 0 d.widths.length 1, .i d.slope]
def Qmr (d : Dome) : List Blk :=
 [.cells 0 (Qph d), .cells 0 (Qph d), .cells 1 (d.bolts.map eBolt).flatten, .cells 1 (d.gores.map eI).flatten, .hole, .cells 1 (d.rounds.map eSpan).flatten, .hole, .cells 1 (d.widths.map eI).flatten, .hole]
def Qzy (d : Dome) : V := .ag (Qph d)
structure Ok22 (d : Dome) : Prop where
 b : d.bolts.length < 1000000
 g : d.gores.length < 1000000
 r : d.rounds.length < 1000000
 w : d.widths.length < 1000000
 s : ∀ b ∈ d.bolts, b.strips.length < 1000000
theorem O22 (d : Dome) (h : Ok22 d) : Qdf Try.prog 55 [.ag (Qal d)] (Qzy d) (Qmr d) := by
 refine Qj0 okP hmix Try.func55 cb55 cc55 cs55 cn55 ?_
 simp only [rc55, rs55, Q3, Qa7, Qa8, Qa9, Qa4, putB, Qae, Qa5, Qa2, Fam.step, Qaf, Qbi, Qb4, putB, nv, sv, Qce, evO, opv, qv, ldV, curG, Qap, putAt, Qb7, Qb6, V.cells, Qas, Qb3, Qaa, Qa6, Qa3, Qat, Qa0, Qa1, ↓reduceIte, Nat.reduceEqDiff, Nat.reduceAdd, Nat.reduceMul, Nat.reduceLeDiff, Qb, Qe, Qy, Q0, Qc, Qd, Ql, Qn, Zh, Qg, Qw, Qs, Qj, Qh, Qk, Qm, Qf, Qo, Qv, Qz, Q2, vw_i, Qay, Qaz, zipA, beq_self_eq_true, Qi, Zs, Qx, Qu, Qa, true_and, and_self, Qq, Qal]
 have hb := h.b
 have hg := h.g
 have hr := h.r
 have hw := h.w
 refine ⟨by unfold Qbd; omega, ?_⟩
 refine Qbg d.bolts.length (fun i => ⟨lkp [(1, .pa (Qal d)), (2, .ad 0 0 0), (3, .ad 1 0 0), (4, .i i)], [.cells 0 [.z 4, .z 1, .i 0, .z 2, .z 1, .i 0], .cells 0 [.rf 2 1 0 d.bolts.length 4, .sl 1 (d.gores.map eI), .i d.loss, .sl 2 (d.rounds.map eSpan), .sl 1 (d.widths.map eI), .i d.slope], .cells 1 (d.bolts.map eBolt).flatten]⟩) ?_ ?_ ?_
 ·simp only [Q7, Qah _ _ _ (Qc4 (e := eBolt) (fun _ => rfl) d.bolts), cutH, kp, cutV, cutL, cutB, Qa0, Qa1, ↓reduceIte, Nat.reduceEqDiff, Nat.reduceLT, Qb, Qe, Qg, Qs, Qal]
 ·intro i hi
  obtain ⟨x, hx⟩ : ∃ x, d.bolts[i]? = some x := ⟨_, Qr hi⟩
  have hlt : (i : Int) < d.bolts.length := by omega
  have h3 : inI ((i : Int) + 1) := by unfold inI; omega
  have hfl := Qdq (e := eBolt) (k := 4) (fun _ => rfl) d.bolts
  have hst : Qbd x.strips.length := by have := h.s x (Q5 hx); unfold Qbd; omega
  have hoff : i * 4 + 2 + 1 ≤ d.bolts.length * 4 := by omega
  have hnr := Qc4 (e := eBolt) (fun _ => rfl) d.bolts
  have hns := Qc4 (e := eStrip) (fun _ => rfl) x.strips
  have hsl := Qdq (e := eStrip) (k := 3) (fun _ => rfl) x.strips
  have hvw : ∀ hp, (x.strips.map eStrip).map (fun r => r.map (vw hp 7)) = x.strips.map eStrip := fun hp => Qcq (e := eStrip) hp 7 (fun _ => rfl) _
  have hput : List.take (i * 4 + 2) (d.bolts.map eBolt).flatten ++ [V.sl 3 (x.strips.map eStrip)] ++ List.drop (i * 4 + 2 + 1) (d.bolts.map eBolt).flatten = (d.bolts.map eBolt).flatten :=
   Qtg (Qo1 (k := 4) (fun _ => rfl) d.bolts i 2 x hx (by decide))
  simp only [hx, hlt, Q8, Zb, h3, Q3, hfl, hst, hoff, Qcp, Qah _ _ _ (Qk2 _ _ hnr), Qah _ _ _ (Qk1 _ _ hnr), Qah _ _ _ hnr, hpF, upB, Qc8 _ _ hns, Qd6 (e := eStrip) (k := 3) (fun _ => rfl), hsl, hvw, Zp, hput, Qag, Qa7, Qbf, Qa8, Qad, Qa9, Qa4, Qc5, ↓Qbl, Qba, optL, cutH, Qae, Qaj, Qa5, Qa2, Fam.step, Qaf, Qb4, runX, eff, Qb9, fpR, fpQ, fpV, Qbp, hits, nv, sv, Qce, evO, opv, qv, binV, ldV, iadV, lenV, curG, Qap, putAt, Qb7, Qb6, V.cells, Qas, Qb3, kp, cutV, cutL, cutB, Qa3, Qat, Qa0, Qa1, ↓reduceIte, Nat.reduceEqDiff, Nat.reduceAdd, Nat.reduceMul, Nat.reduceLT, Nat.reduceLeDiff, Nat.reduceBEq, Qb, Qe, Qy, Q0, Qc, Qd, Ql, Qn, Qg, Qw, Qs, Qj, Qh, Qk, Qf, Qo, Q4, Qt, Zn, Qv, Qz, Q2, Za, Zi, Zx, Qdw, Q9, beq_self_eq_true, Qi, Zs, Qx, Zg, Xg, Zm, Z4, Qu, Z8, Zk, Zj, Qa, decide_true, and_self, false_and, reduceCtorEq, Q6, Z9, Zv, Zu, Zl, Qq, Zd, Qp, Q1, eBolt, Qal]
 ·simp only [Q3, Zp, Qzy, Qmr, Qph, Qa7, Qbf, Qa8, Qad, Qam, Qai, Qa4, Qba, optL, putB, endO, Qae, Qaj, Qa5, Qa2, Fam.step, Qaf, Qbi, Qb4, runX, eff, Qb9, fpR, fpQ, fpV, Qbp, hits, putB, nv, sv, Qce, evO, opv, qv, binV, ldV, lenV, curG, Qap, putAt, Qb7, Qb6, V.cells, Qas, Qb3, Qa3, Qat, Qa0, Qa1, ↓reduceIte, Nat.reduceEqDiff, Nat.reduceAdd, Nat.reduceMul, Nat.reduceLeDiff, Nat.reduceBEq, Qb, Qe, Qy, Q0, Qc, Qd, Ql, Qn, Zh, Qg, Qw, Qs, Qj, Qh, Qk, Qm, Qf, Qo, Q4, Qt, Zn, Qv, Qz, Q2, Za, Zi, Zx, rvs, rv1, resV, Zr, beq_self_eq_true, Qi, Zs, Qx, Zg, Xg, Zm, Z4, Qu, Z8, Zk, Zj, Qa, decide_false, true_and, and_true, and_self, Z9, Zv, Zu, Zl, Qq, Qp, Qal]
  unfold Qbd
  omega
theorem P22' (d : Dome) (h : Ok22 d) : Qab Try.prog 55 [.ag (Qal d)] (.ag (Qal d)) := P22 d ⟨h.b, h.g, h.r, h.w, h.s⟩
def r22 : List V → Prop × V := fnG (fun d => [.ag (Qal d)]) dD Ok22 (fun d => d) (fun d => .ag (Qal d))
def r22o : List V → Prop × V := fnG (fun d => [.ag (Qal d)]) dD Ok22 (fun d => d) (fun d => .tp [Qzy d, .tp ((Qmr d).map bV)])
theorem Qzz (d : Dome) : ((Qmr d).map bV).map vB = Qmr d := by simp [Qmr, Qph, bV, vB]
noncomputable def GQ : Gam := (GP.ext 55 r22).ext 1000055 r22o
theorem okQ : GOk Try.prog GQ := by
 have k1 := okP.ext (f := 55) (r := r22) (fun a w => Try.call55 a w) (Qau fun d h => P22' d h)
 refine k1.extO (f := 55) (r := r22o) (fun a w => Try.call55 a w) fun vs r' bs h1 h2 => ?_
 simp only [r22o, fnG, V.tp.injEq, List.cons.injEq, and_true] at h1 h2
 obtain ⟨rfl, rfl⟩ := h2
 rw [← h1.1, Qzz]
 simp only [dD, Qdh]
 rw [← h1.1] at h1
 simp only [dD, Qdh] at h1
 exact O22 _ h1.2
end Go.C02
set_option linter.unusedSimpArgs false
set_option linter.unusedVariables false
namespace Go.C02
open Go.Fam Go.Proofs
theorem Qsw {P : Program} {A : Type} {e : A → List V} {d : List V → A} {ok : A → Prop} {v : A → V} {hp : A → List Blk} {f : Nat} (hvB : ∀ a, ((hp a).map bV).map vB = hp a) (h : ∀ a, ok a → Qdf P f (e a) (v a) (hp a))
  (vs : List V) (r : V) (bs : List V) (h1 : (fnG e d ok (fun a => a) (fun a => .tp [v a, .tp ((hp a).map bV)]) vs).1) (h2 : (fnG e d ok (fun a => a) (fun a => .tp [v a, .tp ((hp a).map bV)]) vs).2 = .tp [r, .tp bs]) : Qdf P f vs r (bs.map vB) := by
 simp only [fnG, V.tp.injEq, List.cons.injEq, and_true] at h1 h2
 obtain ⟨rfl, rfl⟩ := h2
 have := h (d vs) h1.2
 rw [h1.1] at this
 rwa [hvB]
def exD : Dome := ⟨[⟨⟨0, 20⟩, [⟨1000, ⟨1005, 1010⟩⟩], 0⟩, ⟨⟨0, 10⟩, [], 0⟩], [0, 0, 1, 1], 5, [⟨400, 404⟩, ⟨600, 650⟩, ⟨803, 806⟩], [110, 165, 210], 50⟩
def exCs : List V := [.sl 4 (exD.bolts.map eBolt), .sl 1 (exD.gores.map eI), .i 5, .rf 1 0 0 3 2, .sl 1 (exD.widths.map eI), .i 50]
def exHp : List Blk := [.cells 0 exCs, .cells 0 [.i 400, .i 404, .i 600, .i 650, .i 803, .i 806]]
theorem O44 : Qdf Try.prog 78 [] (.ag exCs) exHp := by
 refine Qj0 okQ hmix Try.func78 cb78 cc78 cs78 cn78 ?_
 simp only [rc78, rs78, exCs, exHp, exD, Zc, Q3, Qa7, Qa8, Qai, Qa4, Qcv, putB, endO, Qae, Qa5, Qa2, Fam.step, Qaf, Qbi, Qb4, putB, nv, sv, evO, opv, qv, ldV, Qap, putAt, Qb7, Qb6, V.cells, Qas, Qb3, Qaa, Qa6, Qa3, Qat, Qa0, Qa1, ↓reduceIte, Nat.reduceEqDiff, Nat.reduceAdd, Nat.reduceMul, Nat.reduceLeDiff, Qb, Qe, Qy, Q0, Qc, Qd, Ql, Qn, Zh, Qg, Qw, Qs, Qh, Qk, Qm, Qf, Qv, Q2, Za, rvs, rv1, resV, vw_i, vw_z, Qay, Qaz, zipA, Qi, Qx, Qu, true_and, and_self, reduceCtorEq, not_false_eq_true, ne_eq, eStrip, eBolt, eI]
 exact ⟨rfl, rfl⟩
theorem O26 (d : Dome) (h : Qbc d true = 0) : Qdf Try.prog 45 [.ag (Qal d)] (.tp [.rf 0 (Qby d d.widths.length).length 0 (Qby d d.widths.length).length 1, .i 0]) [.cells (Qby d d.widths.length).length ((Qby d d.widths.length).map eI).flatten] := by
 refine Qj0 okP hmix Try.func45 cb45 cc45 cs45 cn45 ?_
 simp only [rc45, rs45, gP45, Qgy, h, Qag, Qa7, Qa8, Qad, Qa9, Qa4, Qgh, Qae, Qa5, Qa2, Fam.step, Qaf, evO, opv, qv, binV, ldV, lenV, Qaw, V.cells, Qas, Qaa, Qa6, flat, Qcy, Qa3, Qa0, Qa1, ↓reduceIte, Nat.reduceEqDiff, Nat.reduceAdd, Nat.reduceLT, Nat.reduceLeDiff, Qb, Qe, Qc, Qd, Ql, Qn, Qg, Qs, Qj, Qh, Qk, Qm, Qf, Qo, Qt, vw_i, vw_b, Qay, Qaz, zipA, Qi, Qx, Zg, Qu, Zk, Qa, decide_true, true_and, and_self, imp_self, Qq, Qfd, Qal, Qbk]
 obtain ⟨hg, _⟩ := Qe4 h
 have hnr := hg.v.nr
 have hnw := hg.v.nw
 refine Qbg d.widths.length (fun i => ⟨lkp [(4, .pa (Qbk (Qc0 d))), (6, .rf 0 (Qby d i).length 0 (Qby d i).length 1), (18, .sl 1 (d.widths.map eI)), (19, .i d.widths.length), (20, .i i)], [.cells (Qby d i).length ((Qby d i).map eI).flatten]⟩) ?_ ?_ ?_
 ·simp only [Q7, Qc0, Qbk, Qby, Z7, Q3, kp, Qa0, Qa1, ↓reduceIte, Nat.reduceEqDiff, Qb, Qe, Qd, Qw, Qh, Qk, ne_eq, Qal, Qbk]
 ·intro i hi
  obtain ⟨x, hx⟩ : ∃ x, d.widths[i]? = some x := ⟨_, Qr hi⟩
  have hxw : Qdx d i = x := by simp [Qdx, hx]
  have hrow : Qee d i = true := by simp only [Qee, Qak, Zo, decide_eq_true_eq]; omega
  have h47 := hg.ok47 hrow (w := x) (hg.v.widths x (Q5 hx))
  have hlt : (i : Int) < d.widths.length := by omega
  have h3 : inI ((i : Int) + 1) := by unfold inI; omega
  have hget : (ints 0 ((d.widths.length : Int) - 1))[i]? = some (i : Int) := by rw [Qha (by omega)]; simp
  have hs : Qby d (i + 1) = Qby d i ++ (if decide (Qg8 (Qc0 d) i (Qdx d i) ≠ 1) then [(i : Int)] else []) := Qg1 _ hget
  have hll : (Qby d i).length ≤ i := Z6 (Xa _ _) (Zy _ _)
  rw [hxw] at hs
  unfold Qc0 at hs h47
  simp only [hlt, h3, hx, Qbk, Qc0, gP47, h47, hs, Q8, Zb, Qag, Qa7, Qa8, Qad, Qbe, Qa9, Qa4, Qcv, putB, Qae, Qaj, Qa5, Qa2, Fam.step, Qaf, Qbi, Qb4, putB, nv, sv, Qce, evO, opv, qv, binV, ldV, iadV, Qaw, Qap, putAt, Qb7, Qb6, V.cells, Qas, Qb3, Qaa, Qa6, flat, kp, Qa3, Qa0, Qa1, ↓reduceIte, Nat.reduceEqDiff, Nat.reduceMul, Nat.reduceLT, Nat.reduceLeDiff, Qb, Qe, Qy, Q0, Qc, Qd, Qg, Qw, Qj, Qh, Qk, Qm, Qf, Qt, Qv, Q2, Za, vw_i, Qda, Q9, Qi, Qx, Qu, Qa, decide_true, decide_eq_true_eq, decide_eq_false_iff_not, true_and, and_self, implies_true, reduceCtorEq, not_false_eq_true, ne_eq, Q6, Ze, Qq, Zd, Qp, Q1, Classical.not_not, Qfd, Qal, eI, Qbk]
  refine ⟨fun he => ?_, fun he => ?_⟩
  ·simp only [he, Qet, Zf, Xi, Xf, Zc, Q3, Zw, ↓reduceIte, Qb, Qe, Qc, Qd, Qm, Qi, true_and, and_true, not_false_eq_true, eI]
   unfold Qbd; omega
  ·simp only [he, ↓reduceIte, Qm, not_true_eq_false]
 ·simp only [Qa7, Qa8, Qad, Qam, Qai, Qa4, endO, Qae, Qaj, Qa5, Qa2, Fam.step, Qaf, evO, opv, qv, binV, ldV, Qa3, Qa0, Qa1, ↓reduceIte, Nat.reduceEqDiff, Qb, Qe, Qh, Qk, rvs, rv1, resV, Zr, Qa, decide_false, and_self, Qal, Qbk]
noncomputable def v26 (d : Dome) : V := .tp [.rf 0 (Qby d d.widths.length).length 0 (Qby d d.widths.length).length 1, .i 0]
noncomputable def h26 (d : Dome) : List Blk := [.cells (Qby d d.widths.length).length ((Qby d d.widths.length).map eI).flatten]
theorem Zcb (d : Dome) : ((h26 d).map bV).map vB = h26 d := by simp [h26, bV, vB]
noncomputable def r26o : List V → Prop × V := fnG (fun d => [.ag (Qal d)]) dD (fun d => Qbc d true = 0) (fun d => d) (fun d => .tp [v26 d, .tp ((h26 d).map bV)])
def r23 : List V → Prop × V := fnG eDN dDN (fun a => a.1.rounds.length < 1000) (fun a => Qxa a.1 a.2) eSE
noncomputable def r26 : List V → Prop × V := fnG (fun d => [.ag (Qal d)]) dD (fun _ => True) Qwh eLE
def r36 : List V → Prop × V := fnG eDN dDN (fun a => a.1.bolts.length < 1000) (fun a => Qcc a.1 a.2) eLE
def r44o : List V → Prop × V := fnG (fun _ : Unit => []) (fun _ => ()) (fun _ => True) (fun a => a) (fun _ => .tp [.ag exCs, .tp (exHp.map bV)])
theorem Zdg : (exHp.map bV).map vB = exHp := by simp [exHp, exCs, bV, vB]
noncomputable def GR : Gam := ((((GQ.ext 77 r23).ext 45 r26).ext 82 r36).ext 1000078 r44o).ext 1000045 r26o
theorem okR : GOk Try.prog GR := by
 have k1 := okQ.ext (f := 77) (r := r23) (fun a w => Try.call77 a w) (Qau fun a h => P23 a.1 a.2 h)
 have k4 := k1.ext (f := 45) (r := r26) (fun a w => Try.call45 a w) (Qau fun a _ => P26 a)
 have k6 := k4.ext (f := 82) (r := r36) (fun a w => Try.call82 a w) (Qau fun a h => P36 a.1 a.2 h)
 have k10 := k6.extO (f := 78) (r := r44o) (fun a w => Try.call78 a w) (Qsw (hp := fun _ => exHp) (fun _ => Zdg) fun _ _ => O44)
 exact k10.extO (f := 45) (r := r26o) (fun a w => Try.call45 a w) (Qsw (hp := h26) Zcb fun d h => O26 d h)
end Go.C02
set_option linter.unusedSimpArgs false
set_option linter.unusedVariables false
namespace Go.C02
open Go.Fam Go.Proofs
def bigs (d : Dome) : Bool := decide ((20 : Int) < d.bolts.length) || decide ((60 : Int) < d.gores.length) || decide ((60 : Int) < d.rounds.length) || decide ((60 : Int) < d.widths.length)
def Qf6 (d : Dome) (k : Nat) : Int := (d.bolts.take k).foldl (fun m b => m * (Qan b).length) 1
theorem Qi3 {d : Dome} {k : Nat} {b : Bolt} (h : d.bolts[k]? = some b) : Qf6 d (k + 1) = Qf6 d k * (Qan b).length := by
 simp [Qf6, Qar h]
def far (d : Dome) : Bool :=
 if bigs d then true else if d.bolts.any (fun b => decide ((60 : Int) < b.strips.length)) then true else if Qcl d ≠ 0 then false
 else decide ((49 : Int) < Qf6 d d.bolts.length) || decide ((8 : Int) < d.gores.length) || decide ((4 : Int) < d.rounds.length)
theorem Qk6 {d : Dome} (hv : Valid d) : ∀ k : Nat, k ≤ 4 → 0 ≤ Qf6 d k ∧ Qf6 d k ≤ 61 ^ k
 | 0, _ => by simp [Qf6]
 | k + 1, hk => by
  have h1 := Qk6 hv k (by omega)
  cases hb : d.bolts[k]? with
  | none =>
   have : Qf6 d (k + 1) = Qf6 d k := by
    have hl := List.getElem?_eq_none_iff.1 hb
    simp [Qf6, Z5 hl, Z5 (Z6 hl (Nat.le_succ k))]
   rw [this]
   refine ⟨h1.1, Int.le_trans h1.2 ?_⟩
   exact_mod_cast Xb (by decide : 0 < 61) (Nat.le_succ k)
  | some b =>
   rw [Qi3 hb]
   have h2 := Qcf (hv.bolts b (Q5 hb))
   refine ⟨Xt h1.1 (by omega), ?_⟩
   rw [Int.pow_succ]
   exact Xu h1.2 (by omega) (by omega) (by exact_mod_cast Nat.zero_le (61 ^ k))
theorem gR39 (b : List Bolt) (g : List Int) (l : Int) (r : List Span) (w : List Int) (s : Int) : GR 58 [.ag [.sl 4 (b.map eBolt), .sl 1 (g.map eI), .i l, .sl 2 (r.map eSpan), .sl 1 (w.map eI), .i s]] = (True, .i (Qcl ⟨b, g, l, r, w, s⟩)) := gJ39 ⟨b, g, l, r, w, s⟩
theorem gR49 (a b : Int) (l : List Strip) (w s : Int) : GR 69 [.ag [.i a, .i b, .sl 3 (l.map eStrip), .i w], .i s] = (ok66 l s, .b (can ⟨⟨a, b⟩, l, w⟩ s)) := gJ49 a b l w s
theorem P21 (d : Dome) : Qab Try.prog 57 [.ag (Qal d)] (.b (far d)) := by
 refine Qac okR hmix Try.func57 cb57 cc57 cs57 cn57 ?_
 simp only [rc57, rs57, Qag, Qa7, Qa8, Qad, Qbe, Qa9, Qai, Qa4, Qae, Qa5, Qa2, Fam.step, Qaf, Qbz, Qbq, ug, evO, opv, qv, Qb2, binV, ldV, lenV, V.cells, Qas, Qaa, Qa6, Qa3, Qa0, Qa1, ↓reduceIte, Nat.reduceEqDiff, Nat.reduceAdd, Nat.reduceLeDiff, Qb, Qe, Qy, Q0, Qc, Qd, Ql, Qn, Qj, endQ, rvs, rv1, resV, vw_i, vw_b, Qay, Qaz, zipA, Qi, V.b.injEq, Qx, Zg, Qu, Qa, decide_eq_true_eq, decide_eq_false_iff_not, true_and, and_true, and_self, implies_true, beq_false, Ze, Qf1, Xs, imp_self, Qq, Z0, Qal]
 refine ⟨fun h => ?_, fun h => ?_⟩
 ·have : bigs d = true := h
  simp [far, this]
 have hbig : bigs d = false := h
 have hlen : d.bolts.length ≤ 20 := by
  simp only [bigs, Z2, decide_eq_false_iff_not] at hbig
  omega
 refine Qb8 d.bolts.length (fun i => ⟨lkp [(1, .pa (Qal d)), (3, .i i)], []⟩) (fun i => (d.bolts.take i).any (fun b => decide ((60 : Int) < b.strips.length)) = false) ?_ ?_ ?_ ?_
 ·simp only [Q7, kp, Qa0, Qa1, ↓reduceIte, Nat.reduceEqDiff, Qb, Qe, Qal]
 ·rfl
 ·intro i hi hC
  obtain ⟨b, hb⟩ : ∃ b, d.bolts[i]? = some b := ⟨_, Qr hi⟩
  have hlt : (i : Int) < d.bolts.length := by omega
  have h3 : inI ((i : Int) + 1) := by unfold inI; omega
  simp only [hb, hlt, h3, Q8, Zb, Qag, Qa7, Qa8, Qad, Qbe, Qa9, Qai, Qa4, Qae, Qaj, Qa5, Qa2, Fam.step, Qaf, evO, opv, qv, binV, ldV, iadV, lenV, kp, Qa3, Qa0, Qa1, ↓reduceIte, Nat.reduceEqDiff, Nat.reduceAdd, Nat.reduceLeDiff, Qb, Qe, Qc, Qd, Ql, Qn, Qj, Qt, endQ, rvs, rv1, resV, vw_b, Q9, Qi, V.b.injEq, Qa, decide_true, decide_eq_true_eq, true_and, and_true, and_self, Q6, Qq, Zd, Qp, Q1, eBolt, Qal]
  refine ⟨fun h60 => ?_, fun h60 => ?_⟩
  ·have : d.bolts.any (fun b => decide ((60 : Int) < b.strips.length)) = true := Xm.2 ⟨b, Q5 hb, by simpa using h60⟩
   simp [far, hbig, this]
  ·rw [Qar hb, Ja, hC]
   simp; omega
 ·intro hC
  rw [Zt] at hC
  simp only [gR39, Qag, Qa7, Qa8, Qad, Qbe, Qa9, Qam, Qai, Qa4, Qae, Qaj, Qa5, Qa2, Fam.step, Qaf, evO, opv, qv, binV, ldV, lenV, Qaw, Qaa, Qa6, flat, Qa3, Qa0, Qa1, ↓reduceIte, Nat.reduceEqDiff, Nat.reduceAdd, Nat.reduceLT, Nat.reduceLeDiff, Qb, Qe, Qc, Qd, Qn, Qg, Qs, Qj, Qm, endQ, rvs, rv1, resV, vw_i, vw_b, Qay, Qaz, Zr, Qi, V.b.injEq, Qu, Qa, decide_false, decide_eq_false_iff_not, true_and, and_self, implies_true, Ze, Qq, Classical.not_not, Qfd, Qal]
  refine ⟨fun hc => ?_, fun hc => ?_⟩
  ·simp [far, hbig, hC, hc]
  have hv := Qg9 hc
  have hnb := hv.nb
  refine Qbg d.bolts.length (fun i => ⟨lkp [(1, .pa (Qal d)), (4, .i (Qf6 d i)), (5, .i i)], []⟩) ?_ ?_ ?_
  ·simp only [Q7, Qf6, Je, Je, kp, Qa0, Qa1, ↓reduceIte, Nat.reduceEqDiff, Qb, Qe, Qw, Qal]
  ·intro i hi
   obtain ⟨b, hb⟩ : ∃ b, d.bolts[i]? = some b := ⟨_, Qr hi⟩
   have hlt : (i : Int) < d.bolts.length := by omega
   have h3 : inI ((i : Int) + 1) := by unfold inI; omega
   have hvb := hv.bolts b (Q5 hb)
   have hst := hvb.st
   simp only [hb, hlt, Q8, Zb, Qag, Qa7, Qa8, Qad, Qa9, Qa4, Qae, Qa5, Qa2, Fam.step, Qaf, evO, opv, qv, binV, ldV, iadV, lenV, kp, Qa3, Qa0, Qa1, ↓reduceIte, Nat.reduceEqDiff, Nat.reduceAdd, Nat.reduceLeDiff, Qb, Qe, Qc, Qd, Qn, Qj, Qt, Q9, Qi, Qa, decide_true, true_and, and_self, Q6, Qq, Zd, Qp, Q1, eBolt, Qal]
   refine Qbg (b.stretch.high + 1 - b.stretch.low).toNat (fun k => ⟨lkp [(1, .pa (Qal d)), (4, .i (Qf6 d i)), (5, .i i), (6, .i (Qbm b k).length), (7, .i (b.stretch.low + k))], []⟩) ?_ ?_ ?_
   ·simp only [Q7, Xz, Qbm, Z7, kp, Qa0, Qa1, ↓reduceIte, Nat.reduceEqDiff, Qb, Qe, Qd, Qw, Qal]
   ·intro k hk
    have hlt2 : b.stretch.low + (k : Int) ≤ b.stretch.high := by omega
    have h4 : inI (b.stretch.low + (k : Int) + 1) := by unfold inI; omega
    have h5 := hvb.ok66 (s := b.stretch.low + k) (by omega)
    have h6 := Qg6 b k
    have h7 : inI (((Qbm b k).length : Int) + 1) := by unfold inI; omega
    rw [Z3] at h4
    simp only [hb, hlt, hlt2, h4, h5, h7, gR49, Qfi hk, Q8, Zb, Z3, Qag, Qa7, Qa8, Qad, Qbe, Qa9, Qa4, Qae, Qaj, Qa5, Qa2, Fam.step, Qaf, evO, opv, qv, binV, ldV, iadV, Qaw, Qaa, Qa6, flat, kp, Qa3, Qa0, Qa1, ↓reduceIte, Nat.reduceEqDiff, Nat.reduceAdd, Nat.reduceLT, Nat.reduceLeDiff, Qb, Qe, Qc, Qd, Ql, Qn, Qg, Qs, Qj, Qm, Qt, vw_i, Qay, Qaz, Q9, Qi, Qu, Qa, decide_true, true_and, and_self, implies_true, Q6, Qq, Zd, Qp, Q1, Z0, Qi9, Qnp, eBolt, Qal]
    refine ⟨fun h => ?_, fun h => ?_⟩
    ·simp only [h, Zf, Q8, Zb, ↓reduceIte, Qc, Qd, Qi]
    ·simp only [h, ↓reduceIte, Qm, Qa]
   ·have hgt : ¬ (b.stretch.low + ((b.stretch.high + 1 - b.stretch.low).toNat : Int) ≤ b.stretch.high) := by omega
    have hm := Qk6 hv (i + 1) (by omega)
    have hp : (61 : Int) ^ (i + 1) ≤ 61 ^ 4 := by exact_mod_cast Xb (by decide : 0 < 61) (show i + 1 ≤ 4 by omega)
    rw [Qi3 hb] at hm
    have h8 : inI (Qf6 d i * (Qan b).length) := by unfold inI; omega
    simp only [hb, hlt, hgt, Qg5, h8, h3, Qi3 hb, Qa7, Qa8, Qad, Qam, Qa4, Qae, Qaj, Qa5, Qa2, Fam.step, Qaf, evO, opv, qv, binV, ldV, iadV, Qa3, Qa0, Qa1, ↓reduceIte, Nat.reduceEqDiff, Nat.reduceAdd, Nat.reduceLeDiff, Qb, Qe, Qc, Qd, Ql, Qn, Qj, Qt, Q9, Qi, Qa, decide_false, and_self, Q6, Qq, Zd, Qp, Q1, eBolt, Qal]
  ·simp only [Qa7, Qa8, Qad, Qam, Qai, Qa4, Qae, Qaj, Qa5, Qa2, Fam.step, Qaf, Qbz, Qbq, ug, evO, opv, qv, Qb2, binV, ldV, lenV, Qa3, Qa0, Qa1, ↓reduceIte, Nat.reduceEqDiff, Nat.reduceAdd, Nat.reduceLeDiff, Qb, Qe, Qy, Q0, Qc, Qd, Ql, Qn, Qj, endQ, rvs, rv1, resV, vw_b, Zr, Qi, V.b.injEq, Qx, Zg, Qa, decide_false, decide_eq_true_eq, decide_eq_false_iff_not, true_and, and_true, and_self, implies_true, beq_false, Ze, Qf1, Xs, imp_self, Qq, Qal]
   simp [far, hbig, hC, hc]
def r21 : List V → Prop × V := fnG (fun d => [.ag (Qal d)]) dD (fun _ => True) far .b
noncomputable def GS : Gam := GR.ext 57 r21
theorem okS : GOk Try.prog GS := by
 have k1 := okR.ext (f := 57) (r := r21) (fun a w => Try.call57 a w) (Qau fun a _ => P21 a)
 exact k1
end Go.C02
set_option linter.unusedSimpArgs false
set_option linter.unusedVariables false
namespace Go.C02
open Go.Fam Go.Proofs
def eDNN (a : Dome × Int × Int) : List V := [.ag (Qal a.1), .i a.2.1, .i a.2.2]
def dDNN : List V → Dome × Int × Int | [.ag cs, .i n, .i m] => (Qjh cs, n, m) | _ => (D0, 0, 0)
theorem Zbu (a : Dome × Int × Int) : dDNN (eDNN a) = a := by simp [dDNN, eDNN, Qdh]
noncomputable def GT : Gam := GS
theorem okT : GOk Try.prog GT := by
 exact okS
section
variable (b : List Bolt) (g : List Int) (l : Int) (r : List Span) (w : List Int) (s n m : Int)
end
end Go.C02
set_option linter.unusedSimpArgs false
set_option linter.unusedVariables false
namespace Go.C02
open Go.Fam Go.Proofs
def okCan (b : Bolt) (s : Int) : Prop := Qak s b.stretch.low b.stretch.high = true → ok66 b.strips s
theorem gT54 (n lo hi : Int) : GT 88 [.i n, .i lo, .i hi] = (True, .b (Qak n lo hi)) := gJ54 n lo hi
theorem gT66 (a b : Int) (l : List Strip) (w s : Int) : GT 93 [.ag [.i a, .i b, .sl 3 (l.map eStrip), .i w], .i s] = (ok66 l s, .i (Qdl l s)) := gJ66 a b l w s
theorem P49w (b : Bolt) (s : Int) (h : okCan b s) : Qab Try.prog 69 [.ag (eBolt b), .i s] (.b (can b s)) := by
 refine Qac okT hmix Try.func69 cb69 cc69 cs69 cn69 ?_
 unfold okCan at h
 simp only [rc69, rs69, gT54, gT66, Qa7, Qbf, Qa8, Qai, Qa4, Qba, Qae, Qa5, Qa2, Fam.step, Qaf, Qbz, Qbq, ug, runX, eff, Qb9, fpR, fpQ, fpV, Qbp, hits, evO, opv, qv, Qb2, binV, ldV, Qaw, V.cells, Qas, Qaa, Qa6, flat, Qa3, Qa0, Qa1, ↓reduceIte, Nat.reduceEqDiff, Nat.reduceAdd, Nat.reduceLT, Nat.reduceLeDiff, Qb, Qe, Qy, Q0, Qc, Qd, Ql, Qn, Qg, Qs, Qj, Qh, Qk, Qm, Q4, Zn, Q2, Zi, endQ, rvs, rv1, resV, vw_i, vw_b, Qay, Qaz, zipA, Qi, V.b.injEq, Qx, Zg, Zm, Qu, Zk, Zj, Qa, true_and, and_true, and_self, implies_true, reduceCtorEq, Zv, Zl, beq_true, Qff, Xs, imp_self, Qp, eBolt]
 exact ⟨fun hw => ⟨hw, h hw⟩, rfl⟩
def r49w : List V → Prop × V := fnG eBI dBI (fun a => okCan a.1 a.2) (fun a => can a.1 a.2) .b
noncomputable def GU1 : Gam := GT.ext 69 r49w
theorem okU1 : GOk Try.prog GU1 := by
 have k1 := okT.ext (f := 69) (r := r49w) (fun a w => Try.call69 a w) (Qau fun a h => P49w a.1 a.2 h)
 exact k1
theorem gU49 (a b : Int) (l : List Strip) (w s : Int) : GU1 69 [.ag [.i a, .i b, .sl 3 (l.map eStrip), .i w], .i s] = (okCan ⟨⟨a, b⟩, l, w⟩ s, .b (can ⟨⟨a, b⟩, l, w⟩ s)) :=
 (show GU1 69 _ = r49w (eBI (⟨⟨a, b⟩, l, w⟩, s)) from rfl).trans (Qb1 _ (Qv5 _))
def Qld (d : Dome) (l : List Int) : Bool := decide (l.length = d.bolts.length) && (Zq l.length).all fun i => can (Qdo d (i : Nat)) (l[i]?.getD 0)
theorem ValidB.okCan {b : Bolt} (h : ValidB b) (s : Int) : okCan b s := by
 intro hw
 simp only [Qak, Zo, decide_eq_true_eq] at hw
 have := h.st
 exact h.ok66 (by omega)
theorem P35 (d : Dome) (l : List Int) (hv : Valid d) : Qab Try.prog 37 [.ag (Qal d), .sl 1 (l.map eI)] (.b (Qld d l)) := by
 refine Qac okU1 hmix Try.func37 cb37 cc37 cs37 cn37 ?_
 have hnb := hv.nb
 simp only [rc37, rs37, Qag, Qa7, Qa8, Qad, Qbe, Qa9, Qai, Qa4, Qae, Qa5, Qa2, Fam.step, Qaf, evO, opv, qv, binV, ldV, lenV, V.cells, Qas, Qaa, Qa6, Qa3, Qa0, Qa1, ↓reduceIte, Nat.reduceEqDiff, Nat.reduceAdd, Nat.reduceLeDiff, Qb, Qe, Qc, Qd, Qn, Qj, endQ, rvs, rv1, resV, vw_i, vw_b, Qay, Qaz, zipA, Qi, V.b.injEq, Qu, Qa, decide_eq_false_iff_not, true_and, and_self, reduceCtorEq, Ze, Qq, Classical.not_not, Qal]
 refine ⟨fun h => ?_, fun h => ?_⟩
 ·have : ¬ l.length = d.bolts.length := by omega
  simp [Qld, this]
 have hl : l.length = d.bolts.length := by omega
 refine Qb8 l.length (fun i => ⟨lkp [(1, .sl 1 (l.map eI)), (2, .pa (Qal d)), (5, .i i)], []⟩) (fun i => (Zq i).all (fun i => can (Qdo d (i : Nat)) (l[i]?.getD 0)) = true) ?_ ?_ ?_ ?_
 ·simp only [Q7, kp, Qa0, Qa1, ↓reduceIte, Nat.reduceEqDiff, Qb, Qe, Qal]
 ·rfl
 ·intro i hi hC
  obtain ⟨x, hx⟩ : ∃ x, l[i]? = some x := ⟨_, Qr hi⟩
  obtain ⟨b, hb⟩ : ∃ b, d.bolts[i]? = some b := ⟨_, Qr (by omega)⟩
  have hba : Qdo d (i : Nat) = b := by simp [Qdo, hb]
  have hlt : (i : Int) < l.length := by omega
  have hlt2 : (i : Int) < d.bolts.length := by omega
  have h3 : inI ((i : Int) + 1) := by unfold inI; omega
  have hoc := (hv.bolts b (Q5 hb)).okCan x
  simp only [hx, hb, hlt, hlt2, h3, gU49, hoc, Q8, Zb, Qag, Qa7, Qbf, Qa8, Qad, Qbe, Qa9, Qai, Qa4, Qba, Qae, Qaj, Qa5, Qa2, Fam.step, Qaf, runX, eff, Qb9, fpR, fpQ, fpV, Qbp, hits, evO, opv, qv, binV, ldV, iadV, lenV, Qaw, Qaa, Qa6, flat, kp, Qa3, Qa0, Qa1, ↓reduceIte, Nat.reduceEqDiff, Nat.reduceAdd, Nat.reduceLT, Nat.reduceLeDiff, Qb, Qe, Q0, Qc, Qd, Qn, Qg, Qs, Qj, Qh, Qk, Qm, Q4, Qt, Zn, Q2, Zi, endQ, rvs, rv1, resV, vw_i, vw_b, Qay, Qaz, Q9, Qi, V.b.injEq, Qx, Zg, Zm, Qu, Zk, Zj, Qa, decide_true, true_and, and_true, and_self, implies_true, Q6, Zv, Zl, Ze, Qq, Zd, Qp, Q1, Xx, Qi9, Qnp, eBolt, Qal, eI]
  refine ⟨fun hc => ?_, fun hc => ?_⟩
  ·have e : (Zq l.length).all (fun i => can (Qdo d (i : Nat)) (l[i]?.getD 0)) = false := Qeo hi (by rw [hba, hx]; exact hc)
   simp [Qld, e]
  ·exact Qfb hC (by rw [hba, hx]; exact hc)
 ·intro hC
  simp only [Qa7, Qa8, Qad, Qam, Qai, Qa4, Qae, Qaj, Qa5, Qa2, Fam.step, Qaf, evO, opv, qv, binV, lenV, Qa3, Qa0, Qa1, ↓reduceIte, Nat.reduceEqDiff, Qb, Qe, endQ, rvs, rv1, resV, vw_b, Zr, V.b.injEq, Qa, decide_false, true_and, and_self, Qq, Qal]
  simp [Qld, hl]
  simpa [hl] using hC
end Go.C02
set_option linter.unusedSimpArgs false
set_option linter.unusedVariables false
namespace Go.C02
open Go.Fam Go.Proofs
def eDL (a : Dome × List Int) : List V := [.ag (Qal a.1), .sl 1 (a.2.map eI)]
def dDL : List V → Dome × List Int | [.ag cs, .sl _ l] => (Qjh cs, l.map dI) | _ => (D0, [])
theorem Zbt (a : Dome × List Int) : dDL (eDL a) = a := by simp [dDL, eDL, Qdh, Function.comp_def, Qfc]
def r35 : List V → Prop × V := fnG eDL dDL (fun a => Valid a.1) (fun a => Qld a.1 a.2) .b
noncomputable def GU : Gam := GU1.ext 37 r35
theorem okU : GOk Try.prog GU := okU1.ext (f := 37) (r := r35) (fun a w => Try.call37 a w) (Qau fun a h => P35 a.1 a.2 h)
section
variable (b : List Bolt) (g : List Int) (l : Int) (r : List Span) (w : List Int) (s n m : Int) (x : List Int)
end
end Go.C02
set_option linter.unusedSimpArgs false
set_option linter.unusedVariables false
namespace Go.C02
open Go.Fam Go.Proofs
def bigN : Int := 1073741824
def Zcf (f : Int → Int) : List Int → Int → Int
 | [], m => m
 | o :: l, m => Zcf f l (min m (f o))
def entry (d : Dome) (r : Nat) (old : List Int) (w : Int) : Int :=
 if Qak w (Qiu d r) (Qip d r) then (if r = 0 then w else Zcf (fun o => (old[o.toNat]?.getD 0) + w) (ints (max 0 (w - d.slope)) (min 2000 (w + d.slope))) bigN) else bigN
structure Feas (d : Dome) (k : Nat) (c : Nat → Int) : Prop where
 bd : ∀ r : Nat, r < k → Qiu d r ≤ c r ∧ c r ≤ Qip d r
 sl : ∀ r : Nat, r + 1 < k → -d.slope ≤ c (r + 1) - c r ∧ c (r + 1) - c r ≤ d.slope
theorem Feas.range {d : Dome} (hl : 0 ≤ d.loss) {k : Nat} {c : Nat → Int} (h : Feas d k c) {r : Nat} (hr : r < k) : 0 ≤ c r ∧ c r ≤ 2000 := by
 have := h.bd r hr
 have := Qg3 d r hl
 have := Qq2 d r hl
 omega
def away (d : Dome) (r j : Nat) : Int := Qiu d j - d.slope * max ((r : Int) - j) ((j : Int) - r)
theorem Qwq {d : Dome} {r : Nat} {x : Int} : ∀ k : Nat, Qei d r k ≤ x ↔ Qiu d r ≤ x ∧ ∀ j, j < k → away d r j ≤ x
 | 0 => by simp [Qei]
 | k + 1 => by
  rw [Qi6]
  have ih := Qwq (d := d) (r := r) (x := x) k
  have : max (Qei d r k) (Qiu d k - d.slope * max ((r : Int) - k) ((k : Int) - r)) ≤ x ↔ Qei d r k ≤ x ∧ away d r k ≤ x := by unfold away; omega
  rw [this, ih]
  constructor
  ·rintro ⟨⟨h1, h2⟩, h3⟩
   refine ⟨h1, fun j hj => ?_⟩
   by_cases h : j < k
   ·exact h2 j h
   ·have : j = k := by omega
    exact this ▸ h3
  ·rintro ⟨h1, h2⟩
   exact ⟨⟨h1, fun j hj => h2 j (by omega)⟩, h2 k (by omega)⟩
theorem Feas.far {d : Dome} (hs : 0 ≤ d.slope) {n : Nat} {c : Nat → Int} (h : Feas d n c) : ∀ (m r : Nat), r + m < n → c (r + m) - c r ≤ d.slope * m ∧ c r - c (r + m) ≤ d.slope * m
 | 0, r, _ => by simp
 | m + 1, r, hr => by
  have h1 := h.far hs m r (by omega)
  have h2 := h.sl (r + m) (by omega)
  rw [Q8, Int.mul_add]
  rw [show r + (m + 1) = r + m + 1 by omega]
  omega
theorem Feas.need {d : Dome} (hs : 0 ≤ d.slope) {n : Nat} {c : Nat → Int} (h : Feas d n c) {r : Nat} (hr : r < n) : Qei d r n ≤ c r := by
 rw [Qwq]
 refine ⟨(h.bd r hr).1, fun j hj => ?_⟩
 have h1 := (h.bd j hj).1
 unfold away
 by_cases hjr : j ≤ r
 ·have h2 := (h.far hs (r - j) j (by omega)).2
  rw [show j + (r - j) = r by omega] at h2
  rw [show max ((r : Int) - j) ((j : Int) - r) = ((r - j : Nat) : Int) by omega]
  omega
 ·have h2 := (h.far hs (j - r) r (by omega)).1
  rw [show r + (j - r) = j by omega] at h2
  rw [show max ((r : Int) - j) ((j : Int) - r) = ((j - r : Nat) : Int) by omega]
  omega
theorem Feas.fits {d : Dome} (hs : 0 ≤ d.slope) {n : Nat} {c : Nat → Int} (h : Feas d n c) : Ql6 d n n = true := by
 simp only [Ql6, Xl, Z1, decide_eq_true_eq]
 intro r hr
 exact Int.le_trans (h.need hs hr) (h.bd r hr).2
end Go.C02
set_option linter.unusedSimpArgs false
set_option linter.unusedVariables false
namespace Go.C02
open Go.Fam Go.Proofs
def tr : List (List Int) → List Int → List (List Int)
 | [], f => [f]
 | c :: cs, f => c.flatMap fun x => tr cs (f ++ [x])
def Qbn (d : Dome) (f : List Int) : List (List Int) := tr ((Qbj d).drop f.length) f
theorem Qzp : ∀ (cs : List (List Int)) (f : List Int), (∀ c ∈ cs, c.length ≤ 61) → (tr cs f).length ≤ 61 ^ cs.length
 | [], _, _ => by simp [tr]
 | c :: cs, f, h => by
  simp only [tr, List.length_flatMap, Qc, Nat.pow_succ]
  have h1 := h c (by simp)
  have : ∀ l : List Int, (l.map fun x => (tr cs (f ++ [x])).length).sum ≤ l.length * 61 ^ cs.length := by
   intro l
   induction l with
   | nil => simp
   | cons x l ih =>
    have := Qzp cs (f ++ [x]) fun c hc => h c (by simp [hc])
    simp only [Qb, Xn, Qc, Xc]
    omega
  have := this c
  have := X4 (61 ^ cs.length) h1
  rw [Nat.mul_comm (61 ^ cs.length)]
  omega
theorem Qxy {d : Dome} (hv : Valid d) : ∀ c ∈ Qbj d, c.length ≤ 61 := by
 intro c hc
 obtain ⟨b, hb, rfl⟩ := Xd.1 hc
 exact Qcf (hv.bolts b hb)
theorem Qnj {d : Dome} (hv : Valid d) (f : List Int) : (Qbn d f).length ≤ 20000000 := by
 have h1 := Qzp ((Qbj d).drop f.length) f fun c hc => Qxy hv c (List.mem_of_mem_drop hc)
 have h2 : ((Qbj d).drop f.length).length ≤ 4 := by
  have := hv.nb
  simp only [List.length_drop, Qbj, Qq]
  omega
 have h3 : 61 ^ ((Qbj d).drop f.length).length ≤ 61 ^ 4 := Xb (by decide) h2
 unfold Qbn
 have : 61 ^ 4 ≤ 20000000 := by decide
 omega
def eTr (l : List (List Int)) : V := .sl 1 (l.map eCan)
theorem Qab.toOwn {P : Program} {f : Nat} {vs : List V} {r : V} (h : Qab P f vs r) : Qdf P f vs r [] := fun S w cargs hS hsz hr =>
 (h S w cargs hS hsz hr).mono fun e w' ⟨c, he, hev, hrep⟩ => ⟨c, Sfr S w w', noO, he, hev,
  ⟨fun n hn => hn.elim (fun hn => Nat.lt_of_lt_of_le (hS n hn) hev.size) (fun hn => hn.2), fun _ _ _ h => (nomatch h), fun _ _ _ _ _ h _ => (nomatch h), fun _ _ _ h => (nomatch h)⟩, hrep⟩
def r65 : List V → Prop × V := fnG (fun b => [.ag (eBolt b)]) dB ValidB Qan eIs
noncomputable def GV : Gam := GU.ext 106 r65
theorem okV : GOk Try.prog GV := by
 have k1 := okU.ext (f := 106) (r := r65) (fun a w => Try.call106 a w) (Qau fun a h => P65 a h)
 exact k1
def ok55 (a : Dome × List Int) : Prop := Valid a.1 ∧ a.2.length ≤ a.1.bolts.length
def r55o (k : Nat) : List V → Prop × V := fnG eDL dDL (fun a => ok55 a ∧ a.1.bolts.length - a.2.length ≤ k) (fun a => a) (fun a => .tp [eTr (Qbn a.1 a.2), .tp []])
noncomputable def G55 (k : Nat) : Gam := GV.ext 1000119 (r55o k)
theorem Qpp {α : Type} {l : List α} {i : Nat} {x : α} (h : l[i]? = some x) : l.drop i = x :: l.drop (i + 1) := by
 obtain ⟨hi, rfl⟩ := List.getElem?_eq_some_iff.1 h
 exact Xe hi
theorem Qmb {d : Dome} {f : List Int} (h : f.length = d.bolts.length) : Qbn d f = [f] := by
 unfold Qbn
 rw [List.drop_eq_nil_of_le (by simp [Qbj, h])]
 rfl
def trTo (d : Dome) (f : List Int) (c : List Int) (i : Nat) : List (List Int) := (c.take i).flatMap fun x => Qbn d (f ++ [x])
theorem Qs4 {d : Dome} {f : List Int} {b : Bolt} (h : d.bolts[f.length]? = some b) : Qbn d f = trTo d f (Qan b) (Qan b).length := by
 have h1 : (Qbj d)[f.length]? = some (Qan b) := by simp [Qbj, h]
 unfold Qbn
 rw [Qpp h1]
 simp only [tr, trTo, Zt, Qbn, Zf, Qc, Qd, Qi]
theorem Qxm {d : Dome} {f c : List Int} {i : Nat} {x : Int} (h : c[i]? = some x) : trTo d f c (i + 1) = trTo d f c i ++ Qbn d (f ++ [x]) := by
 simp [trTo, Qar h]
theorem Qhs {α β : Type} (g : α → List β) {M : Nat} : ∀ (l : List α), (∀ x ∈ l, (g x).length ≤ M) → (l.flatMap g).length ≤ l.length * M
 | [], _ => by simp
 | x :: l, h => by
  have := Qhs g l fun y hy => h y (by simp [hy])
  have := h x (by simp)
  simp only [Xj, Zf, Qc, Xc]
  omega
theorem gU65 (a b : Int) (l : List Strip) (w : Int) (k : Nat) : G55 k 106 [.ag [.i a, .i b, .sl 3 (l.map eStrip), .i w]] = (ValidB ⟨⟨a, b⟩, l, w⟩, eIs (Qan ⟨⟨a, b⟩, l, w⟩)) :=
 (show G55 k 106 _ = r65 [.ag (eBolt ⟨⟨a, b⟩, l, w⟩)] from rfl).trans (Qb1 (e := fun b => [.ag (eBolt b)]) _ (by simp [dB, Qeq]))
theorem g55 (k : Nat) (b : List Bolt) (g : List Int) (l : Int) (r : List Span) (w : List Int) (s : Int) (x : List Int) : G55 k 1000119 [.ag [.sl 4 (b.map eBolt), .sl 1 (g.map eI), .i l, .sl 2 (r.map eSpan), .sl 1 (w.map eI), .i s], .sl 1 (x.map eI)] =
  (ok55 (⟨b, g, l, r, w, s⟩, x) ∧ b.length - x.length ≤ k, .tp [eTr (Qbn ⟨b, g, l, r, w, s⟩ x), .tp []]) :=
 (show G55 k 1000119 _ = r55o k (eDL (⟨b, g, l, r, w, s⟩, x)) from rfl).trans (Qb1 _ (Zbt _))
theorem Qyn {α : Type} (e : α → List V) (a b : List α) : ((a ++ b).map e).flatten = (a.map e).flatten ++ (b.map e).flatten := by simp
theorem Qxz (f : List Int) (x : Int) : Qd8 1 ((f.map eI).flatten ++ [.i x]) 0 (f.length + 1) = (f ++ [x]).map eI := by
 have := Qdp (f ++ [x])
 simpa [Qgq, eI] using this
set_option maxHeartbeats 2000000 in
theorem P55 : ∀ (k : Nat) (d : Dome) (f : List Int), ok55 (d, f) → d.bolts.length - f.length ≤ k → Qab Try.prog 119 (eDL (d, f)) (eTr (Qbn d f)) := by
 intro k
 induction k with
 | zero =>
  intro d f h hk
  obtain ⟨hv, hf⟩ := h
  have hl : f.length = d.bolts.length := by simp only at hf; omega
  refine Qac okV hmix Try.func119 cb119 cc119 cs119 cn119 ?_
  simp only [rc119, rs119, eDL, eTr, Qmb hl, hl, Qa7, Qa8, Qad, Qai, Qa4, Qcv, Qae, Qa5, Qa2, Fam.step, Qaf, evO, opv, qv, binV, ldV, lenV, Qap, putAt, Qb7, Qb6, V.cells, Qas, Qb3, Qaa, Qa6, Qa3, Qa0, Qa1, ↓reduceIte, Nat.reduceEqDiff, Nat.reduceAdd, Nat.reduceMul, Nat.reduceLeDiff, Qb, Qe, Qy, Q0, Qc, Qd, Qn, Qg, Qw, Qj, Qh, Qk, Q2, Za, endQ, rvs, rv1, resV, vw_i, Qay, Qaz, zipA, Qi, Qx, Qu, Qa, decide_true, and_self, reduceCtorEq, not_false_eq_true, ne_eq, Qq, Qal, eCan]
 | succ k ih =>
  intro d f h hk
  have hok : GOk Try.prog (G55 k) := okV.extO (f := 119) (r := r55o k) (fun a w => Try.call119 a w) (Qsw (hp := fun _ => []) (fun _ => rfl) fun a h => Qab.toOwn (ih a.1 a.2 h.1 h.2))
  obtain ⟨hv, hf⟩ := h
  have hv : Valid d := hv
  have hf : f.length ≤ d.bolts.length := hf
  refine Qac hok hmix Try.func119 cb119 cc119 cs119 cn119 ?_
  by_cases hl : f.length = d.bolts.length
  ·simp only [rc119, rs119, eDL, eTr, Qmb hl, hl, Qa7, Qa8, Qad, Qai, Qa4, Qcv, Qae, Qa5, Qa2, Fam.step, Qaf, evO, opv, qv, binV, ldV, lenV, Qap, putAt, Qb7, Qb6, V.cells, Qas, Qb3, Qaa, Qa6, Qa3, Qa0, Qa1, ↓reduceIte, Nat.reduceEqDiff, Nat.reduceAdd, Nat.reduceMul, Nat.reduceLeDiff, Qb, Qe, Qy, Q0, Qc, Qd, Qn, Qg, Qw, Qj, Qh, Qk, Q2, Za, endQ, rvs, rv1, resV, vw_i, Qay, Qaz, zipA, Qi, Qx, Qu, Qa, decide_true, and_self, reduceCtorEq, not_false_eq_true, ne_eq, Qq, Qal, eCan]
  have hnb := hv.nb
  obtain ⟨b, hb⟩ : ∃ b, d.bolts[f.length]? = some b := ⟨_, Qr (by omega)⟩
  have hvb := hv.bolts b (Q5 hb)
  have hnl := Qcf hvb
  have hli : ¬ (f.length : Int) = d.bolts.length := by omega
  have hlt : (f.length : Int) < d.bolts.length := by omega
  simp only [rc119, rs119, eDL, eTr, hli, hlt, hb, gU65, hvb, eIs, Qag, Qa7, Qa8, Qad, Qa9, Qa4, Qgh, Qae, Qa5, Qa2, Fam.step, Qaf, evO, opv, qv, binV, ldV, iadV, lenV, Qaw, V.cells, Qas, Qaa, Qa6, flat, Qa3, Qa0, Qa1, ↓reduceIte, Nat.reduceEqDiff, Nat.reduceAdd, Nat.reduceLT, Nat.reduceLeDiff, Qb, Qe, Qc, Qd, Qn, Qg, Qs, Qj, Qk, Qm, Qt, vw_i, Qay, Qaz, zipA, Q9, Qi, Qu, Qa, decide_false, true_and, and_self, reduceCtorEq, Q6, imp_self, Qq, Zd, Qp, Q1, Qi9, Qnp, eBolt, Qal, eIs]
  refine Qbg (Qan b).length (fun i => ⟨lkp [(1, .sl 1 (f.map eI)), (2, .pa (Qal d)), (5, .rf 0 i 0 (trTo d f (Qan b) i).length 1), (6, .sl 1 ((Qan b).map eI)), (7, .i i)],
   [.cells i ((trTo d f (Qan b) i).map eCan).flatten]⟩) ?_ ?_ ?_
  ·simp only [Q7, trTo, List.flatMap_nil, Q3, cutH, kp, cutV, cutL, cutB, Qa0, Qa1, ↓reduceIte, Nat.reduceEqDiff, Nat.reduceLT, Qb, Qe, Qd, Qg, Qw, Qs, Qal]
  ·intro i hi
   obtain ⟨x, hx⟩ : ∃ x, (Qan b)[i]? = some x := ⟨_, Qr hi⟩
   have hlt2 : (i : Int) < (Qan b).length := by omega
   have h3 : inI ((i : Int) + 1) := by unfold inI; omega
   have h55 : ok55 (d, f ++ [x]) ∧ d.bolts.length - (f ++ [x]).length ≤ k := by
    refine ⟨⟨hv, ?_⟩, ?_⟩ <;> simp only [Zf, Qc, Qd] <;> omega
   have f1 : Qbd (0 + f.length) := by unfold Qbd; omega
   have f2 : Qbd (f.length + 1) := by unfold Qbd; omega
   have f3 : Qbd ((trTo d f (Qan b) i).length + (Qbn d (f ++ [x])).length) := by
    have a1 : (trTo d f (Qan b) i).length ≤ ((Qan b).take i).length * 20000000 := Qhs (fun x => Qbn d (f ++ [x])) ((Qan b).take i) fun y _ => Qnj hv (f ++ [y])
    have a2 : ((Qan b).take i).length ≤ 61 := Z6 (Zy _ _) (by omega)
    have a3 := Qnj hv (f ++ [x])
    have a4 := X4 20000000 a2
    unfold Qbd
    omega
   simp only [hlt2, hx, h3, g55, h55, Qxm hx, f2, f3, Qet, Qo9, Qxz, eTr, Q8, Zb, Zw, Zf, Qyn, Qdu, Qdb, Q3, Zc, Zp, vw_I, Qcp, Qah _ _ _ (Qfh _), Qag, Qa7, Qbf, Qa8, Qad, Qa9, Qa4, Qc5, Qcv, ↓Qbl, effO, Qle, Qba, optL, rids, Qem, Qjk, Qkd, Qf2, cutH, Qae, Qaj, Qa5, Qa2, Fam.step, Qaf, Qb4, runX, eff, Qb9, fpR, fpQ, fpV, Qbp, hits, nv, sv, Qce, evO, opv, qv, binV, ldV, iadV, lenV, Qap, putAt, Qb7, Qb6, V.cells, Qas, Qb3, Qaa, Qa6, kp, cutV, cutL, cutB, Qa3, Qa0, Qa1, ↓reduceIte, Nat.reduceEqDiff, Nat.reduceAdd, Nat.reduceLT, Qb, Qe, Qy, Q0, Qc, Qd, Ql, Zh, Qg, Qw, Qs, Qj, Qh, Qk, Qm, Qf, Qo, Q4, Qt, Zn, Qv, Qz, Q2, Za, Zi, Zx, vw_i, Qay, Qaz, Qdw, Q9, Qi, Zs, Qx, Zg, Xg, Zm, Z4, Qu, Z8, Bool.or_true, Zk, Zj, Qa, decide_true, true_and, and_true, and_self, reduceCtorEq, not_false_eq_true, ne_eq, Q6, Z9, Zv, Zu, Zl, X8, Qq, Zd, Qp, Q1, Qfd, Qal, eI]
   exact ⟨by unfold Qbd; omega, by omega⟩
  ·have hgt : ¬ (((Qan b).length : Int) < (Qan b).length) := by omega
   simp only [hgt, Qo9, Zw, Zp, Qky, vw_C, Qs4 hb, Qa7, Qa8, Qad, Qam, Qai, Qa4, Qae, Qaj, Qa5, Qa2, Fam.step, Qaf, evO, opv, qv, binV, lenV, Qa3, Qa0, Qa1, ↓reduceIte, Nat.reduceEqDiff, Qb, Qe, Qf, endQ, rvs, rv1, resV, Qdw, Qi, Qa, decide_false, and_self, Qq, Qal]
end Go.C02
set_option linter.unusedSimpArgs false
set_option linter.unusedVariables false
namespace Go.C02
open Go.Fam Go.Proofs
theorem Qkr : ∀ (cs : List (List Int)) (f : List Int), (tr cs f).isEmpty = cs.any Zz
 | [], _ => rfl
 | c :: cs, f => by
  simp only [tr, Z9]
  cases c with
  | nil => rfl
  | cons x c =>
   simp only [Zx, Z8]
   rw [← Qkr cs (f ++ [x])]
   cases h : tr cs (f ++ [x]) with
   | nil =>
    have h1 : cs.any Zz = true := by rw [← Qkr cs (f ++ [x]), h]; rfl
    have : ∀ y ∈ c, tr cs (f ++ [y]) = [] := fun y _ => by
     have := Qkr cs (f ++ [y])
     rw [h1] at this
     simpa using this
    simp only [Xj, h, Qk, Zi, List.isEmpty_iff, List.flatMap_eq_nil_iff]
    exact this
   | cons y l => simp [Xj, h]
theorem Qh4 (d : Dome) : (Qbn d []).isEmpty = (Qbj d).any Zz := Qkr _ _
theorem Good.truths {d : Dome} (h : Good d) : Qbn d [] ≠ [] := by
 have h1 := Qh4 d
 have h2 := h.pitch true
 intro he
 rw [he] at h1
 simp [Qbc, h.c, ← h1] at h2
def vT (d : Dome) (is : Bool) : List (List Int) := if Qbc d is = 0 then Qbn d [] else []
end Go.C02
set_option linter.unusedSimpArgs false
set_option linter.unusedVariables false
namespace Go.C02
open Go.Fam Go.Proofs
def r55 : List V → Prop × V := fnG eDL dDL ok55 (fun a => Qbn a.1 a.2) eTr
noncomputable def GW : Gam := GV.ext 119 r55
theorem okW : GOk Try.prog GW := okV.ext (f := 119) (r := r55) (fun a w => Try.call119 a w) (Qau fun a h => P55 _ a.1 a.2 h (Zp _))
section
variable (b : List Bolt) (g : List Int) (l : Int) (r : List Span) (w : List Int) (s n m : Int) (x : List Int)
theorem gW55 : GW 119 [.ag [.sl 4 (b.map eBolt), .sl 1 (g.map eI), .i l, .sl 2 (r.map eSpan), .sl 1 (w.map eI), .i s], .sl 1 (x.map eI)] = (ok55 (⟨b, g, l, r, w, s⟩, x), eTr (Qbn ⟨b, g, l, r, w, s⟩ x)) :=
 (show GW 119 _ = r55 (eDL (⟨b, g, l, r, w, s⟩, x)) from rfl).trans (Qb1 _ (Zbt _))
theorem Zc9 : GW 119 [.ag [.sl 4 (b.map eBolt), .sl 1 (g.map eI), .i l, .sl 2 (r.map eSpan), .sl 1 (w.map eI), .i s], .sl 1 []] = (ok55 (⟨b, g, l, r, w, s⟩, []), eTr (Qbn ⟨b, g, l, r, w, s⟩ [])) := gW55 b g l r w s []
theorem gW39 : GW 58 [.ag [.sl 4 (b.map eBolt), .sl 1 (g.map eI), .i l, .sl 2 (r.map eSpan), .sl 1 (w.map eI), .i s]] = (True, .i (Qcl ⟨b, g, l, r, w, s⟩)) := gR39 b g l r w s
theorem gW54 : GW 88 [.i n, .i m, .i l] = (True, .b (Qak n m l)) := rfl
theorem gW65 (a c : Int) (q : List Strip) : GW 106 [.ag [.i a, .i c, .sl 3 (q.map eStrip), .i n]] = (ValidB ⟨⟨a, c⟩, q, n⟩, eIs (Qan ⟨⟨a, c⟩, q, n⟩)) :=
 (show GW 106 _ = r65 [.ag (eBolt ⟨⟨a, c⟩, q, n⟩)] from rfl).trans (Qb1 (e := fun b => [.ag (eBolt b)]) _ (by simp [dB, Qeq]))
end
theorem P51 (d : Dome) (bolt row : Int) : Qab Try.prog 105 [.ag (Qal d), .i bolt, .i row] (.tp [eTr (vT d (Qbx d bolt && Qee d row)), .i (Qbc d (Qbx d bolt && Qee d row))]) := by
 refine Qac okW hmix Try.func105 cb105 cc105 cs105 cn105 ?_
 by_cases hc : Qcl d = 0
 ·have hv := Qg9 hc
  have hnb := hv.nb
  have hnr := hv.nr
  have i1 : inI ((d.bolts.length : Int) - 1) := by unfold inI; omega
  have i2 : inI ((d.rounds.length : Int) - 1) := by unfold inI; omega
  have o55 : ok55 (d, []) := ⟨hv, Nat.zero_le _⟩
  have e1 : Qak bolt 0 ((d.bolts.length : Int) - 1) = Qbx d bolt := rfl
  have e2 : Qak row 0 ((d.rounds.length : Int) - 1) = Qee d row := rfl
  by_cases hb : Qbx d bolt = true
  ·by_cases hr : Qee d row = true
   ·have hvt : vT d true = Qbn d [] := by
     unfold vT
     split
     ·rfl
     ·rename_i hp
      have := Qh4 d
      have h2 : (Qbj d).any Zz = true := by
       by_cases h : (Qbj d).any Zz = true
       ·exact h
       ·exfalso; apply hp; simp [Qbc, hc, h]
      rw [h2] at this
      simpa using this.symm
    have hpe : Qbc d true = if (Qbn d []).length = 0 then 3 else 0 := by
     have := Qh4 d
     unfold Qbc
     rw [if_neg (by simp [hc]), if_pos rfl, ← this]
     simp
    by_cases hl : (Qbn d []).length = 0
    ·have hn : Qbn d [] = [] := List.eq_nil_of_length_eq_zero hl
     simp only [rc105, rs105, gW39, gW54, Zc9, hc, i1, i2, e1, e2, hb, hr, o55, hvt, hpe, hn, eTr, Q7, Qag, Qa7, Qa8, Qad, Qai, Qa4, Qae, Qa5, Qa2, Fam.step, Qaf, Qbz, Qbq, ug, evO, opv, qv, Qb2, binV, ldV, lenV, Qaw, V.cells, Qas, Qaa, Qa6, flat, Qa3, Qa0, Qa1, ↓reduceIte, Nat.reduceEqDiff, Nat.reduceAdd, Nat.reduceLT, Nat.reduceLeDiff, Qb, Qe, Qy, Q0, Qc, Qd, Ql, Qn, Qg, Qs, Qj, Qm, Q4, endQ, rvs, rv1, resV, vw_i, vw_z, Qay, Qaz, Qcg, zipA, beq_self_eq_true, Qi, Qx, Qu, Zk, Qa, decide_true, and_self, forall_const, implies_true, reduceCtorEq, imp_self, Qq, Qfd, Qal]
    ·have hli : ¬ ((Qbn d []).length : Int) = 0 := by omega
     simp only [rc105, rs105, gW39, gW54, Zc9, hc, i1, i2, e1, e2, hb, hr, o55, hvt, hpe, hl, hli, eTr, Qag, Qa7, Qa8, Qad, Qai, Qa4, Qae, Qa5, Qa2, Fam.step, Qaf, Qbz, Qbq, ug, evO, opv, qv, Qb2, binV, ldV, lenV, Qaw, V.cells, Qas, Qaa, Qa6, flat, Qa3, Qa0, Qa1, ↓reduceIte, Nat.reduceEqDiff, Nat.reduceAdd, Nat.reduceLT, Nat.reduceLeDiff, Qb, Qe, Qy, Q0, Qc, Qd, Ql, Qn, Qg, Qs, Qj, Qm, Q4, endQ, rvs, rv1, resV, vw_i, vw_z, Qay, Qaz, Qcg, zipA, beq_self_eq_true, Qi, Qx, Qu, Zk, Qa, decide_true, decide_false, and_self, forall_const, implies_true, reduceCtorEq, imp_self, Qq, Qfd, Qal]
   ·have hr : Qee d row = false := by simpa using hr
    have hpe : Qbc d false = 1 := by simp [Qbc, hc]
    have hvt : vT d false = [] := by unfold vT; rw [hpe]; rfl
    simp only [rc105, rs105, gW39, gW54, hc, i1, i2, e1, e2, hb, hr, hpe, hvt, eTr, Qag, Qa7, Qa8, Qad, Qai, Qa4, Qae, Qa5, Qa2, Fam.step, Qaf, Qbz, Qbq, ug, evO, opv, qv, Qb2, binV, ldV, lenV, Qaw, V.cells, Qas, Qaa, Qa6, flat, Qa3, Qa0, Qa1, ↓reduceIte, Nat.reduceEqDiff, Nat.reduceAdd, Nat.reduceLT, Nat.reduceLeDiff, Qb, Qe, Qy, Q0, Qc, Qd, Ql, Qn, Qg, Qs, Qj, Qm, Q4, endQ, rvs, rv1, resV, vw_i, vw_z, Qay, Qaz, Qcg, zipA, beq_self_eq_true, Qi, Qx, Z4, Qu, Zk, Zj, Qa, decide_true, and_self, forall_const, implies_true, reduceCtorEq, Qq, Qfd, Qal]
  ·have hb : Qbx d bolt = false := by simpa using hb
   have hpe : Qbc d false = 1 := by simp [Qbc, hc]
   have hvt : vT d false = [] := by unfold vT; rw [hpe]; rfl
   simp only [rc105, rs105, gW39, gW54, hc, i1, i2, e1, e2, hb, hpe, hvt, eTr, Qag, Qa7, Qa8, Qad, Qai, Qa4, Qae, Qa5, Qa2, Fam.step, Qaf, Qbz, Qbq, ug, evO, opv, qv, Qb2, binV, ldV, lenV, Qaw, V.cells, Qas, Qaa, Qa6, flat, Qa3, Qa0, Qa1, ↓reduceIte, Nat.reduceEqDiff, Nat.reduceAdd, Nat.reduceLT, Nat.reduceLeDiff, Qb, Qe, Qy, Q0, Qc, Qd, Ql, Qn, Qg, Qs, Qj, Qm, Q4, endQ, rvs, rv1, resV, vw_i, vw_z, Qay, Qaz, Qcg, zipA, Qi, Qx, Zg, Zm, Qu, Zk, Zj, Qa, X6, decide_true, and_true, and_self, forall_const, implies_true, reduceCtorEq, beq_false, imp_self, Qq, Qfd, Qal]
 ·have hpe : ∀ is, Qbc d is = Qcl d := fun is => by simp [Qbc, hc]
  have hvt : ∀ is, vT d is = [] := fun is => by unfold vT; rw [hpe, if_neg hc]
  simp only [rc105, rs105, gW39, hc, hpe, hvt, eTr, Qa7, Qa8, Qad, Qai, Qa4, Qae, Qa5, Qa2, Fam.step, Qaf, evO, opv, qv, binV, ldV, Qaw, V.cells, Qas, Qaa, Qa6, flat, Qa3, Qa0, Qa1, ↓reduceIte, Nat.reduceEqDiff, Nat.reduceAdd, Nat.reduceLT, Nat.reduceLeDiff, Qb, Qe, Qc, Qd, Qg, Qs, Qm, Q4, endQ, rvs, rv1, resV, vw_i, vw_z, Qay, Qaz, Qcg, zipA, Qi, Qu, Zj, Qa, decide_false, and_self, implies_true, reduceCtorEq, Qfd, Qal]
def eKn (a : List (List Int) × Int) : V := .tp [eTr a.1, .i a.2]
def r51 : List V → Prop × V := fnG eDNN dDNN (fun _ => True) (fun a => (vT a.1 (Qbx a.1 a.2.1 && Qee a.1 a.2.2), Qbc a.1 (Qbx a.1 a.2.1 && Qee a.1 a.2.2))) eKn
noncomputable def GX : Gam := GW.ext 105 r51
theorem okX : GOk Try.prog GX := okW.ext (f := 105) (r := r51) (fun a w => Try.call105 a w) (Qau fun a h => P51 a.1 a.2.1 a.2.2)
theorem gX51 (b : List Bolt) (g : List Int) (l : Int) (r : List Span) (w : List Int) (s n m : Int) : GX 105 [.ag [.sl 4 (b.map eBolt), .sl 1 (g.map eI), .i l, .sl 2 (r.map eSpan), .sl 1 (w.map eI), .i s], .i n, .i m] =
  (True, eKn (vT ⟨b, g, l, r, w, s⟩ (Qbx ⟨b, g, l, r, w, s⟩ n && Qee ⟨b, g, l, r, w, s⟩ m), Qbc ⟨b, g, l, r, w, s⟩ (Qbx ⟨b, g, l, r, w, s⟩ n && Qee ⟨b, g, l, r, w, s⟩ m))) :=
 (show GX 105 _ = r51 (eDNN (⟨b, g, l, r, w, s⟩, n, m)) from rfl).trans (Qb1 _ (Zbu _))
theorem gX65 (a c n : Int) (q : List Strip) : GX 106 [.ag [.i a, .i c, .sl 3 (q.map eStrip), .i n]] = (ValidB ⟨⟨a, c⟩, q, n⟩, eIs (Qan ⟨⟨a, c⟩, q, n⟩)) := gW65 n a c q
theorem row0 {d : Dome} (hv : Valid d) : Qee d 0 = true := by
 have := hv.nr
 simp only [Qee, Qak, Zo, decide_eq_true_eq]; omega
theorem Qna (d : Dome) (is : Bool) : Qbc d (is && Qee d 0) = Qbc d is ∧ vT d (is && Qee d 0) = vT d is := by
 by_cases hc : Qcl d = 0
 ·rw [row0 (Qg9 hc)]; simp
 ·have : ∀ is, Qbc d is = Qcl d := fun is => by simp [Qbc, hc]
  unfold vT
  simp [this]
theorem P42 (d : Dome) (n : Int) (hb : d.bolts.length < 1000) : Qab Try.prog 86 [.ag (Qal d), .i n] (eLE (Qcc d n)) := by
 refine Qac okX hmix Try.func86 cb86 cc86 cs86 cn86 ?_
 simp only [rc86, rs86, gX51, eKn, eTr, (Qna d (Qbx d n)).1, (Qna d (Qbx d n)).2, eLE, Qcc, Qag, Qa7, Qa8, Qad, Qbe, Qai, Qa4, Qae, Qa5, Qa2, Fam.step, Qaf, evO, opv, qv, binV, ldV, iadV, Qaw, V.cells, Qas, Qaa, Qa6, flat, Qcy, Qa3, Qa0, Qa1, ↓reduceIte, Nat.reduceEqDiff, Nat.reduceAdd, Nat.reduceLT, Nat.reduceLeDiff, Qb, Qe, Qc, Qd, Qn, Qg, Qs, Qj, Qm, Qf, Qo, Q4, Qt, endQ, rvs, rv1, resV, vw_i, vw_z, Qay, Qaz, Qcg, zipA, Qi, Qx, Zg, Qu, Qa, decide_eq_false_iff_not, true_and, and_self, reduceCtorEq, Ze, imp_self, Qq, Qp, Q1, Classical.not_not, Qfd, Qal]
 refine ⟨fun h => ?_, fun h => ?_⟩
 ·simp [h]
 ·obtain ⟨hg, hr⟩ := Qe4 h
  obtain ⟨k1, k2⟩ := Qhp hr
  obtain ⟨b, hb⟩ : ∃ b, d.bolts[n.toNat]? = some b := ⟨_, Qr (by omega)⟩
  have hba : Qdo d n = b := by simp [Qdo, hb]
  have hvb := hg.v.bolts b (Q5 hb)
  have k3 : n < d.bolts.length := by omega
  simp only [k1, k3, hb, hba, h, gX65, hvb, eIs, Qaa, Qa6, flat, ↓reduceIte, Nat.reduceAdd, Nat.reduceLeDiff, Qb, Qe, Qc, Qd, Qg, Qs, Qt, vw_i, Qay, Qi, Qu, Qa, and_self, Q6, imp_self, Qi9, Qnp, eBolt, eIs]
end Go.C02
set_option linter.unusedSimpArgs false
set_option linter.unusedVariables false
namespace Go.C02
open Go.Fam Go.Proofs
noncomputable def GY : Gam := GX.ext 86 r36
theorem okY : GOk Try.prog GY := by
 have k1 := okX.ext (f := 86) (r := r36) (fun a w => Try.call86 a w) (Qau fun a h => P42 a.1 a.2 h)
 exact k1
section
variable (b : List Bolt) (g : List Int) (l : Int) (r : List Span) (w : List Int) (s n m : Int) (T : List (List Int))
end
noncomputable def GZ : Gam := GY
theorem okZ : GOk Try.prog GZ := okY
section
variable (b : List Bolt) (g : List Int) (l : Int) (r : List Span) (w : List Int) (s n m : Int) (T : List (List Int))
end
end Go.C02
