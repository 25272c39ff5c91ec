import Derived.Test.YtoeiaekighfifaaG3
import Derived.Test.YtoeiaekighfifaaChecked
import Derived.Test.YtoeiaekighfifaaG7
set_option linter.all false
open List renaming map_cons → Qb, map_nil → Qc, append_nil → Qd, length_map → Qe, all_cons → Qi, getElem?_cons_zero → Qk, getD_eq_getElem?_getD → Ql, length_nil → Qm, all_nil → Qo, length_cons → Qp, getElem?_eq_getElem → Qs, getElem?_map → Qv, headD_cons → Qy, getElem?_cons_succ → Q2, flatten_nil → Q3, flatten_append → Q5, mem_range → Q6, set_cons_zero → Q7, nil_append → Za, take_zero → Zb, getElem?_range → Zc, replicate_zero → Zd, length_append → Ze, getElem?_nil → Zf, drop_zero → Zg
open Nat renaming zero_add → Qn, le_refl → Q4, mul_one → Q9
open Bool renaming false_eq_true → Qa, or_false → Qf, true_eq_false → Qg, and_self → Qj, not_true → Qq, and_true → Qw, not_false → Qx, eq_false_iff → Q8
open Option renaming getD_some → Qh, map_some → Qz
open Int renaming natCast_zero → Qr, natCast_nonneg → Qt, toNat_natCast → Qu, natCast_add → Q0, natCast_one → Q1
set_option maxRecDepth 8000
namespace Go.C10
open Go.Fam Go.Proofs
def rc25 : RC := (.seq (.reg false [(cQ 4 [] (.mv (kB false)))]) (.keep [0,1] (.seq (.reg false [(cQ 5 [] (.mv (.k (.z 1))))]) (.keep [0,1,5] (.seq (.seq (.reg false [(cI 6 0)]) (.keep [0,1,5,6] (.block 0 (.own 5 1 (.loop [0,1,5,6] none (.seq (.seq (.reg false [(cMv 7 6), (cMv 8 0), (cLn 9 8), (cB 10 .lss 7 9)]) (.keep [0,1,5,6,10] (.cond (.t 10) .skip (.exit 0)))) (.keep [0,1,5,6] (.seq (.block 1 (.seq (.seq (.reg true [(cMv 13 0), (cMv 14 6), (cA 15 1 13 14), (cLd 16 15 false 1), (cMv 17 1), (cQ 18 [16,17] (.call (kF 53) [(.t 16), (.t 17)])), (cN 19 18), (cMv 20 19), (gMv 21 20 false 5), (gMv 22 20 false 0), (gMv 23 20 false 6), (gQ 24 20 false [22,23] (.iad 1 (.t 22) (.t 23))), (gQ 25 20 false [24] (.ld false 1 (.t 24))), (gQ 26 20 false [25] (.iad 1 (.t 25) (kI 0))), (gQ 27 20 false [26] (.ld false 1 (.t 26))), (gQ 28 20 false [21,27] (.call (kF 52) [(.t 21), (.t 27)])), (cQ 29 [20,28] (.pick (.t 20) (kB true) (.t 28))), (cMv 30 29), (gMv 31 30 false 5), (gMv 32 30 false 0), (gMv 33 30 false 6), (gQ 34 30 false [32,33] (.iad 1 (.t 32) (.t 33))), (gQ 35 30 false [34] (.ld false 1 (.t 34))), (gQ 36 30 false [35] (.iad 1 (.t 35) (kI 1))), (gQ 37 30 false [36] (.ld false 1 (.t 36))), (gQ 38 30 false [31,37] (.call (kF 52) [(.t 31), (.t 37)])), (cQ 39 [30,38] (.pick (.t 30) (kB true) (.t 38)))]) (.keep [0,1,5,6,39] (.cond (.t 39) (.seq (.reg false [(cQ 4 [] (.mv (kB false)))]) .ret) .skip))) (.keep [0,1,5,6] (.reg false [(cMv 40 5), (cMv 41 0), (cMv 42 6), (cA 43 1 41 42), (cLd 44 43 false 1), ⟨(some 45), none, [40,44], none, .w (.app 1 (.t 40) (.t 44))⟩, (cMv 5 45)])))) (.keep [0,1,5,6] (.reg false [(cMv 11 6), (cC 12 .add 11 1), (cMv 6 12)])))))))))) (.keep [] (.seq (.reg false [(cQ 4 [] (.mv (kB true)))]) .ret)))))))
def pu25 : List Nat := []
def rs25 : List RV := [.t 4]
theorem cc25 : CCx Try.prog Try.f25 pu25 rc25 := by unfold CCx; kernel_rfl
theorem cb25 : CBx Try.f25 := by unfold CBx; kernel_rfl
theorem cs25 : CSx Try.prog Try.f25 rs25 := by unfold CSx; kernel_rfl
theorem cn25 : 2 ≤ Try.f25.ntmps := by decide
def rc5 : RC := (.seq (.reg false [(cQ 2 [] (.mv (kB false)))]) (.keep [0] (.seq (.seq (.reg true [(cMv 8 0), (cLn 9 8), (cC 10 .gtr 9 20), (cMv 11 10), (gMv 12 11 false 0), (gQ 13 11 false [12] (.call (kF 18) [(.t 12)])), (gQ 14 11 false [13] (.not (.t 13))), (cQ 15 [11,14] (.pick (.t 11) (kB true) (.t 14)))]) (.keep [0,15] (.cond (.t 15) (.seq (.reg false [(cQ 16 [] (.call (kF 15) [])), (cMv 2 16)]) .ret) .skip))) (.keep [0] (.seq (.reg false [(cMv 18 0), (cQ 19 [18] (.call (kF 24) [(.t 18)])), (cMv 17 19), (cEx 20 17 0), (cEx 21 17 1), (cEx 22 17 2), (cMv 3 20), (cMv 4 21), (cMv 5 22)]) (.keep [0,3,4,5] (.seq (.seq (.reg true [(cMv 23 5), (cC 24 .neq 23 0), (cMv 25 24), (gMv 26 25 false 3), (gMv 27 25 false 0), (gQ 28 25 false [27] (.len (.t 27))), (gQ 29 25 false [26,28] (.call (kF 25) [(.t 26), (.t 28)])), (gQ 30 25 false [29] (.not (.t 29))), (cQ 31 [25,30] (.pick (.t 25) (kB true) (.t 30))), (cMv 32 31), (gMv 33 32 false 4), (gMv 34 32 false 0), (gQ 35 32 false [34] (.len (.t 34))), (gQ 36 32 false [33,35] (.call (kF 25) [(.t 33), (.t 35)])), (gQ 37 32 false [36] (.not (.t 36))), (cQ 38 [32,37] (.pick (.t 32) (kB true) (.t 37)))]) (.keep [0,3,4,38] (.cond (.t 38) (.seq (.reg false [(cQ 2 [] (.mv (kB false)))]) .ret) .skip))) (.keep [0,3,4] (.seq (.reg false [(cMv 40 0), (cQ 41 [40] (.call (kF 23) [(.t 40)])), (cMv 42 4), (cQ 43 [41,42] (.call (kF 22) [(.t 41), (.t 42)])), (cMv 39 43), (cEx 44 39 0), (cEx 45 39 1), (cMv 6 44), (cMv 7 45)]) (.keep [3,6] (.seq (.reg false [(cMv 47 6), (cMv 48 3), (cQ 49 [47,48] (.call (kF 22) [(.t 47), (.t 48)])), (cMv 46 49), (cEx 50 46 0), (cEx 51 46 1), (cMv 6 50)]) (.keep [6] (.seq (.reg true [(cMv 52 6), (cQ 53 [52] (.call (kF 20) [(.t 52)])), (cMv 54 53), (gQ 55 54 true [] (.call (kF 15) [])), (cQ 56 [54,55] (.pick (.t 54) (.t 55) (kB false))), (cMv 2 56)]) .ret)))))))))))))
def pu5 : List Nat := []
def rs5 : List RV := [.t 2]
theorem cc5 : CCx Try.prog Try.f5 pu5 rc5 := by unfold CCx; kernel_rfl
theorem cb5 : CBx Try.f5 := by unfold CBx; kernel_rfl
theorem cs5 : CSx Try.prog Try.f5 rs5 := by unfold CSx; kernel_rfl
theorem cn5 : 1 ≤ Try.f5.ntmps := by decide
end Go.C10
set_option linter.unusedSimpArgs false
set_option linter.unusedVariables false
namespace Go.C10
open Go.Fam Go.Proofs
variable {Γ : Gam}
def rdB (l : List (List Int)) (n : Int) (i : Nat) : Bool := Qbl (l[i]?.getD []) n && (!decide (atN (l[i]?.getD []) 0 ∈ (l.take i).flatten) && !decide (atN (l[i]?.getD []) 1 ∈ (l.take i).flatten))
theorem Qsx {l : List (List Int)} {n : Int} : Qck l n = true ↔ ∀ i : Nat, i < l.length → rdB l n i = true := by
 unfold Qck
 rw [List.all_eq_true]
 exact ⟨fun h i hi => h i (Q6.2 hi), fun h i hi => h i (Q6.1 hi)⟩
theorem Qob {l : List (List Int)} {n : Int} : ∀ i : Nat, i ≤ l.length → (∀ j : Nat, j < i → rdB l n j = true) → (l.take i).flatten.length = 2 * i
 | 0, _, _ => by simp
 | i + 1, hi, h => by
  obtain ⟨q, hq⟩ : ∃ q, l[i]? = some q := ⟨_, Qs (by omega)⟩
  have h1 := h i (by omega)
  unfold rdB at h1
  rw [hq, Qh, Bool.and_eq_true, Qfg] at h1
  rw [Qbh hq, Q5, Ze, Qob i (by omega) fun j hj => h j (by omega)]
  simp only [List.flatten_cons, Q3, Qd]
  omega
theorem Qsf (l : List Int) (n : Int)  : HZ5 52 [.sl 1 (l.map eI), .i n] = (l.length ≤ 1000000, .b (decide (n ∈ l))) := h52 l n
theorem Qv6 (l : List Int) (n : Int)  : HZ5 53 [.sl 1 (l.map eI), .i n] = (True, .b (Qbl l n)) := h53 l n
set_option maxHeartbeats 2000000 in
theorem W25 (l : List (List Int)) (n : Int) (h : l.length ≤ 400000) : Qal Try.prog 25 [.sl 1 (l.map eCan), .i n] (.b (Qck l n)) := by
 refine Qaj Qx6 hmix Try.func25 cb25 cc25 cs25 cn25 ?_
 simp only [rc25, rs25, Qa9, Qa8, Qac, Qa4, Qgu, Qad, Qa5, Qa2, Fam.step, Qae, evO, opv, qv, Qa1, Qa0, Qa3, ↓reduceIte, Nat.reduceEqDiff, Qb, Qc, Qm, Za, zipA, Qn, true_and, reduceCtorEq]
 refine Qbc l.length (fun i => ⟨lkp [(0, .sl 1 (l.map eCan)), (1, .i n), (5, .rf 0 i 0 (l.take i).flatten.length 1), (6, .i i)], [.cells i ((l.take i).flatten.map eI).flatten]⟩) (fun i => ∀ j : Nat, j < i → rdB l n j = true) ?_ ?_ ?_ ?_
 ·have e0 : (l.take 0).flatten = [] := rfl
  simp only [Qr, Q3, kp, Qa0, Qa3, ↓reduceIte, Nat.reduceEqDiff, Qb, Qc, Qm, Zb, reduceCtorEq]
 ·intro j hj; omega
 ·intro i hi hc
  have hsl := Qob i (by omega) hc
  obtain ⟨q, hq⟩ : ∃ q, l[i]? = some q := ⟨_, Qs hi⟩
  have hlt : (i : Int) < l.length := by omega
  have h3 : inI ((i : Int) + 1) := by unfold inI; omega
  have ec : eCan q = [.sl 1 (q.map eI)] := rfl
  have g1 := Qv6 q n
  obtain ⟨S, hS⟩ : ∃ S, S = (l.take i).flatten := ⟨_, rfl⟩
  have hst : (l.take (i + 1)).flatten = S ++ q := by rw [Qbh hq, Q5, ← hS]; simp
  rw [hst, ← hS]
  rw [← hS] at hsl
  have hrd : rdB l n i = (Qbl q n && (!decide (atN q 0 ∈ S) && !decide (atN q 1 ∈ S))) := by unfold rdB; rw [hq, Qh, ← hS]
  have bad : rdB l n i = false → false = Qck l n := fun e => by
   symm
   rw [Q8]
   intro h2
   have := Qsx.1 h2 i hi
   rw [e] at this; cases this
  have good : rdB l n i = true → ∀ j : Nat, j < i + 1 → rdB l n j = true := fun e j hj => by
   by_cases hji : j < i
   ·exact hc j hji
   ·have : j = i := by omega
    rw [this]; exact e
  have c1 := Qdt S
  have hS6 : S.length ≤ 1000000 := by omega
  by_cases hqp : Qbl q n = true
  ·obtain ⟨q2, _, _, _⟩ := Qfg.1 hqp
   obtain ⟨x, hx⟩ : ∃ x, q[0]? = some x := ⟨_, Qs (by omega)⟩
   obtain ⟨y, hy⟩ : ∃ x, q[1]? = some x := ⟨_, Qs (by omega)⟩
   have e0 : atN q 0 = x := by unfold atN; rw [show (0 : Int).toNat = 0 from rfl, hx]; rfl
   have e1 : atN q 1 = y := by unfold atN; rw [show (1 : Int).toNat = 1 from rfl, hy]; rfl
   rw [e0, e1, hqp] at hrd
   have q3 : (0 : Int) < q.length ∧ (1 : Int) < q.length := by omega
   have t0 : (0 : Int).toNat = 0 := rfl
   have t1 : (1 : Int).toNat = 1 := rfl
   have g2 := Qsf S x
   have g3 := Qsf S y
   by_cases m0 : x ∈ S
   ·simp only [hq, hlt, g1, hqp, q3, t0, t1, hx, hy, g2, m0, hS6, Qdo, c1, Q9, Q4, vw_I, Qaf, Qa9, Qa8, Qab, Qac, Qag, Qa4, Qad, Qah, Qa5, Qa2, Fam.step, Qae, Qay, Qaq, ug, evO, opv, qv, Qak, Qdw, binV, ldV, iadV, lenV, Qao, Qaa, Qa6, flat, kp, Qa1, Qa0, Qa3, ↓reduceIte, Nat.reduceEqDiff, Nat.reduceLT, Int.reduceLE, Qb, Qc, Qi, Qo, Qp, Qm, Qy, Qd, Qk, Qh, endQ, rvs, rv1, resV, vw_i, vw_b, Qam, Qdm, Qt, beq_self_eq_true, Qn, V.b.injEq, Qj, Qw, Qf, Qq, Qa, Qg, decide_true, true_and, and_true, and_self, false_and, forall_const, implies_true, reduceCtorEq, Qz, beq_false, imp_self, Qe, Qu, Ql, Qv, eI, eCan]
    exact bad (by rw [hrd]; simp [m0])
   ·by_cases m1 : y ∈ S
    ·simp only [hq, hlt, g1, hqp, q3, t0, t1, hx, hy, g2, g3, m0, m1, hS6, Qdo, c1, Q9, Q4, vw_I, Qaf, Qa9, Qa8, Qab, Qac, Qag, Qa4, Qad, Qah, Qa5, Qa2, Fam.step, Qae, Qay, Qaq, ug, evO, opv, qv, Qak, binV, ldV, iadV, lenV, Qao, Qaa, Qa6, flat, kp, Qa1, Qa0, Qa3, ↓reduceIte, Nat.reduceEqDiff, Nat.reduceLT, Int.reduceLE, Qb, Qc, Qi, Qo, Qp, Qm, Qy, Qd, Qk, Qh, endQ, rvs, rv1, resV, vw_i, vw_b, Qam, Qdm, Qt, beq_self_eq_true, Qn, V.b.injEq, Qj, Qf, Qq, Qa, decide_true, decide_false, true_and, and_self, forall_const, implies_true, reduceCtorEq, Qz, Qe, Qu, Ql, Qv, eI, eCan]
     exact bad (by rw [hrd]; simp [m1])
    ·have hgd := good (by rw [hrd]; simp [m0, m1])
     have hfl : Qar (S.length + q.length) := by unfold Qar; omega
     have hne : ¬ q = [] := fun e => by rw [e] at q2; simp at q2
     have hq0 : ¬ q.length = 0 := by omega
     have hnx : Qa6 ((S.map eI).flatten ++ (q.map eI).flatten) = false := by rw [Qcb, Qeh, Qeh]; rfl
     simp only [hq, hlt, h3, g1, hqp, q3, t0, t1, hx, hy, g2, g3, m0, m1, hS6, Qdo, c1, Q9, Q4, vw_I, hfl, Ze, List.map_append, Q5, Q0, Q1, Qaf, Qa9, Qa8, Qab, Qac, Qa4, putB, Qad, Qah, Qa5, Qa2, Fam.step, Qae, Qci, Qay, Qb6, Qaq, ug, putB, nv, sv, Qcf, evO, opv, qv, Qak, binV, ldV, iadV, lenV, Qao, Qaa, Qa6, flat, kp, Qa1, Qa0, Qa3, ↓reduceIte, Nat.reduceEqDiff, Nat.reduceLT, Int.reduceLE, Qb, Qc, Qi, Qo, Qp, Qm, Qy, Qd, Qk, Qh, Q7, vw_i, Qam, Qdm, Qt, beq_self_eq_true, Qn, Qj, Qf, Qq, Qa, decide_true, decide_false, true_and, and_true, and_self, forall_const, implies_true, reduceCtorEq, Qz, Qe, Qu, Ql, Qv, eI, eCan]
     exact hgd
  ·have hqp' : Qbl q n = false := by simpa using hqp
   simp only [hq, hlt, g1, hqp', Qaf, Qa9, Qa8, Qab, Qac, Qag, Qa4, Qad, Qah, Qa5, Qa2, Fam.step, Qae, Qay, Qaq, ug, evO, opv, qv, Qdw, binV, ldV, iadV, lenV, Qao, Qaa, Qa6, flat, kp, Qa1, Qa0, Qa3, ↓reduceIte, Nat.reduceEqDiff, Nat.reduceLT, Nat.reduceLeDiff, Int.reduceToNat, Int.toNat_zero, Int.reduceLE, Qb, Qc, Qi, Qo, Qp, Qm, Qy, Qd, Qk, Qh, endQ, rvs, rv1, resV, vw_i, vw_b, Qam, Qdm, Qt, Qn, V.b.injEq, Qj, Qw, Qf, Bool.true_or, Qq, Qx, Qa, Qg, decide_true, true_and, and_true, and_self, false_and, forall_const, implies_true, reduceCtorEq, Qz, beq_false, imp_self, Qe, Qu, Ql, Qv, eCan]
   exact bad (by rw [hrd, hqp']; rfl)
 ·intro hc
  have hlt : ¬ ((l.length : Int) < l.length) := by omega
  have := Qsx.2 hc
  simp only [hlt, this, Qa9, Qa8, Qab, Qaw, Qag, Qa4, Qad, Qah, Qa5, Qa2, Fam.step, Qae, evO, opv, qv, binV, lenV, Qa1, Qa0, Qa3, ↓reduceIte, Nat.reduceEqDiff, Qb, Qc, endQ, rvs, rv1, resV, vw_b, Qa, decide_false, and_self, reduceCtorEq, Qe]
def e25 (a : List (List Int) × Int) : List V := [.sl 1 (a.1.map eCan), .i a.2]
def d25 : List V → List (List Int) × Int | [.sl _ x0, .i x1] => (x0.map dCan, x1) | _ => ([], 0)
theorem Qxt (a : List (List Int) × Int) : d25 (e25 a) = a := by simp [d25, e25, Function.comp_def, Qik]
noncomputable def HZ6 : Gam := HZ5.ext 25 (fnG e25 d25 (fun a => (fun (l : List (List Int)) (n : Int) => l.length ≤ 400000) a.1 a.2) (fun a => (fun (l : List (List Int)) (n : Int) => Qck l n) a.1 a.2) .b)
theorem Qrv : GOk Try.prog HZ6 := Qx6.ext (f := 25) (fun a w => Try.call25 a w) (Qaz (e := e25) (d := d25) (ok := (fun a => (fun (l : List (List Int)) (n : Int) => l.length ≤ 400000) a.1 a.2)) (g := (fun a => (fun (l : List (List Int)) (n : Int) => Qck l n) a.1 a.2)) (eb := .b) fun a h => W25 a.1 a.2 h)
theorem h25 (l : List (List Int)) (n : Int) : HZ6 25 [.sl 1 (l.map eCan), .i n] = (l.length ≤ 400000, .b (Qck l n)) :=
 (show HZ6 25 _ = fnG e25 d25 (fun a => (fun (l : List (List Int)) (n : Int) => l.length ≤ 400000) a.1 a.2) (fun a => (fun (l : List (List Int)) (n : Int) => Qck l n) a.1 a.2) .b (e25 (l, n)) from rfl).trans (Qb1 _ (Qxt _))
theorem Qma {t : List Int} (hT : IsTak t.length t) (h7 : t.length ≤ 7) : Qc1 t = (Qbo t 0 (Qbr t).length, Qbo t 1 (Qbr t).length, 0) := by
 have hB : takB t = true := (Qek t).2 ⟨h7, hT⟩
 have h0 : takE t = 0 := by unfold takE; rw [if_pos hB]
 unfold Qc1
 rw [if_pos h0]
theorem Qge {n : Nat} {t : List Int} (hT : IsTak n t) (s : Int) : (Qbo t s (Qbr t).length).length ≤ n * n := by
 rw [Qj2, List.length_flatMap]
 have hcl := Qi4 t t.length
 have hsz := hT.size
 have key : ∀ L : List (List Int), (∀ c ∈ L, c.length ≤ n) → (L.map fun c => (mirN c s c.length).length).sum ≤ L.length * n := fun L => by
  induction L with
  | nil => intro _; simp
  | cons c L ih =>
   intro h
   have h1 := Qkp c s c.length
   have h2 := h c (by simp)
   have h3 := ih fun c hc => h c (by simp [hc])
   simp only [Qb, List.sum_cons, Qp, Nat.succ_mul]
   omega
 refine Nat.le_trans (key _ fun c hc => ((Qfd hT).1 c hc).below.len) (Nat.mul_le_mul_right _ ?_)
 unfold Qbr; omega
theorem h15Y : HZ6 15 [] = (True, .b true) := (show HZ6 15 [] = HN10 15 [] from rfl).trans h15
theorem Qv7 (t : List Int)  : HZ6 18 [.sl 1 (t.map eI)] = (t.length ≤ 1000000, .b (takB t)) := h18 t
theorem Qsg (t : List Int)  : HZ6 20 [.sl 1 (t.map eI)] = (t.length ≤ 1000000, .b (Qbq t)) := h20 t
theorem Qsh (t : List Int) (l : List (List Int))  : HZ6 22 [.sl 1 (t.map eI), .sl 1 (l.map eCan)] = (t.length ≤ 1000000 ∧ l.length ≤ 1000000, ((fun r => .tp [.sl 1 (r.1.map eI), .b r.2])) (Qcn t l)) := h22 t l
theorem Qv8 (t : List Int)  : HZ6 23 [.sl 1 (t.map eI)] = (IsTak t.length t ∧ t.length ≤ 1000000, ((fun l => .sl 1 (l.map eI))) (bkN t t.length)) := h23 t
theorem Qv9 (t : List Int)  : HZ6 24 [.sl 1 (t.map eI)] = (t.length ≤ 1000000, r3V (Qc1 t)) := h24 t
set_option maxRecDepth 100000 in
set_option maxHeartbeats 4000000 in
theorem P5 (t : List Int) : Qal Try.prog 5 [.sl 1 (t.map eI)] (.b true) := by
 refine Qaj Qrv hmix Try.func5 cb5 cc5 cs5 cn5 ?_
 have g1 := Qv7 t
 have g2 := Qv9 t
 by_cases h20 : (20 : Int) < t.length
 ·simp only [rc5, rs5, h20, h15Y, Qa9, Qa8, Qab, Qag, Qa4, Qad, Qa5, Qa2, Fam.step, Qae, Qay, Qaq, ug, evO, opv, qv, Qdw, binV, lenV, Qao, Qaa, Qa6, flat, Qa1, Qa0, Qa3, ↓reduceIte, Nat.reduceEqDiff, Nat.reduceLT, Qb, Qc, Qi, Qo, Qd, endQ, rvs, rv1, resV, vw_b, Qam, zipA, Qj, Qw, Qf, Qq, Qa, Qg, decide_true, true_and, and_true, and_self, false_and, forall_const, false_implies, implies_true, reduceCtorEq, beq_false, imp_self, Qe]
 have htl : t.length ≤ 1000000 := by omega
 cases hB : takB t with
 | false => simp only [rc5, rs5, h20, h15Y, g1, htl, hB, Qa9, Qa8, Qab, Qag, Qa4, Qad, Qa5, Qa2, Fam.step, Qae, Qay, Qaq, ug, evO, opv, qv, Qak, binV, lenV, Qao, Qaa, Qa6, flat, Qa1, Qa0, Qa3, ↓reduceIte, Nat.reduceEqDiff, Nat.reduceLT, Qb, Qc, Qi, Qo, Qd, endQ, rvs, rv1, resV, vw_b, Qam, zipA, beq_self_eq_true, Qj, Qf, Qx, Qa, decide_false, and_self, forall_const, implies_true, reduceCtorEq, Qe]
 | true =>
  obtain ⟨h7, hT⟩ := (Qek t).1 hB
  have hr := Qma hT h7
  obtain ⟨r0, r1⟩ := Qhw hT
  obtain ⟨p, q, p1, q1, pT, qT, hq⟩ := Qs9 hT
  have l0 := Qge hT 0
  have l1 := Qge hT 1
  have h49 : t.length * t.length ≤ 7 * 7 := Nat.mul_le_mul h7 h7
  obtain ⟨A, hA⟩ : ∃ A, A = Qbo t 0 (Qbr t).length := ⟨_, rfl⟩
  obtain ⟨B, hB2⟩ : ∃ B, B = Qbo t 1 (Qbr t).length := ⟨_, rfl⟩
  rw [← hA] at r0 q1 l0
  rw [← hB2] at r1 p1 l1
  rw [← hA, ← hB2] at hr
  simp only [hr, r3V] at g2
  have g3 := h25 A t.length
  have g4 := h25 B t.length
  have hAl : A.length ≤ 400000 ∧ B.length ≤ 400000 ∧ A.length ≤ 1000000 ∧ B.length ≤ 1000000 := by omega
  have g5 := Qv8 t
  have hTT : (IsTak t.length t ∧ t.length ≤ 1000000) = True := eq_true ⟨hT, htl⟩
  rw [hTT] at g5
  have hbl := Qhp t t.length
  have g6 := Qsh (bkN t t.length) B
  have a1 : Qcn (bkN t t.length) B = (p, true) := by unfold Qcn; rw [hbl, p1]
  have hbs : (bkN t t.length).length ≤ 1000000 := by omega
  rw [a1] at g6
  have hps := pT.size
  have g7 := Qsh p A
  have a2 : Qcn p A = (q, true) := by unfold Qcn; rw [hps, q1]
  rw [a2] at g7
  have hps2 : p.length ≤ 1000000 := by omega
  have hqs := qT.size
  have hqs2 : q.length ≤ 1000000 := by omega
  have g8 := Qsg q
  simp only [rc5, rs5, h20, h15Y, g1, htl, hB, g2, g3, g4, r0, r1, hAl, g5, g6, hbs, g7, hps2, g8, hqs2, hq, Qaf, Qa9, Qa8, Qab, Qag, Qa4, Qad, Qa5, Qa2, Fam.step, Qae, Qay, Qaq, ug, evO, opv, qv, Qak, binV, lenV, Qao, Qaa, Qa6, flat, Qdc, Qa1, Qa0, Qa3, ↓reduceIte, Nat.reduceEqDiff, Nat.reduceAdd, Nat.reduceLT, Qb, Qc, Qi, Qo, Qp, Qm, Qd, Qk, Q2, Qh, endQ, rvs, rv1, resV, vw_i, vw_b, Qam, zipA, beq_self_eq_true, Qn, Qj, Qw, Qf, Qq, Qa, Qg, decide_true, decide_false, and_self, forall_const, implies_true, reduceCtorEq, imp_self, Qe]
end Go.C10
set_option maxRecDepth 8000
namespace Go.C10
open Go.Fam Go.Proofs
def rc6 : RC := (.seq (.reg false [(cQ 2 [] (.mv (kB false)))]) (.keep [0] (.seq (.seq (.reg false [(cMv 17 0), (cLn 18 17), (cC 19 .gtr 18 40)]) (.keep [0,19] (.cond (.t 19) (.seq (.reg false [(cQ 20 [] (.call (kF 15) [])), (cMv 2 20)]) .ret) .skip))) (.keep [0] (.seq (.reg false [⟨(some 21), none, [], none, .w (.bso 1 0 [(.i 0)] [])⟩, (cMv 22 0), ⟨(some 23), none, [21,22], none, .w (.app 1 (.t 21) (.t 22))⟩, (cMv 3 23)]) (.keep [0,3] (.seq (.drp 0 (.reg false [(cMv 25 3), (cQ 26 [25] (.call (kF 19) [(.t 25)])), (cMv 24 26), (cEx 27 24 0), (cEx 28 24 1), (cMv 4 27), (cMv 5 28)])) (.keep [0,3,4,5] (.seq (.reg false [(cMv 30 0), (cQ 31 [30] (.call (kF 26) [(.t 30)])), (cMv 29 31), (cEx 32 29 0), (cEx 33 29 1), (cMv 6 32), (cMv 7 33)]) (.keep [0,3,4,5,6,7] (.seq (.reg false [(cMv 35 3), (cQ 36 [35] (.call (kF 27) [(.t 35)])), (cMv 34 36), (cEx 37 34 0), (cEx 38 34 1), (cMv 8 37), (cMv 9 38)]) (.keep [0,3,4,5,6,7,8,9] (.seq (.reg false [(cMv 40 3), (cQ 41 [40] (.call (kF 24) [(.t 40)])), (cMv 39 41), (cEx 42 39 0), (cEx 43 39 1), (cEx 44 39 2), (cMv 10 42), (cMv 11 43), (cMv 12 44)]) (.keep [0,3,4,5,6,7,8,9,10,11,12] (.seq (.seq (.reg true [(cMv 45 4), (cMv 46 6), (cB 47 .neq 45 46), (cMv 48 47), (gMv 49 48 false 5), (gMv 50 48 false 7), (gQ 51 48 false [49,50] (.bin .neq (.t 49) (.t 50))), (cQ 52 [48,51] (.pick (.t 48) (kB true) (.t 51))), (cMv 53 52), (gMv 54 53 false 9), (gMv 55 53 false 7), (gQ 56 53 false [54,55] (.bin .neq (.t 54) (.t 55))), (cQ 57 [53,56] (.pick (.t 53) (kB true) (.t 56))), (cMv 58 57), (gMv 59 58 false 12), (gMv 60 58 false 7), (gQ 61 58 false [59,60] (.bin .neq (.t 59) (.t 60))), (cQ 62 [58,61] (.pick (.t 58) (kB true) (.t 61))), (cMv 63 62), (gMv 64 63 false 3), (gMv 65 63 false 0), (gQ 66 63 false [64,65] (.call (kF 28) [(.t 64), (.t 65)])), (gQ 67 63 false [66] (.not (.t 66))), (cQ 68 [63,67] (.pick (.t 63) (kB true) (.t 67)))]) (.keep [0,6,7,8,10,11,68] (.cond (.t 68) (.seq (.reg false [(cQ 2 [] (.mv (kB false)))]) .ret) .skip))) (.keep [0,6,7,8,10,11] (.seq (.seq (.reg false [(cMv 69 7), (cC 70 .neq 69 0)]) (.keep [0,6,8,10,11,70] (.cond (.t 70) (.seq (.reg true [(cMv 71 8), (cLn 72 71), (cMv 73 10), (cLn 74 73), (cB 75 .add 72 74), (cMv 76 11), (cLn 77 76), (cB 78 .add 75 77), (cC 79 .eql 78 0), (cMv 80 79), (gQ 81 80 true [] (.call (kF 15) [])), (cQ 82 [80,81] (.pick (.t 80) (.t 81) (kB false))), (cMv 2 82)]) .ret) .skip))) (.keep [0,6,8,10,11] (.seq (.reg false [(cMv 84 0), (cMv 85 8), (cQ 86 [84,85] (.call (kF 22) [(.t 84), (.t 85)])), (cMv 83 86), (cEx 87 83 0), (cEx 88 83 1), (cMv 13 87), (cMv 14 88)]) (.keep [0,6,8,10,11,13,14] (.seq (.seq (.reg true [(cMv 89 14), (cN 90 89), (cMv 91 90), (gMv 92 91 false 13), (gQ 93 91 false [92] (.call (kF 20) [(.t 92)])), (gQ 94 91 false [93] (.not (.t 93))), (cQ 95 [91,94] (.pick (.t 91) (kB true) (.t 94))), (cMv 96 95), (gMv 97 96 false 8), (gQ 98 96 false [97] (.len (.t 97))), (gMv 99 96 false 6), (gQ 100 96 false [98,99] (.bin .neq (.t 98) (.t 99))), (cQ 101 [96,100] (.pick (.t 96) (kB true) (.t 100))), (cMv 102 101), (gMv 103 102 false 10), (gMv 104 102 false 0), (gQ 105 102 false [104] (.len (.t 104))), (gQ 106 102 false [103,105] (.call (kF 25) [(.t 103), (.t 105)])), (gQ 107 102 false [106] (.not (.t 106))), (cQ 108 [102,107] (.pick (.t 102) (kB true) (.t 107))), (cMv 109 108), (gMv 110 109 false 11), (gMv 111 109 false 0), (gQ 112 109 false [111] (.len (.t 111))), (gQ 113 109 false [110,112] (.call (kF 25) [(.t 110), (.t 112)])), (gQ 114 109 false [113] (.not (.t 113))), (cQ 115 [109,114] (.pick (.t 109) (kB true) (.t 114)))]) (.keep [0,10,11,115] (.cond (.t 115) (.seq (.reg false [(cQ 2 [] (.mv (kB false)))]) .ret) .skip))) (.keep [0,10,11] (.seq (.reg false [(cMv 117 0), (cMv 118 10), (cQ 119 [117,118] (.call (kF 22) [(.t 117), (.t 118)])), (cMv 116 119), (cEx 120 116 0), (cEx 121 116 1), (cMv 15 120), (cMv 16 121)]) (.keep [11,15] (.seq (.reg false [(cMv 123 15), (cMv 124 11), (cQ 125 [123,124] (.call (kF 22) [(.t 123), (.t 124)])), (cMv 122 125), (cEx 126 122 0), (cEx 127 122 1), (cMv 15 126)]) (.keep [15] (.seq (.reg true [(cMv 128 15), (cQ 129 [128] (.call (kF 20) [(.t 128)])), (cMv 130 129), (gQ 131 130 true [] (.call (kF 15) [])), (cQ 132 [130,131] (.pick (.t 130) (.t 131) (kB false))), (cMv 2 132)]) .ret)))))))))))))))))))))))))))
def pu6 : List Nat := []
def rs6 : List RV := [.t 2]
theorem cc6 : CCx Try.prog Try.f6 pu6 rc6 := by unfold CCx; kernel_rfl
theorem cb6 : CBx Try.f6 := by unfold CBx; kernel_rfl
theorem cs6 : CSx Try.prog Try.f6 rs6 := by unfold CSx; kernel_rfl
theorem cn6 : 1 ≤ Try.f6.ntmps := by decide
end Go.C10
set_option linter.unusedSimpArgs false
set_option linter.unusedVariables false
namespace Go.C10
open Go.Fam Go.Proofs
variable {Γ : Gam}
theorem Qmy {k : Nat} {t : List Int} {i : Nat} (hi : i < t.length) (hne : atN t i ≠ i) (hlt : ∀ j : Nat, j < i → atN t j = j) :
  Qbw (k + 1) t = (List.range t.length).any fun (x : Nat) => decide (x ≠ i) && Qbw k (Qc6 t i x) := by
 have hr : Qbq t = false := by
  rw [Q8]
  intro h
  exact hne (Qd8.1 h i hi)
 have hf : (List.range t.length).find? (fun (g : Nat) => decide (atN t g ≠ g)) = some i := Qps (Zc hi) (by simpa using hne) fun j y hj hy => by
  rw [Zc (by omega)] at hy
  rw [← Option.some.inj hy]
  simpa using hlt j hj
 rw [Qbw, hr, hf, Bool.false_or]
def e58 (k : Nat) (t : List Int) : List V := [.sl 1 (t.map eI), .i (k : Int)]
def d58 : List V → List Int | [.sl _ l, _] => l.map dI | _ => []
theorem Qya (k : Nat) (t : List Int) : d58 (e58 k t) = t := by simp [d58, e58, Function.comp_def, Qcx]
def Ok58 (t : List Int) : Prop := IsTak t.length t ∧ t.length ≤ 7
noncomputable def G58 (k : Nat) : Gam := HZ6.ext 58 (fnG (e58 k) d58 Ok58 (Qbw k) .b)
theorem q58 (k : Nat) (t : List Int) : G58 k 58 [.sl 1 (t.map eI), .i (k : Int)] = (Ok58 t, .b (Qbw k t)) :=
 (show G58 k 58 _ = fnG (e58 k) d58 Ok58 (Qbw k) .b (e58 k t) from rfl).trans (Qb1 _ (Qya k _))
theorem Qrc (k : Nat) (t : List Int)  : (G58 k) 20 [.sl 1 (t.map eI)] = (t.length ≤ 1000000, .b (Qbq t)) := h20 t
theorem Qrd (k : Nat) (t : List Int) (a : Int) (b : Int)  : (G58 k) 21 [.sl 1 (t.map eI), .i a, .i b] = (t.length ≤ 1000000 ∧ inB t a ∧ inB t b, ((fun l => .sl 1 (l.map eI))) (Qc6 t a b)) := h21 t a b
set_option maxHeartbeats 2000000 in
theorem W58 : ∀ (k : Nat), k ≤ 1000 → ∀ t : List Int, Ok58 t → Qal Try.prog 58 [.sl 1 (t.map eI), .i (k : Int)] (.b (Qbw k t)) := by
 intro k
 induction k with
 | zero =>
  intro _ t h
  obtain ⟨hT, h7⟩ := h
  refine Qaj Qrv hmix Try.func58 cb58 cc58 cs58 cn58 ?_
  have g1 := Qsg t
  have h6 : t.length ≤ 1000000 := by omega
  by_cases hr : Qbq t = true
  ·simp only [rc58, rs58, g1, h6, hr, Qbw, Qa9, Qa8, Qab, Qag, Qa4, Qad, Qa5, Qa2, Fam.step, Qae, evO, opv, qv, Qao, Qaa, Qa6, flat, Qa1, Qa0, Qa3, ↓reduceIte, Nat.reduceEqDiff, Nat.reduceLT, Qb, Qc, Qd, endQ, rvs, rv1, resV, vw_b, Qam, zipA, Qn, Qf, Qa, and_self, implies_true, reduceCtorEq]
  ·simp only [rc58, rs58, g1, h6, hr, Qr, Qaf, Qa9, Qa8, Qab, Qac, Qa4, Qad, Qa5, Qa2, Fam.step, Qae, evO, opv, qv, Qao, Qaa, Qa6, flat, Qa1, Qa0, Qa3, ↓reduceIte, Nat.reduceEqDiff, Nat.reduceLT, Qb, Qc, Qd, Qam, zipA, Qn, Qf, Qa, true_and, and_self, implies_true, reduceCtorEq]
   refine Qcl 0 (fun i => ⟨lkp [(0, .sl 1 (t.map eI)), (1, .i 0), (5, .i i)], []⟩) ?_ ?_ ?_
   ·simp only [Qr, kp, Qa0, Qa3, ↓reduceIte, Nat.reduceEqDiff, Qb, Qc, reduceCtorEq]
   ·intro i hi; omega
   ·by_cases hg0 : (0 : Int) < t.length <;> simp only [Qr, Qbw, hr, hg0, Qa9, Qa8, Qab, Qaw, Qag, Qa4, Qad, Qah, Qa5, Qa2, Fam.step, Qae, Qay, Qaq, ug, evO, opv, qv, Qak, binV, lenV, Qa1, Qa0, Qa3, ↓reduceIte, Nat.reduceEqDiff, Qb, Qc, Qi, Qo, endQ, rvs, rv1, resV, vw_b, Int.lt_irrefl, beq_self_eq_true, Qj, Qw, Qa, Qg, decide_true, decide_false, and_true, and_self, forall_const, implies_true, reduceCtorEq, beq_true, imp_self, Qe]
 | succ k ih =>
  intro hk t h
  have hok : GOk Try.prog (G58 k) := Qrv.ext (f := 58) (fun a w => Try.call58 a w) (Qaz (e := e58 k) (d := d58) (ok := Ok58) (g := Qbw k) (eb := .b) fun a h => ih (by omega) a h)
  obtain ⟨hT, h7⟩ := h
  refine Qaj hok hmix Try.func58 cb58 cc58 cs58 cn58 ?_
  have g1 := Qrc k t
  have h6 : t.length ≤ 1000000 := by omega
  by_cases hr : Qbq t = true
  ·simp only [rc58, rs58, g1, h6, hr, Qbw, Qa9, Qa8, Qab, Qag, Qa4, Qad, Qa5, Qa2, Fam.step, Qae, evO, opv, qv, Qao, Qaa, Qa6, flat, Qa1, Qa0, Qa3, ↓reduceIte, Nat.reduceEqDiff, Nat.reduceLT, Qb, Qc, Qd, endQ, rvs, rv1, resV, vw_b, Qam, zipA, Qn, Qf, Bool.true_or, Qa, and_self, implies_true, reduceCtorEq, ne_eq]
  ·simp only [rc58, rs58, g1, h6, hr, Q0, Q1, Qaf, Qa9, Qa8, Qab, Qac, Qa4, Qad, Qa5, Qa2, Fam.step, Qae, evO, opv, qv, Qao, Qaa, Qa6, flat, Qa1, Qa0, Qa3, ↓reduceIte, Nat.reduceEqDiff, Nat.reduceLT, Qb, Qc, Qd, Qam, zipA, Qn, Qf, Qa, true_and, and_self, implies_true, reduceCtorEq]
   refine Qbc t.length (fun i => ⟨lkp [(0, .sl 1 (t.map eI)), (1, .i ((k : Int) + 1)), (5, .i i)], []⟩) (fun i => ∀ j : Nat, j < i → atN t j = j) ?_ ?_ ?_ ?_
   ·simp only [Qr, kp, Qa0, Qa3, ↓reduceIte, Nat.reduceEqDiff, Qb, Qc, reduceCtorEq]
   ·intro j hj; omega
   ·intro i hi hc
    obtain ⟨x, hx⟩ : ∃ x, t[i]? = some x := ⟨_, Qs hi⟩
    have ex := Qp8 hx
    have hlt : (i : Int) < t.length := by omega
    have h3 : inI ((i : Int) + 1) := by unfold inI; omega
    have h5 : (0 : Int) < (k : Int) + 1 := by omega
    by_cases e : x = i
    ·simp only [hx, hlt, h3, h5, e, Q0, Q1, Qaf, Qa9, Qa8, Qab, Qac, Qa4, Qad, Qah, Qa5, Qa2, Fam.step, Qae, Qay, Qaq, ug, evO, opv, qv, Qak, binV, ldV, iadV, lenV, kp, Qa1, Qa0, Qa3, ↓reduceIte, Nat.reduceEqDiff, Nat.reduceLeDiff, Qb, Qc, Qi, Qo, Qp, Qm, Qy, Qh, Qt, beq_self_eq_true, Qn, Qj, Qq, Qa, Qg, decide_true, true_and, and_true, and_self, forall_const, implies_true, reduceCtorEq, Qz, Qe, Qu, Ql, Qv, eI]
     intro j hj
     by_cases hji : j < i
     ·exact hc j hji
     ·have : j = i := by omega
      subst this
      rw [ex, e]
    ·simp only [hx, hlt, h5, e, Qaf, Qa9, Qa8, Qab, Qac, Qa4, Qad, Qa5, Qa2, Fam.step, Qae, Qay, Qaq, ug, evO, opv, qv, Qak, binV, ldV, iadV, lenV, kp, Qa1, Qa0, Qa3, ↓reduceIte, Nat.reduceEqDiff, Nat.reduceLeDiff, Qb, Qc, Qi, Qo, Qp, Qm, Qy, Qh, Qt, beq_self_eq_true, Qn, Qj, Qx, Qa, Qg, decide_true, decide_false, true_and, and_self, forall_const, implies_true, reduceCtorEq, Qz, Qe, Qu, Ql, Qv, eI]
     have hne : atN t i ≠ i := by rw [ex]; exact e
     have hsu := Qmy (k := k) hi hne hc
     refine Qbc t.length (fun y => ⟨lkp [(0, .sl 1 (t.map eI)), (1, .i ((k : Int) + 1)), (5, .i i), (6, .i y)], []⟩) (fun y => ∀ j : Nat, j < y → j ≠ i → Qbw k (Qc6 t i j) = false) ?_ ?_ ?_ ?_
     ·simp only [Qr, kp, Qa0, Qa3, ↓reduceIte, Nat.reduceEqDiff, Qb, Qc, reduceCtorEq]
     ·intro j hj; omega
     ·intro y hy hcy
      have hly : (y : Int) < t.length := by omega
      have h4 : inI ((y : Int) + 1) := by unfold inI; omega
      by_cases hyi : y = i
      ·subst hyi
       simp only [hly, h4, Q0, Q1, Qaf, Qa9, Qa8, Qab, Qac, Qa4, Qad, Qah, Qa5, Qa2, Fam.step, Qae, Qay, Qaq, ug, evO, opv, qv, Qkr, binV, lenV, Qao, Qaa, Qa6, kp, Qa1, Qa0, Qa3, ↓reduceIte, Nat.reduceEqDiff, Nat.reduceLT, Int.add_sub_cancel, Qb, Qc, Qi, Qo, Qd, vw_i, Qam, Qj, Qw, Qf, Qq, Qa, decide_true, true_and, and_true, and_self, false_and, forall_const, false_implies, implies_true, reduceCtorEq, ne_eq, beq_true, imp_self, Qe]
       intro j hj hji
       exact hcy j (by omega) hji
      ·have hyi2 : ¬ (y : Int) = i := by omega
       have g2 := Qrd k t i y
       have hb : (t.length ≤ 1000000 ∧ inB t i ∧ inB t y) = True := eq_true (by unfold inB; omega)
       simp only [hb] at g2
       have g3 := q58 k (Qc6 t i y)
       have hs : Ok58 (Qc6 t i y) := ⟨by rw [Qej]; exact Qd1 hT (by omega) (by omega), by rw [Qej]; exact h7⟩
       have h8 : inI (k : Int) := by unfold inI; omega
       have h9 : (k : Int) + 1 - 1 = k := by omega
       simp only [hly, h4, hyi2, g2, g3, hs, h8, h9, Q0, Q1, Qaf, Qa9, Qa8, Qab, Qiu, Qac, Qag, Qa4, Qad, Qah, Qa5, Qa2, Fam.step, Qae, Qay, Qaq, ug, evO, opv, qv, Qak, binV, lenV, Qao, Qaa, Qa6, flat, kp, Qa1, Qa0, Qa3, ↓reduceIte, Nat.reduceEqDiff, Nat.reduceLT, Qb, Qc, Qi, Qo, Qd, endQ, rvs, rv1, resV, vw_i, vw_b, Qam, beq_self_eq_true, V.b.injEq, Qj, Qf, Qx, Qa, Qg, decide_true, decide_false, true_and, and_true, and_self, forall_const, implies_true, reduceCtorEq, ne_eq, imp_self, Qe, Bool.not_eq_true]
       refine ⟨fun he => ?_, fun he => ?_⟩
       ·rw [hsu]
        symm
        rw [List.any_eq_true]
        exact ⟨y, Q6.2 hy, by rw [he]; simpa using hyi⟩
       ·intro j hj hji
        by_cases hjy : j < y
        ·exact hcy j hjy hji
        ·have : j = y := by omega
         subst this
         exact he
     ·intro hcy
      have hly : ¬ ((t.length : Int) < t.length) := by omega
      have : Qbw (k + 1) t = false := by
       rw [hsu, List.any_eq_false]
       intro y hy
       rw [Q6] at hy
       by_cases hyi : y = i
       ·simp [hyi]
       ·rw [hcy y hy hyi]; simp
      simp only [hly, this, Qa9, Qa8, Qab, Qaw, Qag, Qa4, Qad, Qah, Qa5, Qa2, Fam.step, Qae, evO, opv, qv, binV, lenV, Qa1, Qa0, Qa3, ↓reduceIte, Nat.reduceEqDiff, Qb, Qc, endQ, rvs, rv1, resV, vw_b, Qa, decide_false, and_self, reduceCtorEq, Qe]
   ·intro hc
    exact absurd (Qd8.2 hc) hr
theorem W58n (t : List Int) (n : Nat) (h : Ok58 t ∧ n ≤ 1000) : Qal Try.prog 58 [.sl 1 (t.map eI), .i (n : Int)] (.b (Qbw n t)) := W58 n h.2 t h.1
def e58n (a : List Int × Nat) : List V := [.sl 1 (a.1.map eI), .i (a.2 : Nat)]
def d58n : List V → List Int × Nat | [.sl _ x0, .i x1] => (x0.map dI, x1.toNat) | _ => ([], 0)
theorem Qvm (a : List Int × Nat) : d58n (e58n a) = a := by simp [d58n, e58n, Function.comp_def, Qcx]
noncomputable def HZ7 : Gam := HZ6.ext 58 (fnG e58n d58n (fun a => (fun (t : List Int) (n : Nat) => Ok58 t ∧ n ≤ 1000) a.1 a.2) (fun a => (fun (t : List Int) (n : Nat) => Qbw n t) a.1 a.2) .b)
theorem Qx7 : GOk Try.prog HZ7 := Qrv.ext (f := 58) (fun a w => Try.call58 a w) (Qaz (e := e58n) (d := d58n) (ok := (fun a => (fun (t : List Int) (n : Nat) => Ok58 t ∧ n ≤ 1000) a.1 a.2)) (g := (fun a => (fun (t : List Int) (n : Nat) => Qbw n t) a.1 a.2)) (eb := .b) fun a h => W58n a.1 a.2 h)
theorem h58n (t : List Int) (n : Nat) : HZ7 58 [.sl 1 (t.map eI), .i (n : Nat)] = (Ok58 t ∧ n ≤ 1000, .b (Qbw n t)) :=
 (show HZ7 58 _ = fnG e58n d58n (fun a => (fun (t : List Int) (n : Nat) => Ok58 t ∧ n ≤ 1000) a.1 a.2) (fun a => (fun (t : List Int) (n : Nat) => Qbw n t) a.1 a.2) .b (e58n (t, n)) from rfl).trans (Qb1 _ (Qvm _))
def Qet (t : List Int) : Int × Int := if takB t = true then ((mN t : Int), 0) else (0, 1)
theorem Qva (t : List Int)  : HZ7 18 [.sl 1 (t.map eI)] = (t.length ≤ 1000000, .b (takB t)) := h18 t
theorem W26 (t : List Int) (h : t.length ≤ 1000000) : Qal Try.prog 26 [.sl 1 (t.map eI)] (.tp [.i (Qet t).1, .i (Qet t).2]) := by
 refine Qaj Qx7 hmix Try.func26 cb26 cc26 cs26 cn26 ?_
 have g1 := Qva t
 cases hB : takB t with
 | false => simp only [rc26, rs26, g1, h, hB, Qet, Qa9, Qa8, Qab, Qag, Qa4, Qad, Qa5, Qa2, Fam.step, Qae, evO, opv, qv, ldV, Qao, Qaa, Qa6, flat, Qa1, Qa0, Qa3, ↓reduceIte, Nat.reduceEqDiff, Nat.reduceLT, Qb, Qc, Qd, Zf, endQ, rvs, rv1, resV, vw_i, Qam, Qcy, zipA, Qf, Qx, Qa, and_self, implies_true, reduceCtorEq]
 | true =>
  obtain ⟨h7, hT⟩ := (Qek t).1 hB
  have hle := Qtp hT
  have hok : Ok58 t := ⟨hT, h7⟩
  simp only [rc26, rs26, g1, h, hB, Qaf, Qa9, Qa8, Qab, Qac, Qa4, Qad, Qa5, Qa2, Fam.step, Qae, evO, opv, qv, Qao, Qaa, Qa6, flat, Qa1, Qa0, Qa3, ↓reduceIte, Nat.reduceLT, Qb, Qc, Qd, Qam, zipA, Qf, Qq, Qa, true_and, and_self, implies_true, reduceCtorEq]
  refine Qcl (mN t) (fun i => ⟨lkp [(0, .sl 1 (t.map eI)), (4, .i i)], []⟩) ?_ ?_ ?_
  ·simp only [Qr, kp, Qa0, Qa3, ↓reduceIte, Qb, Qc, reduceCtorEq]
  ·intro i hi
   have g2 := h58n t i
   have hno : Qbw i t = false := by
    rw [Q8]
    intro h2
    have := (Qfo i t hT).1 h2
    omega
   have h3 : inI ((i : Int) + 1) := by unfold inI; omega
   have hi2 : i ≤ 1000 := by omega
   simp only [g2, hok, hi2, hno, h3, Q0, Q1, Qaf, Qa9, Qa8, Qab, Qac, Qa4, Qad, Qah, Qa5, Qa2, Fam.step, Qae, evO, opv, qv, binV, Qao, Qaa, Qa6, flat, kp, Qa1, Qa0, Qa3, ↓reduceIte, Nat.reduceEqDiff, Nat.reduceLT, Qb, Qc, Qd, vw_i, Qam, Qf, Qx, Qa, and_self, implies_true, reduceCtorEq]
  ·have g2 := h58n t (mN t)
   have hy : Qbw (mN t) t = true := (Qfo _ t hT).2 (Q4 _)
   have hi2 : mN t ≤ 1000 := by omega
   simp only [g2, hok, hi2, hy, Qet, hB, Qa9, Qa8, Qab, Qaw, Qag, Qa4, Qad, Qah, Qa5, Qa2, Fam.step, Qae, evO, opv, qv, ldV, Qao, Qaa, Qa6, flat, Qa1, Qa0, Qa3, ↓reduceIte, Nat.reduceEqDiff, Nat.reduceLT, Qb, Qc, Qd, Zf, endQ, rvs, rv1, resV, vw_i, Qam, Qcy, Qf, Qq, Qa, and_self, implies_true, reduceCtorEq]
def e26 (a : List Int) : List V := [.sl 1 (a.map eI)]
def d26 : List V → List Int | [.sl _ x0] => (x0.map dI) | _ => ([])
theorem Qxu (a : List Int) : d26 (e26 a) = a := by simp [d26, e26, Function.comp_def, Qcx]
noncomputable def HZ8 : Gam := HZ7.ext 26 (fnG e26 d26 (fun a => (fun (t : List Int) => t.length ≤ 1000000) a) (fun a => (fun (t : List Int) => Qet t) a) (fun r => .tp [.i r.1, .i r.2]))
theorem Qyy : GOk Try.prog HZ8 := Qx7.ext (f := 26) (fun a w => Try.call26 a w) (Qaz (e := e26) (d := d26) (ok := (fun a => (fun (t : List Int) => t.length ≤ 1000000) a)) (g := (fun a => (fun (t : List Int) => Qet t) a)) (eb := (fun r => .tp [.i r.1, .i r.2])) fun a h => W26 a h)
theorem h26 (t : List Int) : HZ8 26 [.sl 1 (t.map eI)] = (t.length ≤ 1000000, ((fun r => .tp [.i r.1, .i r.2])) (Qet t)) :=
 (show HZ8 26 _ = fnG e26 d26 (fun a => (fun (t : List Int) => t.length ≤ 1000000) a) (fun a => (fun (t : List Int) => Qet t) a) (fun r => .tp [.i r.1, .i r.2]) (e26 (t)) from rfl).trans (Qb1 _ (Qxu _))
theorem h15W : HZ8 15 [] = (True, .b true) := (show HZ8 15 [] = HN10 15 [] from rfl).trans h15
theorem Qvb (t : List Int)  : HZ8 19 [.sl 1 (t.map eI)] = (t.length ≤ 1000000, ((fun r => .tp [.i r.1.length, .i r.2])) (Qdg t)) := h19 t
theorem Qsi (t : List Int)  : HZ8 20 [.sl 1 (t.map eI)] = (t.length ≤ 1000000, .b (Qbq t)) := h20 t
theorem Qp4 (t : List Int) (l : List (List Int))  : HZ8 22 [.sl 1 (t.map eI), .sl 1 (l.map eCan)] = (t.length ≤ 1000000 ∧ l.length ≤ 1000000, ((fun r => .tp [.sl 1 (r.1.map eI), .b r.2])) (Qcn t l)) := h22 t l
theorem Qvc (t : List Int)  : HZ8 24 [.sl 1 (t.map eI)] = (t.length ≤ 1000000, r3V (Qc1 t)) := h24 t
theorem Qsj (l : List (List Int)) (n : Int)  : HZ8 25 [.sl 1 (l.map eCan), .i n] = (l.length ≤ 400000, .b (Qck l n)) := h25 l n
theorem Qvd (t : List Int)  : HZ8 27 [.sl 1 (t.map eI)] = (t.length ≤ 1000000, ((fun r => .tp [.sl 1 (r.1.map eCan), .i r.2])) (Qdg t)) := h27 t
theorem Qve (l : List Int) (m : List Int)  : HZ8 28 [.sl 1 (l.map eI), .sl 1 (m.map eI)] = (l.length ≤ 1000000, .b (decide (l = m))) := h28 l m
set_option maxRecDepth 100000 in
set_option maxHeartbeats 4000000 in
theorem P6 (t : List Int) : Qal Try.prog 6 [.sl 1 (t.map eI)] (.b true) := by
 refine Qaj Qyy hmix Try.func6 cb6 cc6 cs6 cn6 ?_
 by_cases h40 : (40 : Int) < t.length
 ·simp only [rc6, rs6, h40, h15W, Qa9, Qa8, Qab, Qag, Qa4, Qad, Qa5, Qa2, Fam.step, Qae, evO, opv, qv, binV, lenV, Qao, Qa6, flat, Qa1, Qa0, Qa3, ↓reduceIte, Nat.reduceLT, Qb, Qc, Qd, endQ, rvs, rv1, resV, vw_b, zipA, Qa, decide_true, and_self, implies_true, reduceCtorEq, Qe]
 have htl : t.length ≤ 1000000 := by omega
 have f0 : Qar t.length := by unfold Qar; omega
 have f1 : Qar (0 + t.length) := by unfold Qar; omega
 have c0 := Qdt t
 have g1 := Qvb t
 have g2 := h26 t
 have g3 := Qvd t
 have g4 := Qvc t
 have g5 := Qve t t
 cases hB : takB t with
 | false =>
  have h0 : takE t = 1 := by
   unfold takE; rw [if_neg (by rw [hB]; simp)]
  have e1 : Qdg t = ([], 1) := by unfold Qdg; rw [h0]; rfl
  have e2 : Qc1 t = ([], [], 1) := by unfold Qc1; rw [h0]; rfl
  have e3 : Qet t = (0, 1) := by unfold Qet; rw [hB]; rfl
  simp only [e1] at g1 g3
  simp only [e2, r3V] at g4
  simp only [e3] at g2
  have i0 : inI 0 := by unfold inI; omega
  simp only [rc6, rs6, h40, h15W, f0, htl, g1, g2, g3, g4, g5, c0, hpF, upB, Qsa, Qdo, Q9, Q4, vw_I, Q3, i0, Qr, Int.add_zero, Qaf, Qa9, Qa8, Qab, Qag, Qa4, Qcw, ↓Qc4, cutH, putB, Qad, Qa5, Qa2, Fam.step, Qae, Qci, Qay, Qb6, Qaq, ug, putB, nv, sv, Qcf, evO, opv, qv, Qak, binV, lenV, Qao, Qat, Qbe, Qb5, Qaa, Qa6, flat, Qdc, cutV, Qa1, Qa0, Qa3, ↓reduceIte, Nat.reduceEqDiff, Nat.reduceAdd, Nat.reduceLT, Int.reduceEq, Qb, Qc, Qi, Qo, Qp, Qm, Zg, Zb, Za, Qd, Qk, Q2, Qh, Q7, Zd, endQ, rvs, rv1, resV, vw_b, Qam, Qdm, zipA, beq_self_eq_true, Qn, Qj, Qw, Qf, Qq, Qx, Qa, Qg, decide_true, decide_false, and_self, forall_const, implies_true, reduceCtorEq, imp_self, Qe]
 | true =>
  obtain ⟨h7, hT⟩ := (Qek t).1 hB
  have hr := Qma hT h7
  obtain ⟨r0, r1⟩ := Qhw hT
  obtain ⟨p, q, p1, q1, pT, qT, hq⟩ := Qoy hT
  obtain ⟨L, hL, hLl, hLa, hLr⟩ := Qth hT h7
  obtain ⟨z, hz⟩ : ∃ z, z = (exS t t.length).1 := ⟨_, rfl⟩
  rw [← hz] at hLa hLr
  have l0 := Qge hT 0
  have l1 := Qge hT 1
  have h49 : t.length * t.length ≤ 7 * 7 := Nat.mul_le_mul h7 h7
  obtain ⟨A, hA⟩ : ∃ A, A = Qbo t 0 (Qbr t).length := ⟨_, rfl⟩
  obtain ⟨B, hB2⟩ : ∃ B, B = Qbo t 1 (Qbr t).length := ⟨_, rfl⟩
  rw [← hA] at r0 p1 l0
  rw [← hB2] at r1 q1 l1
  rw [← hA, ← hB2] at hr
  have e3 : Qet t = ((mN t : Int), 0) := by unfold Qet; rw [hB]; rfl
  simp only [hL, hLl] at g1
  simp only [hL] at g3
  simp only [hr, r3V] at g4
  simp only [e3] at g2
  have hle := Qtp hT
  have hLl6 : L.length ≤ 1000000 := by omega
  have hLi : (L.length : Int) = mN t := by omega
  have g6 := Qp4 t L
  have a0 : Qcn t L = (z, true) := by unfold Qcn; rw [hLa]
  rw [a0] at g6
  have hzs := Qh4 _ _ _ hLa
  have hz6 : z.length ≤ 1000000 := by omega
  have g7 := Qsi z
  have g8 := Qsj A t.length
  have g9 := Qsj B t.length
  have hAl : A.length ≤ 400000 ∧ B.length ≤ 400000 ∧ A.length ≤ 1000000 ∧ B.length ≤ 1000000 := by omega
  have k1 := Qp4 t A
  have a1 : Qcn t A = (p, true) := by unfold Qcn; rw [p1]
  rw [a1] at k1
  have hps := pT.size
  have k2 := Qp4 p B
  have a2 : Qcn p B = (q, true) := by unfold Qcn; rw [hps, q1]
  rw [a2] at k2
  have hps2 : p.length ≤ 1000000 := by omega
  have hqs := qT.size
  have hqs2 : q.length ≤ 1000000 := by omega
  have k3 := Qsi q
  simp only [rc6, rs6, h40, h15W, f0, htl, g1, g2, g3, g4, g5, c0, hpF, upB, Qsa, Qdo, Q9, Q4, vw_I, Q3, g6, hLl6, hLi, g7, hz6, hLr, g8, g9, r0, r1, hAl, k1, k2, hps2, k3, hqs2, hq, Qaf, Qa9, Qa8, Qab, Qag, Qa4, Qcw, ↓Qc4, cutH, putB, Qad, Qa5, Qa2, Fam.step, Qae, Qci, Qay, Qb6, Qaq, ug, putB, nv, sv, Qcf, evO, opv, qv, Qak, binV, lenV, Qao, Qat, Qbe, Qb5, Qaa, Qa6, flat, Qdc, cutV, Qa1, Qa0, Qa3, ↓reduceIte, Nat.reduceEqDiff, Nat.reduceAdd, Nat.reduceLT, Qb, Qc, Qi, Qo, Qp, Qm, Zg, Zb, Za, Qd, Qk, Q2, Qh, Q7, Zd, endQ, rvs, rv1, resV, vw_i, vw_b, Qam, Qdm, zipA, beq_self_eq_true, Qn, Qj, Qw, Qf, Qq, Qa, Qg, decide_true, decide_false, and_self, forall_const, implies_true, reduceCtorEq, imp_self, Qe]
end Go.C10
