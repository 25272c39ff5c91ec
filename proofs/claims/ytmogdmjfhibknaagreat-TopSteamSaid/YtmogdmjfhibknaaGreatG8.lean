import Derived.Test.YtmogdmjfhibknaaGreatG4
import Derived.Test.YtmogdmjfhibknaaGreatChecked
import Derived.Test.YtmogdmjfhibknaaGreatG7
set_option linter.all false
open List renaming replicate → Qb, getElem?_eq_getElem → Qc, mem_of_getElem? → Qf, length_append → Qg, mem_append → Qh, getD_eq_getElem?_getD → Qi, length_replicate → Qj, contains_nil → Qk, contains_cons → Ql, range → Qn, flatten_append → Qo, getElem?_cons_zero → Qp, replicate_succ → Qs, isEmpty_cons → Qt, any_cons → Qw, map_append → Qy, range_zero → Qz, getElem?_cons_succ → Q0, map_cons → Q1, append_assoc → Q2, take_of_length_le → Q3, flatMap_nil → Q4, getElem?_set_ne → Q5, countP_eq_length_filter → Q6, map_nil → Q7, flatten_nil → Q8, length_map → Za, set_cons_zero → Zc, count_pos_iff → Zd, range_succ → Ze, nodup_nil → Zf, nil_append → Zh, append_nil → Zi, flatten_cons → Zl, mem_map → Zm, nodup_append → Zn, length_cons → Zo, length_take → Zp, take_length → Zq, mem_range → Zt, foldl_nil → Zu, mem_singleton → Zw, length_range → Zy, all_cons → Zz, idxOf_lt_length_iff → Z1, getElem_mem → Z2, drop_eq_nil_of_le → Z3, all_nil → Z4, map_map → Z5, getElem?_set_self → Z6, count_cons → Z7, nodup_cons → Z8, length_filter_le → Z9, countP_mono_left → Xa, drop_zero → Xc, idxOf_eq_length → Xd, mem_of_mem_take → Xe, replicate_zero → Xg, mem_cons → Xh, map_id'' → Xi, getElem?_nil → Xk, cons_append → Xm, isEmpty_nil → Xo, mem_flatMap → Xp, all_eq_true → Xq, countP_cons → Xr, length_nil → Xw, filter_nil → Xz
open Nat renaming le_refl → Qr, zero_add → Zk, le_trans → Zs, add_mul → Zx, zero_mul → Xj, zero_le → Xt, mul_one → Xu, min_le_left → Xv
open Bool renaming false_eq_true → Qa, true_and → Qu, and_eq_true → Qv, false_or → Qx, true_eq_false → Q9, and_self → Zg, and_false → Zv, or_false → Z0, not_eq_true → Xs, false_and → X0, not_false → X1
open Option renaming getD_some → Qq, some → Xf, getD_none → Xn, map_some → Xx, map_none → Xy
open Int renaming natCast_one → Qd, natCast_add → Qe, natCast_zero → Qm, toNat_natCast → Zb, natCast_nonneg → Zj, lt_irrefl → Zr, le_refl → Xb, zero_add → Xl
set_option maxRecDepth 8000
namespace Go.CS
open Go.Fam Go.Proofs
def rc40 : RC := (.seq (.reg false [(cQ 4 [] (.mv (.k (.z 1))))]) (.keep [0,1] (.seq (.seq (.reg false [(cMv 9 1), (cC 10 .lss 9 0)]) (.keep [0,1,10] (.cond (.t 10) .no .skip))) (.keep [0,1] (.seq (.reg false [(cMv 13 0), (cLn 14 13), (cQ 15 [14] (.cvk .u64 (.t 14))), (cMv 16 1), (cQ 17 [16] (.cvk .u64 (.t 16))), (cQ 18 [15,17] (.call (kF 67) [(.t 15), (.t 17)])), (cMv 12 18), (cEx 19 12 0), (cEx 20 12 1), (cMv 5 19), (cMv 6 20)]) (.keep [0,5,6] (.seq (.seq (.reg true [(cMv 21 5), (cQ 22 [21] (.bin .gtr (.t 21) (.k (.w .u64 0)))), (cMv 23 22), (gMv 24 23 false 6), (gQ 25 23 false [24] (.bin .gtr (.t 24) (.k (.w .u64 9223372036854775807)))), (cQ 26 [23,25] (.pick (.t 23) (kB true) (.t 25)))]) (.keep [0,6,26] (.cond (.t 26) .no .skip))) (.keep [0,6] (.seq (.reg false [(cMv 28 6), (cQ 29 [28] (.cvk .i64 (.t 28))), ⟨(some 30), none, [29,29], none, .w (.mks 1 [(.i 0)] (.t 29) (.t 29))⟩, (cMv 7 30)]) (.keep [0,7] (.seq (.reg false [(cMv 31 7), (cMv 32 0), ⟨(some 33), none, [31,32], none, .w (.cpy 1 (.t 31) (.t 32))⟩, (cMv 8 33)]) (.keep [7,8] (.seq (.block 0 (.loop [7,8] none (.seq (.seq (.reg false [(cMv 34 8), (cMv 35 7), (cLn 36 35), (cB 37 .lss 34 36)]) (.keep [7,8,37] (.cond (.t 37) .skip (.exit 0)))) (.keep [7,8] (.block 1 (.any false 0 [⟨(cMv 38 8), [], []⟩, ⟨(cMv 39 7), [], []⟩, ⟨(cMv 40 8), [], []⟩, ⟨(cQ 41 [39,40] (.slc 1 (.t 39) (some (.t 40)) none)), [], [1,2]⟩, ⟨(cMv 42 7), [], []⟩, ⟨(cMv 43 8), [], []⟩, ⟨(cQ 44 [42,43] (.slc 1 (.t 42) none (some (.t 43)))), [], [4,5]⟩, ⟨⟨(some 45), none, [41,44], none, .w (.cpy 1 (.t 41) (.t 44))⟩, [0], [3,1,2,6,4,5]⟩, ⟨(cB 46 .add 38 45), [], [0,7,3,1,2,6,4,5]⟩, ⟨(cMv 8 46), [], [8,0,7,3,1,2,6,4,5]⟩])))))) (.keep [7] (.seq (.reg false [(cMv 47 7), (cMv 4 47)]) .ret)))))))))))))))
def rs40 : List RV := [.t 4]
theorem cf40 : CF Tryz.prog Tryz.f40 [] 0 1 rc40 rs40 2 := ⟨by kernel_rfl, by kernel_rfl, by kernel_rfl, by decide⟩
def rc61 : RC := (.seq (.reg false [(cQ 4 [] (.mv (.k (.z 2))))]) (.keep [0,1] (.seq (.seq (.reg false [(cMv 9 1), (cC 10 .lss 9 0)]) (.keep [0,1,10] (.cond (.t 10) .no .skip))) (.keep [0,1] (.seq (.reg false [(cMv 13 0), (cLn 14 13), (cQ 15 [14] (.cvk .u64 (.t 14))), (cMv 16 1), (cQ 17 [16] (.cvk .u64 (.t 16))), (cQ 18 [15,17] (.call (kF 67) [(.t 15), (.t 17)])), (cMv 12 18), (cEx 19 12 0), (cEx 20 12 1), (cMv 5 19), (cMv 6 20)]) (.keep [0,5,6] (.seq (.seq (.reg true [(cMv 21 5), (cQ 22 [21] (.bin .gtr (.t 21) (.k (.w .u64 0)))), (cMv 23 22), (gMv 24 23 false 6), (gQ 25 23 false [24] (.bin .gtr (.t 24) (.k (.w .u64 9223372036854775807)))), (cQ 26 [23,25] (.pick (.t 23) (kB true) (.t 25)))]) (.keep [0,6,26] (.cond (.t 26) .no .skip))) (.keep [0,6] (.seq (.reg false [(cMv 28 6), (cQ 29 [28] (.cvk .i64 (.t 28))), ⟨(some 30), none, [29,29], none, .w (.mks 2 [(.i 0), (.i 0)] (.t 29) (.t 29))⟩, (cMv 7 30)]) (.keep [0,7] (.seq (.reg false [(cMv 31 7), (cMv 32 0), ⟨(some 33), none, [31,32], none, .w (.cpy 2 (.t 31) (.t 32))⟩, (cMv 8 33)]) (.keep [7,8] (.seq (.block 0 (.loop [7,8] none (.seq (.seq (.reg false [(cMv 34 8), (cMv 35 7), (cLn 36 35), (cB 37 .lss 34 36)]) (.keep [7,8,37] (.cond (.t 37) .skip (.exit 0)))) (.keep [7,8] (.block 1 (.any false 0 [⟨(cMv 38 8), [], []⟩, ⟨(cMv 39 7), [], []⟩, ⟨(cMv 40 8), [], []⟩, ⟨(cQ 41 [39,40] (.slc 2 (.t 39) (some (.t 40)) none)), [], [1,2]⟩, ⟨(cMv 42 7), [], []⟩, ⟨(cMv 43 8), [], []⟩, ⟨(cQ 44 [42,43] (.slc 2 (.t 42) none (some (.t 43)))), [], [4,5]⟩, ⟨⟨(some 45), none, [41,44], none, .w (.cpy 2 (.t 41) (.t 44))⟩, [0], [3,1,2,6,4,5]⟩, ⟨(cB 46 .add 38 45), [], [0,7,3,1,2,6,4,5]⟩, ⟨(cMv 8 46), [], [8,0,7,3,1,2,6,4,5]⟩])))))) (.keep [7] (.seq (.reg false [(cMv 47 7), (cMv 4 47)]) .ret)))))))))))))))
def rs61 : List RV := [.t 4]
theorem cf61 : CF Tryz.prog Tryz.f61 [] 0 1 rc61 rs61 2 := ⟨by kernel_rfl, by kernel_rfl, by kernel_rfl, by decide⟩
end Go.CS
set_option linter.all false
namespace Go.CS
open Go.Fam Go.Proofs
open Go.C06 (Span eI eIs Qbx gI gR dI Qbl Qcj fnG Qad Qab Qa6 Qa8 idxOf Qas Qaj Qal Qar Qai Qag Qac Qat Qb3 Qc5 vw_I Qay hmix eLI dLI Qca Qan Qa3 Qaa Qau)
variable {Γ : Gam}
theorem vw_w (hp : List Blk) (n : Nat) (k : IntKind) (a : Int) : vw hp (n + 1) (.w k a) = .w k a := rfl
theorem Qpn {α : Type} (m n : Nat) (a : α) : Qb (m + n) a = Qb m a ++ Qb n a := List.replicate_append_replicate.symm
def sMul : List V → Prop × V | [.w .u64 a, .w .u64 b] => ((0 ≤ a ∧ a ≤ 2147483648) ∧ 0 ≤ b ∧ b ≤ 2147483648, .tp [.w .u64 0, .w .u64 (a * b)]) | _ => (False, .u)
theorem Zb6 (vs : List V) (h : (sMul vs).1) : Qa5 Tryz.prog 67 vs (sMul vs).2 := by
 unfold sMul at h ⊢
 split at h
 ·rename_i a b
  obtain ⟨⟨h1, h2⟩, h3, h4⟩ := h
  obtain ⟨x, rfl⟩ : ∃ x : Nat, a = x := ⟨a.toNat, by omega⟩
  obtain ⟨y, rfl⟩ : ∃ y : Nat, b = y := ⟨b.toNat, by omega⟩
  have hxy : x * y ≤ 2147483648 * 2147483648 := Nat.mul_le_mul (by omega) (by omega)
  intro S w cargs hS hsz hr
  obtain ⟨c, d, rfl⟩ : ∃ c d, cargs = #[c, d] := by
   match cargs, hsz with
   | ⟨[a, b]⟩, _ => exact ⟨a, b, rfl⟩
  simp only [RepL, Rep, and_true] at hr
  obtain ⟨rfl, rfl⟩ := hr
  refine (Tryz.bits_Mul x y (by omega) (by omega) w).mono ?_
  rintro e w' ⟨rfl, rfl⟩
  refine ⟨_, rfl, ⟨⟨fun n hn => ⟨.inl hn, rfl⟩, fun _ _ _ h => nomatch h⟩, rfl, rfl, rfl, Qr _, fun _ _ => rfl, fun _ _ _ => rfl, (Evol.refl S w' noO).fresh, fun n hn => hn.elim .inl fun h => by omega⟩, ?_⟩
  have e1 : x * y / 18446744073709551616 = 0 := Nat.div_eq_of_lt (by omega)
  have e2 : x * y % 18446744073709551616 = x * y := Nat.mod_eq_of_lt (by omega)
  rw [e1, e2]
  simp only [Rep]
  exact ⟨_, rfl, rfl, by simp [RepL, Rep]⟩
 ·exact h.elim
noncomputable def K75 : Gam := (K74.ext 58 (fnG eH1 dH1 SmallS Qd0 .i)).ext 67 sMul
theorem Zal : GOk Tryz.prog K75 := (Zfl.ext (f := 58) (fun a w => Tryz.call58 a w) (Qad (e := eH1) (d := dH1) (ok := SmallS) (g := Qd0) (eb := .i) fun a h => W58 a h)).ext (f := 67) (r := sMul) (fun a w => Tryz.call67 a w) Zb6
theorem h67 (a b : Int) : K75 67 [.w .u64 a, .w .u64 b] = ((0 ≤ a ∧ a ≤ 2147483648) ∧ 0 ≤ b ∧ b ≤ 2147483648, .tp [.w .u64 0, .w .u64 (a * b)]) := rfl
theorem Qr1 {n : Int} (h : 0 ≤ n ∧ n ≤ 2147483648) : IntKind.u64.wrap n = n := IntWalk.u64_in n (by omega)
theorem Qyh {n : Int} (h : 0 ≤ n ∧ n ≤ 2147483648) : IntKind.i64.wrap n = n := Qiv (by unfold inI; omega)
def Qew (r z : List V) (n k : Nat) : List V := (Qb k r ++ Qb (n - k) z).flatten
theorem Qfe {es : Nat} {r : List V} (h : r.length = es) (k : Nat) : ((Qb k r).flatten).length = k * es := by
 rw [List.length_flatten, List.map_replicate, List.sum_replicate_nat, h]
theorem Qq4 {es : Nat} {r z : List V} (hr : r.length = es) (hz : z.length = es) {n k : Nat} (h : k ≤ n) : (Qew r z n k).length = n * es := by
 unfold Qew
 rw [Qo, Qg, Qfe hr, Qfe hz, ← Zx]
 congr 1; omega
theorem Qnz {es : Nat} {r z : List V} (hr : r.length = es) {n k m : Nat} (h : m ≤ k) : (Qew r z n k).take (m * es) = (Qb m r).flatten := by
 unfold Qew
 obtain ⟨j, rfl⟩ : ∃ j, k = m + j := ⟨k - m, by omega⟩
 rw [Qpn, Q2, Qo, List.take_append_of_le_length (by rw [Qfe hr]; exact Qr _), Q3 (by rw [Qfe hr]; exact Qr _)]
theorem Qny {es : Nat} {r z : List V} (hr : r.length = es) (hz : z.length = es) {n k m : Nat} (h : k + m ≤ n) : putAt (k * es) ((Qb m r).flatten) (Qew r z n k) = Qew r z n (k + m) := by
 unfold putAt
 rw [Qnz hr (Qr k)]
 have e : (Qew r z n k).drop (k * es + ((Qb m r).flatten).length) = (Qb (n - (k + m)) z).flatten := by
  rw [Qfe hr, ← Zx]
  unfold Qew
  rw [show n - k = m + (n - (k + m)) by omega, Qpn, ← Q2, Qo, List.drop_append_of_le_length, Z3, Zh]
  ·rw [Qo, Qg, Qfe hr, Qfe hz, Zx]; exact Qr _
  ·rw [Qo, Qg, Qfe hr, Qfe hz, Zx]; exact Qr _
 rw [e]
 unfold Qew
 rw [Qpn, Qo, Qo]
theorem Qyf (r z : List V) (n : Nat) : Qew r z n 0 = (Qb n z).flatten := by simp [Qew]
theorem Qq3 (r z : List V) (n : Nat) : Qew r z n n = (Qb n r).flatten := by simp [Qew]
theorem Qlp (r z : List V) (es n : Nat) (hr : r.length = es) (hz : z.length = es) : putAt 0 (r.take (min 1 n * es)) (Qew r z n 0) = Qew r z n (min 1 n) := by
 have h := Qny (m := min 1 n) (k := 0) (n := n) hr hz (by omega)
 rw [Xj, Zk] at h
 rw [← h]
 congr 1
 cases n with
 | zero => simp
 | succ n =>
  have : min 1 (n + 1) = 1 := by omega
  rw [this, Nat.one_mul, Q3 (by omega)]; simp
theorem Qlq (r z : List V) (es n k : Nat) (hr : r.length = es) (hz : z.length = es) (hk : k < n) : putAt (k * es) (((Qew r z n k).take (k * es)).take (min k (n - k) * es)) (Qew r z n k) = Qew r z n (k + min k (n - k)) := by
 rw [List.take_take, Nat.min_eq_left (Nat.mul_le_mul_right _ (Xv _ _)), Qnz hr (Xv _ _), Qny hr hz (by omega)]
theorem W40 (x : Int) (n : Nat) (h : n ≤ 1000000) : Qdb Tryz.prog 40 [.sl 1 [[.i x]], .i n] (.rf 0 0 0 n 1) [.cells 0 (Qb n [V.i x]).flatten] := by
 refine Qhp Zal hmix Tryz.func40 cf40.b cf40.c cf40.s cf40.n ?_
 have h0 : ¬ ((n : Int) < 0) := by omega
 have u1 : IntKind.u64.wrap 1 = 1 := Qr1 (by omega)
 have u2 : IntKind.u64.wrap (n : Int) = n := Qr1 (by omega)
 have u3 : IntKind.i64.wrap (n : Int) = n := Qyh (by omega)
 have b1 : (0 : Int) ≤ n ∧ (n : Int) ≤ 2147483648 := by omega
 have b2 : ¬ ((9223372036854775807 : Int) < n) := by omega
 have f1 := Qyf [V.i x] [V.i 0] n
 have f2 := Qlp [V.i x] [V.i 0] 1 n rfl rfl
 have f3 := fun k (hk : k ≤ n) => Qq4 (es := 1) (r := [V.i x]) (z := [V.i 0]) (n := n) rfl rfl hk
 have f4 := fun k (hk : k < n) => Qlq [V.i x] [V.i 0] 1 n k rfl rfl hk
 have f5 := Qq3 [V.i x] [V.i 0] n
 simp only [rc40, rs40, h0, Qd, vw_w, cvkV, mkI, u1, u2, u3, h67, b1, b2, Int.one_mul, ← f1, f2, f3 0 (Xt _), Xb, Qr, Zl, Q8, Ql0, Qky, Qkz, Qkv, Qhs, Qh6, putB, Qfr, Qa0, Qff, Fam.step, Qgp, Qlc, Qkh, Qc2, Qd6, ug, putB, nv, sv, Qbt, evO, opv, qv, Qhq, binV, binW, lenV, Qr9, Qa2, Qa1, flat, Qc4, Qfi, Qcz, Qfa, ↓reduceIte, Nat.reduceEqDiff, Nat.reduceAdd, Nat.reduceLT, Int.reduceLE, Q1, Q7, Zz, Z4, Zo, Xw, Zh, Zi, Qp, Q0, Qq, Zc, zipA, Zr, beq_self_eq_true, Zk, Zg, Z0, Qa, decide_false, true_and, and_self, forall_const, implies_true, reduceCtorEq, Zb]
 refine Qkw (fun j σ => ∃ k : Nat, (k ≤ n ∧ j = n - k ∧ (k = 0 → n = 0)) ∧ σ = ⟨lkp [(7, .rf 0 0 0 n 1), (8, .i k)], [.cells 0 (Qew [V.i x] [V.i 0] n k)]⟩) ⟨n - min 1 n, min 1 n, ⟨by omega, rfl, by omega⟩, ?_⟩ ?_
 ·simp only [kp, Qcz, Qfa, ↓reduceIte, Nat.reduceEqDiff, Q1, Q7]
 ·rintro j _ ⟨k, ⟨hk, rfl, hk0⟩, rfl⟩
  by_cases hlt : (k : Int) < n
  ·have hkn : k < n := by omega
   have c1 : 0 < (k : Int) := by omega
   have i1 : inI ((k : Int) + (min k (n - k) : Nat)) := by unfold inI; omega
   have e1 : (k : Int) + (min k (n - k) : Nat) = ((k + min k (n - k) : Nat) : Int) := by omega
   rw [e1] at i1
   have c2 : k * 1 + (n - k) * 1 ≤ n * 1 := by omega
   have c3 : k * 1 ≤ n * 1 := by omega
   have c4 : (k : Int) ≤ n := by omega
   simp only [hlt, c1, c4, Xb, Zj, f3 k hk, c2, c3, Nat.sub_zero, Xj, f4 k hkn, i1, e1, Zb, Ql0, Qky, Qu5, Qkz, Qkv, Qhs, Qh6, Qaq, optL, Qfr, Qh9, Qa0, Qff, Fam.step, Qgp, Qc2, runX, eff, Qb4, fpR, fpQ, fpV, Ql8, hits, nv, sv, Qbt, evO, opv, qv, binV, lenV, slcV, Qfo, kp, Qfi, Qcz, Qfa, ↓reduceIte, Nat.reduceEqDiff, Int.toNat_zero, Q1, Q7, Zz, Z4, Xc, Xm, Zh, Zi, Qp, Xk, Qq, Xn, Zc, Xg, Xo, Qt, Zj, Zk, Nat.add_zero, Zg, Bool.and_true, Qu, X0, Z0, Bool.not_true, X1, decide_true, true_and, and_self, Xx, Xy, Qw, List.any_nil, Ql, Qk, Zb, Qi]
   exact ⟨n - (k + min k (n - k)), by omega, k + min k (n - k), ⟨by omega, rfl, by omega⟩, rfl⟩
  ·obtain rfl : k = n := by omega
   have hlt' : ¬ ((k : Int) < k) := by omega
   simp only [hlt', f5, Qky, Qkz, Qkv, Qpo, Qu7, Qh6, endO, Qfr, Qh9, Qa0, Qff, Fam.step, Qgp, evO, opv, qv, binV, lenV, kp, Qfi, Qcz, Qfa, ↓reduceIte, Nat.reduceEqDiff, Q1, Q7, Qp, rvs, rv1, resV, Qa, decide_false, and_self]
theorem W61 (x y : Int) (n : Nat) (h : n ≤ 1000000) : Qdb Tryz.prog 61 [.sl 2 [[.i x, .i y]], .i n] (.rf 0 0 0 n 2) [.cells 0 (Qb n [V.i x, V.i y]).flatten] := by
 refine Qhp Zal hmix Tryz.func61 cf61.b cf61.c cf61.s cf61.n ?_
 have h0 : ¬ ((n : Int) < 0) := by omega
 have u1 : IntKind.u64.wrap 1 = 1 := Qr1 (by omega)
 have u2 : IntKind.u64.wrap (n : Int) = n := Qr1 (by omega)
 have u3 : IntKind.i64.wrap (n : Int) = n := Qyh (by omega)
 have b1 : (0 : Int) ≤ n ∧ (n : Int) ≤ 2147483648 := by omega
 have b2 : ¬ ((9223372036854775807 : Int) < n) := by omega
 have f1 := Qyf [V.i x, V.i y] [V.i 0, V.i 0] n
 have f2 := Qlp [V.i x, V.i y] [V.i 0, V.i 0] 2 n rfl rfl
 have f3 := fun k (hk : k ≤ n) => Qq4 (es := 2) (r := [V.i x, V.i y]) (z := [V.i 0, V.i 0]) (n := n) rfl rfl hk
 have f4 := fun k (hk : k < n) => Qlq [V.i x, V.i y] [V.i 0, V.i 0] 2 n k rfl rfl hk
 have f5 := Qq3 [V.i x, V.i y] [V.i 0, V.i 0] n
 simp only [rc61, rs61, h0, Qd, vw_w, cvkV, mkI, u1, u2, u3, h67, b1, b2, Int.one_mul, ← f1, f2, f3 0 (Xt _), Xb, Qr, Zl, Q8, Ql0, Qky, Qkz, Qkv, Qhs, Qh6, putB, Qfr, Qa0, Qff, Fam.step, Qgp, Qlc, Qkh, Qc2, Qd6, ug, putB, nv, sv, Qbt, evO, opv, qv, Qhq, binV, binW, lenV, Qr9, Qa2, Qa1, flat, Qc4, Qfi, Qcz, Qfa, ↓reduceIte, Nat.reduceEqDiff, Nat.reduceAdd, Nat.reduceLT, Int.reduceLE, Q1, Q7, Zz, Z4, Zo, Xw, Zh, Zi, Qp, Q0, Qq, Zc, zipA, Zr, beq_self_eq_true, Zk, Zg, Z0, Qa, decide_false, true_and, and_self, forall_const, implies_true, reduceCtorEq, Zb]
 refine Qkw (fun j σ => ∃ k : Nat, (k ≤ n ∧ j = n - k ∧ (k = 0 → n = 0)) ∧ σ = ⟨lkp [(7, .rf 0 0 0 n 2), (8, .i k)], [.cells 0 (Qew [V.i x, V.i y] [V.i 0, V.i 0] n k)]⟩) ⟨n - min 1 n, min 1 n, ⟨by omega, rfl, by omega⟩, ?_⟩ ?_
 ·simp only [kp, Qcz, Qfa, ↓reduceIte, Nat.reduceEqDiff, Q1, Q7]
 ·rintro j _ ⟨k, ⟨hk, rfl, hk0⟩, rfl⟩
  by_cases hlt : (k : Int) < n
  ·have hkn : k < n := by omega
   have c1 : 0 < (k : Int) := by omega
   have i1 : inI ((k : Int) + (min k (n - k) : Nat)) := by unfold inI; omega
   have e1 : (k : Int) + (min k (n - k) : Nat) = ((k + min k (n - k) : Nat) : Int) := by omega
   rw [e1] at i1
   have c2 : k * 2 + (n - k) * 2 ≤ n * 2 := by omega
   have c3 : k * 2 ≤ n * 2 := by omega
   have c4 : (k : Int) ≤ n := by omega
   simp only [hlt, c1, c4, Xb, Zj, f3 k hk, c2, c3, Nat.sub_zero, Xj, f4 k hkn, i1, e1, Zb, Ql0, Qky, Qu5, Qkz, Qkv, Qhs, Qh6, Qaq, optL, Qfr, Qh9, Qa0, Qff, Fam.step, Qgp, Qc2, runX, eff, Qb4, fpR, fpQ, fpV, Ql8, hits, nv, sv, Qbt, evO, opv, qv, binV, lenV, slcV, Qfo, kp, Qfi, Qcz, Qfa, ↓reduceIte, Nat.reduceEqDiff, Int.toNat_zero, Q1, Q7, Zz, Z4, Xc, Xm, Zh, Zi, Qp, Xk, Qq, Xn, Zc, Xg, Xo, Qt, Zj, Zk, Nat.add_zero, Zg, Bool.and_true, Qu, X0, Z0, Bool.not_true, X1, decide_true, true_and, and_self, Xx, Xy, Qw, List.any_nil, Ql, Qk, Zb, Qi]
   exact ⟨n - (k + min k (n - k)), by omega, k + min k (n - k), ⟨by omega, rfl, by omega⟩, rfl⟩
  ·obtain rfl : k = n := by omega
   have hlt' : ¬ ((k : Int) < k) := by omega
   simp only [hlt', f5, Qky, Qkz, Qkv, Qpo, Qu7, Qh6, endO, Qfr, Qh9, Qa0, Qff, Fam.step, Qgp, evO, opv, qv, binV, lenV, kp, Qfi, Qcz, Qfa, ↓reduceIte, Nat.reduceEqDiff, Q1, Q7, Qp, rvs, rv1, resV, Qa, decide_false, and_self]
end Go.CS
set_option maxRecDepth 8000
namespace Go.CS
open Go.Fam Go.Proofs
def rc34 : RC := (.seq (.reg false [(cX 2 0), (cQ 4 [] (.mv (.k .pn))), (cI 5 0)]) (.keep [1,2] (.seq (.seq (.reg false [(cLd 20 2 true 9), (cQ 21 [20] (.call (kF 58) [(.t 20)])), (cMv 6 21)]) (.keep [1,2,6] (.seq (.reg false [(cMv 22 6), (cC 23 .neq 22 0)]) (.keep [1,2,6,23] (.cond (.t 23) (.seq (.reg false [(cMv 24 6), (cQ 4 [] (.mv (.k .pn))), (cMv 5 24)]) .ret) .skip))))) (.keep [1,2] (.seq (.seq (.reg false [(cMv 25 1), (cN 26 25)]) (.keep [2,26] (.cond (.t 26) (.seq (.reg false [(cQ 4 [] (.mv (.k .pn))), (cI 5 1)]) .ret) .skip))) (.keep [2] (.seq (.reg false [(cLd 27 2 true 9), ⟨(some 28), none, [], none, .w (.mkm true)⟩, (cQ 29 [27,28] (.bld [(.z 4), (.z 1), (.i 0), (.z 4), (.z 1), (.z 5), (.z 6), (.z 3), (.i 0), (.z 2), .u] [(0,9, (.t 27)), (10,1, (.t 28))])), ⟨(some 30), none, [29], none, .w (.bxo (.t 29))⟩, (cMv 7 30)]) (.keep [2,7] (.seq (.seq (.reg false [(cFa 31 2 4), (cLd 32 31 false 1), (cLn 33 32), (cC 34 .gtr 33 0)]) (.keep [2,7,34] (.cond (.t 34) (.seq (.reg false [(cFa 36 2 0), (cLd 37 36 true 4), (cQ 38 [37] (.call (kF 59) [(.t 37), (kI 0)])), (cMv 35 38), (cEx 39 35 0), (cEx 40 35 1), ⟨(some 8), none, [], none, .w (.alc [(.i 0), (.i 0)])⟩, ⟨none, none, [8,39], none, .w (.st 2 (.t 8) (.t 39))⟩, (cMv 9 40)]) (.keep [2,7,9] (.seq (.reg false [(cMv 41 9), (cC 42 .neq 41 0)]) (.keep [2,7,9,42] (.cond (.t 42) (.seq (.reg false [(cMv 43 9), (cQ 4 [] (.mv (.k .pn))), (cMv 5 43)]) .ret) .skip))))) .skip))) (.keep [2,7] (.seq (.seq (.drp 2 (.reg false [(cFa 44 2 4), (cLd 45 44 false 1), (cLn 46 45), (cI 47 0)])) (.keep [2,7,46,47] (.block 0 (.loop [2,7,46,47] (some 2) (.seq (.reg false [(cB 48 .lss 47 46)]) (.keep [2,7,46,47,48] (.seq (.cond (.t 48) .skip (.exit 0)) (.keep [2,7,46,47] (.seq (.block 1 (.seq (.reg false [(cMv 49 47), (cMv 10 49)]) (.keep [2,7,10,46,47] (.seq (.reg false [(cFa 50 2 0), (cFa 51 50 1), (cLd 52 51 false 1), (cLn 53 52), (cI 54 0)]) (.keep [2,7,10,46,47,52,53,54] (.block 2 (.loop [2,7,10,46,47,52,53,54] (some 2) (.seq (.reg false [(cB 55 .lss 54 53)]) (.keep [2,7,10,46,47,52,53,54,55] (.seq (.cond (.t 55) .skip (.exit 2)) (.keep [2,7,10,46,47,52,53,54] (.seq (.block 3 (.seq (.reg false [(cMv 56 54), (cA 57 1 52 54), (cLd 58 57 true 1), ⟨(some 12), none, [], none, .w (.alc [(.z 4)])⟩, (cMv 11 56), ⟨none, none, [12,58], none, .w (.st 1 (.t 12) (.t 58))⟩]) (.keep [2,7,10,11,12,46,47,52,53,54] (.seq (.reg false [(cFa 59 12 0), (cLd 60 59 false 1), (cLn 61 60), (cI 62 0)]) (.keep [2,7,10,11,46,47,52,53,54,61,62] (.block 4 (.loop [2,7,10,11,46,47,52,53,54,61,62] none (.seq (.reg false [(cB 63 .lss 62 61)]) (.keep [2,7,10,11,46,47,52,53,54,61,62,63] (.seq (.cond (.t 63) .skip (.exit 4)) (.keep [2,7,10,11,46,47,52,53,54,61,62] (.seq (.block 5 (.seq (.reg false [(cMv 64 62), (cMv 13 64)]) (.keep [2,7,10,11,13,46,47,52,53,54,61,62] (.seq (.reg false [(cFa 66 2 0), (cLd 67 66 true 4), (cMv 68 10), (cMv 69 11), (cMv 70 13), (cQ 71 [67,68,69,70] (.call (kF 60) [(.t 67), (.t 68), (.t 69), (.t 70)])), (cMv 65 71), (cEx 72 65 0), (cEx 73 65 1), (cMv 14 72), (cMv 15 73)]) (.keep [2,7,10,11,13,14,46,47,52,53,54,61,62] (.seq (.reg false [(cMv 74 14), (cC 75 .eql 74 1)]) (.keep [2,7,10,11,13,46,47,52,53,54,61,62,75] (.cond (.t 75) (.any false 0 [⟨(cMv 76 7), [], []⟩, ⟨(cZ 77 76), [], [0]⟩, ⟨(cFa 78 77 10), [], [1,0]⟩, ⟨(cLd 79 78 false 1), [], [2,1,0]⟩, ⟨(cMv 80 10), [], []⟩, ⟨(cMv 81 11), [], []⟩, ⟨(cMv 82 13), [], []⟩, ⟨(cQ 83 [80,81,82] (.bld [(.i 0), (.i 0), (.i 0)] [(0,1, (.t 80)), (1,1, (.t 81)), (2,1, (.t 82))])), [], [4,5,6]⟩, ⟨(cQ 84 [79,83] (.lkp (.i 0) false 117 true (.t 79) (.t 83))), [], [3,2,1,0,7,4,5,6]⟩, ⟨(cC 85 .add 84 1), [], [8,3,2,1,0,7,4,5,6]⟩, ⟨⟨(some 86), none, [79,83], none, .w (.men 117 true (.i 0) (.t 79) (.t 83))⟩, [9], [3,2,1,0,7,4,5,6]⟩, ⟨(cEx 87 86 1), [], [10,3,2,1,0,7,4,5,6]⟩, ⟨⟨none, none, [79,87,85], none, .w (.mes (.t 79) (.t 87) (.t 85))⟩, [], [3,2,1,0,11,10,7,4,5,6,9,8]⟩]) .skip)))))))) (.keep [2,7,10,11,46,47,52,53,54,61,62] (.reg false [(cC 88 .add 62 1), (cMv 62 88)])))))))))))))) (.drp 2 (.keep [2,7,10,46,47,52,53,54] (.reg false [(cC 89 .add 54 1), (cMv 54 89)]))))))))))))))) (.drp 2 (.keep [2,7,46,47] (.reg false [(cC 90 .add 47 1), (cMv 47 90)])))))))))))) (.keep [2,7] (.seq (.seq (.reg false [(cFa 91 2 4), (cLd 92 91 false 1), (cLn 93 92), (cI 94 0)]) (.keep [2,7,92,93,94] (.block 6 (.ownc 7 9 2 (.loop [2,7,92,93,94] (some 3) (.seq (.reg false [(cB 95 .lss 94 93)]) (.keep [2,7,92,93,94,95] (.seq (.cond (.t 95) .skip (.exit 6)) (.keep [2,7,92,93,94] (.seq (.block 7 (.seq (.reg false [(cMv 96 94), (cA 97 1 92 94), (cLd 98 97 false 1), (cMv 16 96), (cMv 17 98)]) (.keep [2,7,16,17,92,93,94] (.any false 2 [⟨(cMv 99 7), [], []⟩, ⟨(cMv 100 7), [], []⟩, ⟨(cZ 101 100), [], [1]⟩, ⟨(cFa 102 101 9), [], [2,1]⟩, ⟨(cLd 103 102 false 1), [], [3,2,1]⟩, ⟨(cMv 104 16), [], []⟩, ⟨(cQ 105 [104] (.bld [(.i 0), (.i 0)] [(0,1, (.t 104)), (1,1, (kI 0))])), [], [5]⟩, ⟨(cQ 106 [105] (.bsl 2 1 [(.i 0), (.i 0)] [(0,2, (.t 105))])), [], [6,5]⟩, ⟨(cMv 107 17), [], []⟩, ⟨⟨(some 108), none, [106,107], (some 0), .o (kF 61) [(.t 106), (.t 107)]⟩, [0,1,2,3,4], [7,6,5,8]⟩, ⟨⟨(some 109), none, [103,108], (some 1), .w (.app 2 (.t 103) (.t 108))⟩, [0], [4,3,2,1,9,7,6,5,8]⟩, ⟨(cZ 110 99), [], [0,1,2,3,4,5,6,7,8,9,10]⟩, ⟨(cFa 111 110 9), [], [11,0,1,2,3,4,5,6,7,8,9,10]⟩, ⟨⟨none, none, [111,109], none, .w (.st 1 (.t 111) (.t 109))⟩, [], [12,11,0,1,2,3,4,5,6,7,8,9,10]⟩])))) (.drp 3 (.keep [2,7,92,93,94] (.reg false [(cC 112 .add 94 1), (cMv 94 112)]))))))))))))) (.keep [2,7] (.seq (.seq (.reg false [(cFa 113 2 7), (cLd 114 113 false 1), (cLn 115 114), (cI 116 0)]) (.keep [7,114,115,116] (.block 8 (.loop [7,114,115,116] (some 3) (.seq (.reg false [(cB 117 .lss 116 115)]) (.keep [7,114,115,116,117] (.seq (.cond (.t 117) .skip (.exit 8)) (.keep [7,114,115,116] (.seq (.block 9 (.seq (.reg false [(cA 118 3 114 116), (cLd 119 118 true 3), ⟨(some 19), none, [], none, .w (.alc [(.i 0), (.i 0), (.i 0)])⟩, ⟨none, none, [19,119], none, .w (.st 3 (.t 19) (.t 119))⟩]) (.keep [7,19,114,115,116] (.any false 2 [⟨(cMv 120 7), [], []⟩, ⟨(cMv 121 7), [], []⟩, ⟨(cZ 122 121), [], [1]⟩, ⟨(cFa 123 122 9), [], [2,1]⟩, ⟨(cLd 124 123 false 1), [], [3,2,1]⟩, ⟨(cFa 125 19 1), [], []⟩, ⟨(cLd 126 125 false 1), [], [5]⟩, ⟨(cFa 127 19 0), [], []⟩, ⟨(cLd 128 127 false 1), [], [7]⟩, ⟨(cQ 129 [126,128] (.bld [(.i 0), (.i 0)] [(0,1, (.t 126)), (1,1, (.t 128))])), [], [6,5,8,7]⟩, ⟨(cQ 130 [129] (.bsl 2 1 [(.i 0), (.i 0)] [(0,2, (.t 129))])), [], [9,6,5,8,7]⟩, ⟨(cFa 131 19 2), [], []⟩, ⟨(cLd 132 131 false 1), [], [11]⟩, ⟨⟨(some 133), none, [130,132], (some 0), .o (kF 61) [(.t 130), (.t 132)]⟩, [0,1,2,3,4], [10,9,6,5,8,7,12,11]⟩, ⟨⟨(some 134), none, [124,133], (some 1), .w (.app 2 (.t 124) (.t 133))⟩, [0], [4,3,2,1,13,10,9,6,5,8,7,12,11]⟩, ⟨(cZ 135 120), [], [0,1,2,3,4,5,6,7,8,9,10,11,12,13,14]⟩, ⟨(cFa 136 135 9), [], [15,0,1,2,3,4,5,6,7,8,9,10,11,12,13,14]⟩, ⟨⟨none, none, [136,134], none, .w (.st 1 (.t 136) (.t 134))⟩, [], [16,15,0,1,2,3,4,5,6,7,8,9,10,11,12,13,14]⟩])))) (.drp 3 (.keep [7,114,115,116] (.reg false [(cC 137 .add 116 1), (cMv 116 137)])))))))))))) (.keep [7] (.seq (.reg false [(cMv 138 7), (cMv 4 138), (cI 5 0)]) .ret)))))))))))))))))
def rs34 : List RV := [.t 4, .t 5]
theorem cf34 : CF Tryz.prog Tryz.f34 [1000108,1000133,2,106,130] 0 1 rc34 rs34 2 := ⟨by kernel_rfl, by kernel_rfl, by kernel_rfl, by decide⟩
end Go.CS
set_option linter.all false
namespace Go.CS
open Go.Fam Go.Proofs
open Go.C06 (Span eI eIs Qbx gI gR dI Qbl Qcj fnG Qad Qab Qa6 Qa8 idxOf Qas Qaj Qal Qar Qai Qag Qac Qat Qb3 Qc5 vw_I Qay hmix eLI dLI Qca Qan Qa3 Qaa Qau)
variable {Γ : Gam}
def s61 : List V → Prop × V | [.sl 2 [[.i x, .i y]], .i n] => (0 ≤ n ∧ n ≤ 1000000, .tp [.rf 0 0 0 n.toNat 2, .tp [bV (.cells 0 (Qb n.toNat [V.i x, V.i y]).flatten)]]) | _ => (False, .u)
theorem Zgg (xs : List V) (v : V) (bs : List V) (h : (s61 xs).1) (h2 : (s61 xs).2 = .tp [v, .tp bs]) : Qdb Tryz.prog 61 xs v (bs.map vB) := by
 unfold s61 at h h2
 split at h
 ·rename_i x y n
  simp only [V.tp.injEq, List.cons.injEq, and_true] at h2
  obtain ⟨rfl, rfl⟩ := h2
  have hn : n = (n.toNat : Int) := by omega
  have := W61 x y n.toNat (by omega)
  rw [← hn] at this
  simpa only [Q1, Q7, Qa9] using this
 ·exact h.elim
def s40 : List V → Prop × V | [.sl 1 [[.i x]], .i n] => (0 ≤ n ∧ n ≤ 1000000, .tp [.rf 0 0 0 n.toNat 1, .tp [bV (.cells 0 (Qb n.toNat [V.i x]).flatten)]]) | _ => (False, .u)
theorem Zge (xs : List V) (v : V) (bs : List V) (h : (s40 xs).1) (h2 : (s40 xs).2 = .tp [v, .tp bs]) : Qdb Tryz.prog 40 xs v (bs.map vB) := by
 unfold s40 at h h2
 split at h
 ·rename_i x n
  simp only [V.tp.injEq, List.cons.injEq, and_true] at h2
  obtain ⟨rfl, rfl⟩ := h2
  have hn : n = (n.toNat : Int) := by omega
  have := W40 x n.toNat (by omega)
  rw [← hn] at this
  simpa only [Q1, Q7, Qa9] using this
 ·exact h.elim
theorem Zga (n : Nat) (x : Int) : Qb n [V.i x] = (Qb n x).map eI := by simp [eI]
def p40 : List V → Prop × V | [.sl 1 [[.i x]], .i n] => (0 ≤ n ∧ n ≤ 1000000, .sl 1 ((Qb n.toNat x).map eI)) | _ => (False, .u)
theorem Zg0 (xs : List V) (h : (p40 xs).1) : Qa5 Tryz.prog 40 xs (p40 xs).2 := by
 unfold p40 at h ⊢
 split at h
 ·rename_i x n
  have hn : n = (n.toNat : Int) := by omega
  have := (W40 x n.toNat (by omega)).toPure
  rw [← hn, Zga] at this
  have e : vw [.cells 0 ((Qb n.toNat x).map eI).flatten] 8 (.rf 0 0 0 n.toNat 1) = .sl 1 ((Qb n.toNat x).map eI) := by
   have h1 := Qb3 (Qb n.toNat x)
   have h2 := Qc5 (Qb n.toNat x)
   rw [Qj] at h1 h2
   simp only [h2, Xu, Qr, h1, vw_I, ↓reduceIte, Qp, Qdk, Zk, and_self]
  rw [e] at this
  exact this
 ·exact h.elim
noncomputable def K76 : Gam := ((K75.ext 1000061 s61).ext 1000040 s40).ext 40 p40
theorem Zfm : GOk Tryz.prog K76 := ((Zal.extO (f := 61) (r := s61) (fun a w => Tryz.call61 a w) Zgg).extO (f := 40) (r := s40) (fun a w => Tryz.call40 a w) Zge).ext (f := 40) (r := p40) (fun a w => Tryz.call40 a w) Zg0
theorem h61 (x y n : Int) : K76 1000061 [.sl 2 [[.i x, .i y]], .i n] = (0 ≤ n ∧ n ≤ 1000000, .tp [.rf 0 0 0 n.toNat 2, .tp [bV (.cells 0 (Qb n.toNat [V.i x, V.i y]).flatten)]]) := rfl
theorem h40o (x n : Int) : K76 1000040 [.sl 1 [[.i x]], .i n] = (0 ≤ n ∧ n ≤ 1000000, .tp [.rf 0 0 0 n.toNat 1, .tp [bV (.cells 0 (Qb n.toNat [V.i x]).flatten)]]) := rfl
theorem h40 (x n : Int) : K76 40 [.sl 1 [[.i x]], .i n] = (0 ≤ n ∧ n ≤ 1000000, .sl 1 ((Qb n.toNat x).map eI)) := rfl
theorem h58 (s : Shop) : K76 58 [.ag (Qae s)] = (SmallS s, .i (Qd0 s)) := (show K76 58 _ = fnG eH1 dH1 SmallS Qd0 .i (eH1 s) from rfl).trans (Qab _ (Qnt s))
theorem Zbs (w : Work) (i : Int) : K76 59 [.ag (Qa7 w), .i i] = (SmallW w, Qfz w i) := h59 w i
theorem Qy2 (w : Work) (i m k : Int) : K76 60 [.ag (Qa7 w), .i i, .i m, .i k] = (SmallW w, Qmm w i m k) := h60 w i m k
theorem Qwq : Qb1 Tryz.prog 117 3 := Qb1.of (fs := _) (show Tryz.prog.underlying 117 = some (.struct (Tryz.prog.fieldsOf 117)) by kernel_rfl) (by kernel_rfl) (by kernel_rfl)
def cntM (xs : List (List Int)) : AM Int := xs.foldl (fun m k => aput m k ((aget m k).getD 0 + 1)) []
theorem Qfv (xs : List (List Int)) (k : List Int) : cntM (xs ++ [k]) = aput (cntM xs) k ((aget (cntM xs) k).getD 0 + 1) := by simp [cntM]
theorem Qll (xs : List (List Int)) : (aks (cntM xs)).Nodup := Qbo (p := fun xs => (aks (cntM xs)).Nodup) (by simp [cntM, aks]) (fun l a h => by rw [Qfv]; exact Qng h _ _) xs
theorem Qmd (xs : List (List Int)) (h3 : ∀ k ∈ xs, k.length = 3) : ∀ k ∈ aks (cntM xs), k.length = 3 := by
 revert h3
 refine Qbo (p := fun xs => (∀ k ∈ xs, k.length = 3) → ∀ k ∈ aks (cntM xs), k.length = 3) (fun _ => by simp [cntM, aks]) (fun l a ih h k hk => ?_) xs
 rw [Qfv, Qi5, Qmy] at hk
 rcases hk with hk | rfl
 ·exact ih (fun k hk => h k (by simp [hk])) k hk
 ·exact h _ (by simp)
theorem Qq0 (xs : List (List Int)) : ∀ k, (k ∈ xs → ∃ n : Int, 1 ≤ n ∧ n ≤ xs.length ∧ aget (cntM xs) k = some n) ∧ (k ∉ xs → aget (cntM xs) k = none) := by
 refine Qbo (p := fun xs => ∀ k, (k ∈ xs → ∃ n : Int, 1 ≤ n ∧ n ≤ xs.length ∧ aget (cntM xs) k = some n) ∧ (k ∉ xs → aget (cntM xs) k = none)) (fun k => by simp [cntM, aget]) (fun l a ih k => ?_) xs
 rw [Qfv, Qm9]
 by_cases e : k = a
 ·subst e
  refine ⟨fun _ => ?_, fun h => absurd (by simp) h⟩
  rw [if_pos rfl]
  by_cases hk : k ∈ l
  ·obtain ⟨n, h1, h2, h3⟩ := (ih k).1 hk
   refine ⟨n + 1, by omega, by simp; omega, by rw [h3]; rfl⟩
  ·rw [(ih k).2 hk]
   exact ⟨1, by omega, by simp; omega, rfl⟩
 ·rw [if_neg e]
  refine ⟨fun h => ?_, fun h => (ih k).2 fun h' => h (by simp [h'])⟩
  have hk : k ∈ l := by
   rcases Qh.1 h with h | h
   ·exact h
   ·simp at h; exact absurd h e
  obtain ⟨n, h1, h2, h3⟩ := (ih k).1 hk
  exact ⟨n, h1, by simp; omega, h3⟩
def kK (w : Work) (i m : Int) (k : Nat) : List (List Int) := ((Qn k).filter fun (j : Nat) => decide (fitN w i m (j : Int) = 1)).map fun (j : Nat) => [i, m, (j : Int)]
def kM (w : Work) (i : Int) (m : Nat) : List (List Int) := (Qn m).flatMap fun (a : Nat) => kK w i (a : Int) (Qbm w (a : Int)).length
def kTI (w : Work) (n : Nat) : List (List Int) := (Qn n).flatMap fun (i : Nat) => kM w (i : Int) w.makes.length
theorem Qsz (w : Work) (i m : Int) (k : Nat) : kK w i m (k + 1) = if fitN w i m (k : Int) = 1 then kK w i m k ++ [[i, m, (k : Int)]] else kK w i m k := by
 unfold kK
 rw [Ze, List.filter_append, Qy]
 by_cases h : fitN w i m (k : Int) = 1 <;> simp [h]
theorem Qt1 (w : Work) (i : Int) (m : Nat) : kM w i (m + 1) = kM w i m ++ kK w i (m : Int) (Qbm w (m : Int)).length := by simp [kM, Ze]
theorem Qsx (w : Work) (n : Nat) : kTI w (n + 1) = kTI w n ++ kM w (n : Int) w.makes.length := by simp [kTI, Ze]
theorem kK_3 {w : Work} {i m : Int} {k : Nat} : ∀ x ∈ kK w i m k, x.length = 3 := by
 intro x hx
 unfold kK at hx
 obtain ⟨j, _, rfl⟩ := Zm.1 hx
 rfl
theorem kM_3 {w : Work} {i : Int} {m : Nat} : ∀ x ∈ kM w i m, x.length = 3 := by
 intro x hx
 obtain ⟨j, _, h⟩ := Xp.1 hx
 exact kK_3 x h
theorem kI_3 {w : Work} {n : Nat} : ∀ x ∈ kTI w n, x.length = 3 := by
 intro x hx
 obtain ⟨j, _, h⟩ := Xp.1 hx
 exact kM_3 x h
theorem Qsy (w : Work) (i m : Int) (k : Nat) : (kK w i m k).length ≤ k := by
 unfold kK
 rw [Za]
 refine Zs (Z9 _ _) (by simp)
theorem Qei {α β : Type} (f : α → List β) (c : Nat) : ∀ l : List α, (∀ x ∈ l, (f x).length ≤ c) → (l.flatMap f).length ≤ l.length * c
 | [], _ => by simp
 | a :: l, h => by
  have h1 := Qei f c l fun x hx => h x (by simp [hx])
  have h2 := h a (by simp)
  rw [List.flatMap_cons, Qg, Zo, Zx]
  omega
theorem Qt0 {w : Work} (h : OkW w) (i : Int) (m : Nat) (hm : m ≤ w.makes.length) : (kM w i m).length ≤ 24 := by
 have := Qei (fun (a : Nat) => kK w i (a : Int) (Qbm w (a : Int)).length) 4 (Qn m) fun a ha => by
  refine Zs (Qsy _ _ _ _) ?_
  have ha' := Zt.1 ha
  have hg : w.makes[a]? = some (Qbm w (a : Int)) := by
   have := (Qe9 (w := w) (m := (a : Int)) (Qav.2 (by omega))).2.2
   simpa using this
  exact (h.make _ (Qf hg)).1
 rw [Zy] at this
 have := h.nmk
 unfold kM; omega
theorem Qyi {w : Work} (h : OkW w) (n : Nat) (hn : n ≤ 10) : (kTI w n).length ≤ 240 := by
 have := Qei (fun (i : Nat) => kM w (i : Int) w.makes.length) 24 (Qn n) fun a _ => Qt0 h _ _ (Qr _)
 rw [Zy] at this
 unfold kTI; omega
def eSp (p : Int × Int) : List V := [.i p.1, .i p.2]
def dSp : List V → Int × Int | [.i a, .i b] => (a, b) | _ => (0, 0)
theorem Zhj (p : Int × Int) : dSp (eSp p) = p := rfl
def Qcn (l : List Int) (k : Nat) : List (Int × Int) := (Qn k).flatMap fun (i : Nat) => Qb (l.getD i 0).toNat ((i : Int), (0 : Int))
def delL (l : List Del) : List (Int × Int) := l.flatMap fun d => Qb d.many.toNat (d.spare, d.day)
def Qb8 (s : Shop) : List (Int × Int) := Qcn s.stock s.stock.length ++ delL s.dels
def Qbn (w : Work) : AM Int := cntM (kTI w w.spares.length)
def Qaz (s : Shop) : List V := [.sl 4 (s.work.spares.map eSpare), .sl 1 (s.work.makes.map eMake), .i s.work.cut, .sl 4 (s.work.table.map eTrial), .sl 1 (s.stock.map eI), .sl 5 (s.pieces.map ePiece), .sl 6 (s.wishes.map eWish), .sl 3 (s.dels.map eDel), .i s.carve,
 .sl 2 ((Qb8 s).map eSp), .pm true (aks (Qbn s.work)) (avs .i (Qbn s.work))]
def Qdc : List V → Shop | [a, b, c, d, e, f, g, h, i, _, _] => Qj4 [a, b, c, d, e, f, g, h, i] | _ => Qj4 []
theorem Qg9 (s : Shop) : Qdc (Qaz s) = s := Qjx s
def Qg1 (s : Shop) (is : Bool) : V := if Qbj s is = 0 then .tp [.pa (Qaz s), .i 0] else .tp [.pn, .i (Qbj s is)]
theorem Qgs (l : List (Int × Int)) : ((l.map eSp).flatten).length = l.length * 2 := Qar (e := eSp) (k := 2) (fun _ => rfl) l
theorem Qdf (l : List (Int × Int)) : Qa1 ((l.map eSp).flatten) = false := Qac (e := eSp) (fun _ => rfl) l
theorem Qpz (l : List (Int × Int)) : Qcg 2 ((l.map eSp).flatten) 0 l.length = l.map eSp := Qai (e := eSp) (k := 2) (fun _ => rfl) l
theorem Zgl (hp : List Blk) (n : Nat) (l : List (Int × Int)) : (l.map eSp).map (fun r => r.map (vw hp (n + 1))) = l.map eSp := Qag (e := eSp) hp (n + 1) (fun _ => rfl) l
theorem Zg9 (n : Nat) (x y : Int) : (Qb n [V.i x, V.i y]).flatten = ((Qb n (x, y)).map eSp).flatten := by simp [eSp]
structure OkSh (s : Shop) : Prop where
 stock : s.stock.length = s.work.spares.length
 npc : s.pieces.length ≤ 8
 nwi : s.wishes.length ≤ 6
 nde : s.dels.length ≤ 8
 carve : 0 ≤ s.carve ∧ s.carve ≤ 99
 st : ∀ n ∈ s.stock, 0 ≤ n ∧ n ≤ 10
 pc : ∀ p ∈ s.pieces, Qci s p = true
 wi : ∀ x ∈ s.wishes, okWish x = true
 de : ∀ d ∈ s.dels, Qg0 s d = true
theorem Qpq {s : Shop} (h : Qd0 s = 0) : OkW s.work ∧ OkSh s := by
 unfold Qd0 at h
 split at h
 ·rename_i h1; exact absurd h h1
 ·rename_i h1
  split at h
  ·rename_i h2
   refine ⟨Qm1 (Qit (by omega)), ?_⟩
   unfold Qe7 at h2
   simp only [Qv, decide_eq_true_eq, Xq, Qav] at h2
   obtain ⟨⟨⟨⟨⟨⟨⟨⟨a1, a2⟩, a3⟩, a4⟩, a5⟩, a6⟩, a7⟩, a8⟩, a9⟩ := h2
   exact ⟨a1, by omega, by omega, by omega, a5, a6, a7, a8, a9⟩
  ·omega
theorem Qqr (k n : Nat) (x y : Int) : shL k (Qb n [V.i x, V.i y]).flatten = ((Qb n (x, y)).map eSp).flatten := by
 rw [Zg9, Qdi _ _ (Qdf _)]
theorem Qyw (hp : List Blk) (n : Nat) (m : AM Int) : (avs V.i m).map (vw hp (n + 1)) = avs V.i m := by
 unfold avs
 rw [Z5]; rfl
theorem Qmi {s : Shop} {d : Del} (h : Qg0 s d = true) : d.many ≤ 10 := by
 unfold Qg0 at h
 rw [Qv] at h
 exact (Qav.1 h.2).2
theorem Qmh {l : List Del} (h : ∀ d ∈ l, d.many ≤ 10) : (delL l).length ≤ l.length * 10 :=
 Qei _ 10 l fun d hd => by rw [Qj]; have := h d hd; omega
theorem Qf5 {l : List Int} (h : ∀ x ∈ l, x ≤ 10) (k : Nat) : (Qcn l k).length ≤ k * 10 := by
 have := Qei (fun (i : Nat) => Qb (l.getD i 0).toNat ((i : Int), (0 : Int))) 10 (Qn k) fun i _ => by
  rw [Qj, Qi]
  cases e : l[i]? with
  | none => simp
  | some x => have := h x (Qf e); simp; omega
 rw [Zy] at this
 exact this
theorem Ql4 (l : List Int) (k : Nat) : Qcn l (k + 1) = Qcn l k ++ Qb (l.getD k 0).toNat ((k : Int), (0 : Int)) := by simp [Qcn, Ze]
theorem Qnw (l : List Del) (d : Del) : delL (l ++ [d]) = delL l ++ Qb d.many.toNat (d.spare, d.day) := by simp [delL]
end Go.CS
set_option linter.all false
namespace Go.CS
open Go.Fam Go.Proofs
open Go.C06 (Span eI eIs Qbx gI gR dI Qbl Qcj fnG Qad Qab Qa6 Qa8 idxOf Qas Qaj Qal Qar Qai Qag Qac Qat Qb3 Qc5 vw_I Qay hmix eLI dLI Qca Qan Qa3 Qaa Qau)
variable {Γ : Gam}
def stC (s : Shop) (v : V) : List V := [.sl 4 (s.work.spares.map eSpare), .sl 1 (s.work.makes.map eMake), .i s.work.cut, .sl 4 (s.work.table.map eTrial), .sl 1 (s.stock.map eI), .sl 5 (s.pieces.map ePiece), .sl 6 (s.wishes.map eWish), .sl 3 (s.dels.map eDel), .i s.carve, v, .mp 0 0]
def mpB (ks : List (List Int)) : Blk := .map true (aks (cntM ks)) (avs .i (cntM ks))
theorem Qbp (ks : List (List Int)) : Qa1 (avs V.i (cntM ks)) = false := Qkj (fun _ => rfl) _
set_option maxHeartbeats 8000000 in
theorem W34 (s : Shop) (is : Bool) (hs : SmallS s) : Qa5 Tryz.prog 34 [.ag (Qae s), .b is] (Qg1 s is) := by
 refine Qa4 Zfm hmix Tryz.func34 cf34.b cf34.c cf34.s cf34.n ?_
 have g1 := h58 s
 simp only [Qae] at g1
 by_cases h0 : Qd0 s = 0
 rotate_left
 ·simp only [rc34, rs34, g1, hs, h0, Qa0, Qa2, Qa1, flat, ↓reduceIte, Nat.reduceEqDiff, Nat.reduceAdd, Nat.reduceLT, Nat.reduceLeDiff, rvs, Qro, Qd7, zipA, Qa, implies_true, reduceCtorEq, Qae, BU1]; simp [Qg1, Qbj, h0]
 cases is with
 | false => simp only [rc34, rs34, g1, hs, h0, Qa0, Qa2, Qa1, flat, ↓reduceIte, Nat.reduceEqDiff, Nat.reduceAdd, Nat.reduceLT, Nat.reduceLeDiff, rvs, Qro, Qd7, zipA, Qa, implies_true, reduceCtorEq, Qae, BU1]; simp [Qg1, Qbj, h0]
 | true =>
 obtain ⟨hO, hSh⟩ := Qpq h0
 have hw := hs.work
 have hE : Qbj s true = Qbs s.work true := by simp [Qbj, h0]
 have g2 := Zbs s.work 0
 simp only [Qa7] at g2
 have hlen := hSh.stock
 have hsp := hO.nsp
 by_cases hz : (0 : Int) < s.stock.length
 ·have hi0 : isSp s.work 0 = true := by unfold isSp; exact Qav.2 (by omega)
  unfold Qfz at g2
  rw [hi0] at g2
  by_cases e0 : Qbs s.work true = 0
  rotate_left
  ·rw [if_neg e0] at g2
   simp only [rc34, rs34, g1, hs, h0, hz, g2, hw, e0, Qa0, Qak, Qaw, Qah, Qa2, Qa1, flat, Qc4, ↓reduceIte, Nat.reduceEqDiff, Nat.reduceAdd, Nat.reduceLT, Nat.reduceLeDiff, rvs, Qro, Qd7, zipA, Qa, implies_true, reduceCtorEq, Qae, BU1]
   simp [Qg1, hE, e0]
  rw [if_pos e0] at g2
  generalize (Qde s.work 0).headD 0 = l1 at g2
  generalize (Qde s.work 0).getD ((Qde s.work 0).length - 1) 0 = l2 at g2
  simp only [rc34, rs34, g1, hs, h0, hz, g2, hw, Qbd, ↓Qam, Qa0, Qak, Qaw, Qah, Qa2, Qa1, flat, Qc4, cutV, cutL, cutB, ↓reduceIte, Nat.reduceEqDiff, Nat.reduceAdd, Nat.reduceLT, Nat.reduceLeDiff, zipA, Qa, implies_true, reduceCtorEq, Qae, BU1]
  refine Qb5 s.stock.length (fun i => ⟨lkp [(2, .pa (Qae s)), (7, .ad 1 0 0), (46, .i s.stock.length), (47, .i i)], [mpB (kTI s.work i), .cells 0 (stC s (.z 2))]⟩) ?_ ?_ ?_
  ·simp only [Qm, mpB, cntM, kTI, Qz, Q4, Zu, aks, avs, stC, Zu, cutV, cutL, cutB, ↓reduceIte, Nat.reduceEqDiff, Nat.reduceLT, Qae, BU1]
  ·intro i hi
   have hlt : (i : Int) < s.stock.length := by omega
   have i1 : inI ((i : Int) + 1) := by unfold inI; omega
   have hsi : isSp s.work (i : Int) = true := Qav.2 (by omega)
   simp only [hlt, stC, Qa0, ↓reduceIte, Nat.reduceEqDiff, Nat.reduceAdd, Nat.reduceLeDiff, Qa, Qae, BU1]
   refine Qb5 s.work.makes.length (fun m => ⟨lkp [(2, .pa (Qae s)), (7, .ad 1 0 0), (10, .i i), (46, .i s.stock.length), (47, .i i), (52, .sl 1 (s.work.makes.map eMake)), (53, .i s.work.makes.length), (54, .i m)], [mpB (kTI s.work i ++ kM s.work i m), .cells 0 (stC s (.z 2))]⟩) ?_ ?_ ?_
   ·simp only [Qm, stC, mpB, Qa3 _ _ _ (Qbp _), kM, Qz, Q4, cutV, cutL, cutB, ↓reduceIte, Nat.reduceEqDiff, Nat.reduceLT, Qae, BU1]
   ·intro m hm
    have hmt : (m : Int) < s.work.makes.length := by omega
    have hnm := hO.nmk
    have i2 : inI ((m : Int) + 1) := by unfold inI; omega
    have hmg := (Qe9 (w := s.work) (m := (m : Int)) (Qav.2 (by omega))).2.2
    have hmk : s.work.makes[m]? = some (Qbm s.work (m : Int)) := by simpa using hmg
    have hmkl := (hO.make _ (Qf hmk)).1
    simp only [hmt, hmk, stC, eMake, Qa0, Qah, ↓reduceIte, Nat.reduceEqDiff, Nat.reduceAdd, Nat.reduceLeDiff, beq_self_eq_true, Qa, eMake, Qae, BU1]
    refine Qb5 (Qbm s.work (m : Int)).length (fun k => ⟨lkp [(2, .pa (Qae s)), (7, .ad 1 0 0), (10, .i i), (11, .i m), (46, .i s.stock.length), (47, .i i), (52, .sl 1 (s.work.makes.map eMake)), (53, .i s.work.makes.length), (54, .i m), (61, .i (Qbm s.work (m : Int)).length), (62, .i k)], [mpB (kTI s.work i ++ kM s.work i m ++ kK s.work i m k), .cells 0 (stC s (.z 2)), .cells 0 [.sl 4 ((Qbm s.work (m : Int)).map eSlot)]]⟩) ?_ ?_ ?_
    ·simp only [Qm, stC, mpB, kK, Qz, Xz, ↓reduceIte, Nat.reduceEqDiff, Qae, BU1]
    ·intro k hk
     have hkt : (k : Int) < (Qbm s.work (m : Int)).length := by omega
     have i3 : inI ((k : Int) + 1) := by unfold inI; omega
     have hsl : Qbg s.work (m : Int) (k : Int) = true := by
      unfold Qbg
      rw [Qv]
      exact ⟨Qav.2 (by omega), Qav.2 (by omega)⟩
     have g3 := Qy2 s.work i m k
     unfold Qmm at g3
     rw [hsi, hsl] at g3
     simp only [Zg, e0, if_true, Qa7] at g3
     have hks := Qsz s.work i m k
     by_cases hf : fitN s.work (i : Int) (m : Int) (k : Int) = 1
     ·rw [if_pos hf] at hks
      obtain ⟨X, hX⟩ : ∃ X, X = kTI s.work i ++ kM s.work (i : Int) m ++ kK s.work (i : Int) (m : Int) k := ⟨_, rfl⟩
      have hX1 : kTI s.work i ++ kM s.work (i : Int) m ++ kK s.work (i : Int) (m : Int) (k + 1) = X ++ [[(i : Int), (m : Int), (k : Int)]] := by rw [hks, hX]; simp
      have hX3 : ∀ x ∈ X, x.length = 3 := by
       rw [hX]
       intro x hx
       rcases Qh.1 hx with hx | hx
       ·rcases Qh.1 hx with hx | hx
        ·exact kI_3 x hx
        ·exact kM_3 x hx
       ·exact kK_3 x hx
      have hXl : X.length ≤ 268 := by
       have a1 := Qyi hO i (by omega)
       have a2 := Qt0 hO i m (by omega)
       have a3 := Qsy s.work i m k
       rw [hX, Qg, Qg]; omega
      have hk3 := Qmd X hX3
      have hnd := Qll X
      have hnr := Qbp X
      have hnr2 := Qbp (X ++ [[(i : Int), (m : Int), (k : Int)]])
      have hget := Qmc V.i (cntM X) [(i : Int), (m : Int), (k : Int)]
      have hcg := Qq0 X [(i : Int), (m : Int), (k : Int)]
      have hsn := Qfv X [(i : Int), (m : Int), (k : Int)]
      obtain ⟨a, ha, hg2⟩ : ∃ a : Int, (0 ≤ a ∧ a ≤ 268) ∧ (aget (cntM X) [(i : Int), (m : Int), (k : Int)]).getD 0 = a ∧ ((avs V.i (cntM X))[(aks (cntM X)).idxOf [(i : Int), (m : Int), (k : Int)]]?).getD (.i 0) = .i a := by
       by_cases hin : [(i : Int), (m : Int), (k : Int)] ∈ X
       ·obtain ⟨n, h1, h2, h3⟩ := hcg.1 hin
        rw [h3] at hget
        exact ⟨n, by omega, by rw [h3]; rfl, by rw [hget]; rfl⟩
       ·have h3 := hcg.2 hin
        rw [h3] at hget
        exact ⟨0, by omega, by rw [h3]; rfl, by rw [hget]; rfl⟩
      have i4 : inI (a + 1) := by unfold inI; omega
      rw [hg2.1] at hsn
      have hput : Blk.map true (putK (aks (cntM X)) [(i : Int), (m : Int), (k : Int)]) ((if [(i : Int), (m : Int), (k : Int)] ∈ aks (cntM X) then avs V.i (cntM X) else avs V.i (cntM X) ++ [.i 0]).set ((aks (cntM X)).idxOf [(i : Int), (m : Int), (k : Int)]) (.i (a + 1))) = mpB (X ++ [[(i : Int), (m : Int), (k : Int)]]) := by
       unfold mpB
       rw [Qtg (Qrz _ _), hsn, Qi5, ← Qp9 hnd]
      have hix : ((aks (cntM X)).idxOf [(i : Int), (m : Int), (k : Int)] : Int) < (putK (aks (cntM X)) [(i : Int), (m : Int), (k : Int)]).length := by
       have : (aks (cntM X)).idxOf [(i : Int), (m : Int), (k : Int)] < (putK (aks (cntM X)) [(i : Int), (m : Int), (k : Int)]).length := by
        unfold putK
        split
        ·rename_i h; exact Z1.2 h
        ·rename_i h; rw [Xd h]; simp
       omega
      have hgd := hg2.2
      rw [← hX, hX1]
      generalize mpB (X ++ [[(i : Int), (m : Int), (k : Int)]]) = R at *
      simp only [hkt, g3, hw, hf, stC, mpB, Qbq, Qwq, hgd, i4, hix, hput, i3, Qe, Qd, Qaq, optL, lkpV, keyL, Qbq, Qa0, runX, fpQ, fpV, Qak, Qaw, Qdl, Qa2, Qa1, flat, Qc4, ↓reduceIte, Nat.reduceEqDiff, Nat.reduceAdd, Nat.reduceLT, Nat.reduceLeDiff, Qt, beq_self_eq_true, Qu, Qx, Qa, forall_const, implies_true, Qw, Ql, Qk, Qae, BU1]
      exact hk3
     ·rw [if_neg hf] at hks
      simp only [hkt, g3, hw, hf, i3, hks, stC, Qe, Qd, Qa0, Qa2, Qa1, flat, Qc4, ↓reduceIte, Nat.reduceEqDiff, Nat.reduceAdd, Nat.reduceLT, Nat.reduceLeDiff, Qa, implies_true, Qae, BU1]
    ·have hkt : ¬ (((Qbm s.work (m : Int)).length : Int) < (Qbm s.work (m : Int)).length) := by omega
     have hms := Qt1 s.work (i : Int) m
     simp only [hkt, i2, stC, mpB, Qa3 _ _ _ (Qbp _), hms, ← Q2, Qe, Qd, Qbd, ↓Qam, Qa0, cutV, cutL, cutB, ↓reduceIte, Nat.reduceEqDiff, Nat.reduceLT, Qa, Qae, BU1]
   ·have hmt : ¬ ((s.work.makes.length : Int) < s.work.makes.length) := by omega
    have his := Qsx s.work i
    simp only [hmt, i1, stC, mpB, Qa3 _ _ _ (Qbp _), his, Qe, Qd, Qbd, ↓Qam, Qa0, cutV, cutL, cutB, ↓reduceIte, Nat.reduceEqDiff, Nat.reduceLT, Qa, Qae, BU1]
  ·have hlt : ¬ ((s.stock.length : Int) < s.stock.length) := by omega
   simp only [hlt, stC, Qkx, Qa0, ↓reduceIte, Nat.reduceEqDiff, Nat.reduceAdd, Nat.reduceLeDiff, Qa, Qae, BU1]
   refine Qb5 s.stock.length (fun i => ⟨lkp [(2, .pa (Qae s)), (7, .ad 1 0 0), (92, .sl 1 (s.stock.map eI)), (93, .i s.stock.length), (94, .i i)], [mpB (kTI s.work s.stock.length), .cells 0 (stC s (.rf 2 i 0 (Qcn s.stock i).length 2)), .cells i ((Qcn s.stock i).map eSp).flatten]⟩) ?_ ?_ ?_
   ·simp only [Qm, stC, mpB, Qa3 _ _ _ (Qbp _), Qcn, Qz, Q4, Q8, cutV, cutL, cutB, ↓reduceIte, Nat.reduceEqDiff, Nat.reduceLT, Qae, BU1]
   ·intro i hi
    have hlt : (i : Int) < s.stock.length := by omega
    have i1 : inI ((i : Int) + 1) := by unfold inI; omega
    obtain ⟨n, hn⟩ : ∃ n, s.stock[i]? = some n := ⟨_, Qc hi⟩
    have hnb := hSh.st n (Qf hn)
    have hnb2 : 0 ≤ n ∧ n ≤ 1000000 := by omega
    have r1 := Qqr 3 n.toNat (i : Int) 0
    have r2 := Qgs (Qb n.toNat ((i : Int), (0 : Int)))
    rw [Qj] at r2
    have r3 : (((Qb n.toNat ((i : Int), (0 : Int))).map eSp).flatten).take (n.toNat * 2) = ((Qb n.toNat ((i : Int), (0 : Int))).map eSp).flatten := Q3 (by omega)
    have hsl := Ql4 s.stock i
    rw [Qi, hn, Qq] at hsl
    have hll := Qf5 (fun x hx => (hSh.st x hx).2) i
    have f1 : Qao ((Qcn s.stock i).length + n.toNat) := by unfold Qao; omega
    have hnr : Qa1 (((Qcn s.stock i).map eSp).flatten ++ ((Qb n.toNat ((i : Int), (0 : Int))).map eSp).flatten) = false := by rw [Qaa, Qdf, Qdf]; rfl
    simp only [hlt, hn, stC, h61, hnb2, r1, r2, r3, Qa3 _ _ _ hnr, Qr, Qgs, f1, mpB, Qa3 _ _ _ (Qbp _), hsl, Qy, Qo, Qg, Qj, i1, Qe, Qd, Qbd, Qck, ↓Qam, effO, Qel, Ql1, Qaq, optL, upTo, rids, Qe3, Qdh, Qdm, shV, shB, Qa9, Qa0, runX, fpQ, fpV, Qbt, Qak, Qaw, Qb2, Qah, Qa2, Qa1, cutV, cutL, cutB, ↓reduceIte, Nat.reduceEqDiff, Nat.reduceAdd, Nat.reduceMul, Nat.reduceLT, Nat.reduceLeDiff, Nat.reduceBEq, Qs, Qt, Qdk, beq_self_eq_true, Qu, Qx, Qa, reduceCtorEq, not_false_eq_true, ne_eq, Qw, Ql, Qk, Qj, eI, Qae, BU1]
   ·have hlt : ¬ ((s.stock.length : Int) < s.stock.length) := by omega
    simp only [hlt, stC, Qa0, ↓reduceIte, Nat.reduceEqDiff, Nat.reduceAdd, Nat.reduceLeDiff, Qa, Qae, BU1]
    refine Qb5 s.dels.length (fun i => ⟨lkp [(7, .ad 1 0 0), (114, .sl 3 (s.dels.map eDel)), (115, .i s.dels.length), (116, .i i)], [mpB (kTI s.work s.stock.length), .cells 0 (stC s (.rf 2 (s.stock.length + i) 0 (Qcn s.stock s.stock.length ++ delL (s.dels.take i)).length 2)), .cells (s.stock.length + i) ((Qcn s.stock s.stock.length ++ delL (s.dels.take i)).map eSp).flatten]⟩) ?_ ?_ ?_
    ·simp only [Qm, stC, mpB, Qa3 _ _ _ (Qbp _), Qa3 _ _ _ (Qdf _), delL, Q4, cutV, cutL, cutB, ↓reduceIte, Nat.reduceEqDiff, Nat.reduceLT, BU1]
    ·intro i hi
     have hlt : (i : Int) < s.dels.length := by omega
     have hnd := hSh.nde
     have i1 : inI ((i : Int) + 1) := by unfold inI; omega
     obtain ⟨d, hd⟩ : ∃ d, s.dels[i]? = some d := ⟨_, Qc hi⟩
     have hdo := hSh.de d (Qf hd)
     have hdm : 1 ≤ d.many ∧ d.many ≤ 10 := by
      unfold Qg0 at hdo
      rw [Qv] at hdo
      exact Qav.1 hdo.2
     have hnb2 : 0 ≤ d.many ∧ d.many ≤ 1000000 := by omega
     have r1 := Qqr 4 d.many.toNat d.spare d.day
     have r2 := Qgs (Qb d.many.toNat (d.spare, d.day))
     rw [Qj] at r2
     have r3 : (((Qb d.many.toNat (d.spare, d.day)).map eSp).flatten).take (d.many.toNat * 2) = ((Qb d.many.toNat (d.spare, d.day)).map eSp).flatten := Q3 (by omega)
     have hsl : delL (s.dels.take (i + 1)) = delL (s.dels.take i) ++ Qb d.many.toNat (d.spare, d.day) := by rw [Qa8 hd, Qnw]
     have f1 : Qao ((Qcn s.stock s.stock.length ++ delL (s.dels.take i)).length + d.many.toNat) := by
      have a1 := Qf5 (fun x hx => (hSh.st x hx).2) s.stock.length
      have a2 := Qmh (l := s.dels.take i) (fun x hx => Qmi (hSh.de x (Xe hx)))
      rw [Zp] at a2
      rw [Qg]; unfold Qao; omega
     obtain ⟨A, hA⟩ : ∃ A, A = Qcn s.stock s.stock.length ++ delL (s.dels.take i) := ⟨_, rfl⟩
     rw [hsl, ← Q2, ← hA]
     rw [← hA] at f1
     have hnr : Qa1 ((A.map eSp).flatten ++ ((Qb d.many.toNat (d.spare, d.day)).map eSp).flatten) = false := by rw [Qaa, Qdf, Qdf]; rfl
     have e1 : s.stock.length + (i + 1) = s.stock.length + i + 1 := rfl
     simp only [hlt, hd, stC, h61, hnb2, r1, r2, r3, e1, Qa3 _ _ _ hnr, Qr, Qgs, f1, mpB, Qa3 _ _ _ (Qbp _), Qy, Qo, Qg, Qj, i1, Qe, Qd, Qbd, Qck, ↓Qam, effO, Qel, Ql1, Qaq, optL, upTo, rids, Qe3, Qdh, Qdm, shV, shB, Qa9, Qa0, runX, fpQ, fpV, Qbt, Qak, Qaw, Qb2, Qah, Qa2, Qa1, cutV, cutL, cutB, ↓reduceIte, Nat.reduceEqDiff, Nat.reduceAdd, Nat.reduceMul, Nat.reduceLT, Nat.reduceLeDiff, Nat.reduceBEq, Qs, Qt, Qdj, Qdk, beq_self_eq_true, Qu, Qx, Qa, reduceCtorEq, not_false_eq_true, ne_eq, Qw, Ql, Qk, Qj, eDel, BU1]
    ·have hlt : ¬ ((s.dels.length : Int) < s.dels.length) := by omega
     have hfin : Qcn s.stock s.stock.length ++ delL (s.dels.take s.dels.length) = Qb8 s := by rw [Zq]; rfl
     rw [hfin]
     have h1 := Qpz (Qb8 s)
     have h2 : avs V.i (cntM (kTI s.work s.stock.length)) = avs V.i (Qbn s.work) := by rw [hlen]; rfl
     have h3 : aks (cntM (kTI s.work s.stock.length)) = aks (Qbn s.work) := by rw [hlen]; rfl
     have h4 : Qg1 s true = .tp [.pa (Qaz s), .i 0] := by unfold Qg1; rw [hE, e0]; rfl
     simp only [hlt, stC, Qgs, Qr, h1, Zgl, Zgm, mpB, h2, h3, h4, Qaz, Qyw, Qa0, ↓reduceIte, Nat.reduceEqDiff, rvs, Qd7, Qdj, Qdk, Qa, BU1]
 ·have e0 : Qbs s.work true = 0 := by
   have h1 : Qcc s.work = 0 := by
    unfold Qd0 at h0
    split at h0
    ·rename_i h2; exact absurd h0 h2
    ·omega
   have h2 : Qd4 s.work = false := by
    have : s.work.spares.length = 0 := by omega
    simp [Qd4, this]
   simp [Qbs, h1, h2]
  simp only [rc34, rs34, g1, hs, h0, hz, Qbd, ↓Qam, Qa0, Qak, Qaw, Qah, Qa2, Qa1, flat, cutV, cutL, cutB, ↓reduceIte, Nat.reduceEqDiff, Nat.reduceAdd, Nat.reduceLT, Nat.reduceLeDiff, zipA, Qa, implies_true, reduceCtorEq, Qae, BU1]
  refine Qb5 s.stock.length (fun i => ⟨lkp [(2, .pa (Qae s)), (7, .ad 1 0 0), (46, .i s.stock.length), (47, .i i)], [mpB (kTI s.work i), .cells 0 (stC s (.z 2))]⟩) ?_ ?_ ?_
  ·simp only [Qm, mpB, cntM, kTI, Qz, Q4, Zu, aks, avs, stC, Zu, cutV, cutL, cutB, ↓reduceIte, Nat.reduceEqDiff, Nat.reduceLT, Qae, BU1]
  ·intro i hi
   have hlt : (i : Int) < s.stock.length := by omega
   have i1 : inI ((i : Int) + 1) := by unfold inI; omega
   have hsi : isSp s.work (i : Int) = true := Qav.2 (by omega)
   simp only [hlt, stC, Qa0, ↓reduceIte, Nat.reduceEqDiff, Nat.reduceAdd, Nat.reduceLeDiff, Qa, Qae, BU1]
   refine Qb5 s.work.makes.length (fun m => ⟨lkp [(2, .pa (Qae s)), (7, .ad 1 0 0), (10, .i i), (46, .i s.stock.length), (47, .i i), (52, .sl 1 (s.work.makes.map eMake)), (53, .i s.work.makes.length), (54, .i m)], [mpB (kTI s.work i ++ kM s.work i m), .cells 0 (stC s (.z 2))]⟩) ?_ ?_ ?_
   ·simp only [Qm, stC, mpB, Qa3 _ _ _ (Qbp _), kM, Qz, Q4, cutV, cutL, cutB, ↓reduceIte, Nat.reduceEqDiff, Nat.reduceLT, Qae, BU1]
   ·intro m hm
    have hmt : (m : Int) < s.work.makes.length := by omega
    have hnm := hO.nmk
    have i2 : inI ((m : Int) + 1) := by unfold inI; omega
    have hmg := (Qe9 (w := s.work) (m := (m : Int)) (Qav.2 (by omega))).2.2
    have hmk : s.work.makes[m]? = some (Qbm s.work (m : Int)) := by simpa using hmg
    have hmkl := (hO.make _ (Qf hmk)).1
    simp only [hmt, hmk, stC, eMake, Qa0, Qah, ↓reduceIte, Nat.reduceEqDiff, Nat.reduceAdd, Nat.reduceLeDiff, beq_self_eq_true, Qa, eMake, Qae, BU1]
    refine Qb5 (Qbm s.work (m : Int)).length (fun k => ⟨lkp [(2, .pa (Qae s)), (7, .ad 1 0 0), (10, .i i), (11, .i m), (46, .i s.stock.length), (47, .i i), (52, .sl 1 (s.work.makes.map eMake)), (53, .i s.work.makes.length), (54, .i m), (61, .i (Qbm s.work (m : Int)).length), (62, .i k)], [mpB (kTI s.work i ++ kM s.work i m ++ kK s.work i m k), .cells 0 (stC s (.z 2)), .cells 0 [.sl 4 ((Qbm s.work (m : Int)).map eSlot)]]⟩) ?_ ?_ ?_
    ·simp only [Qm, stC, mpB, kK, Qz, Xz, ↓reduceIte, Nat.reduceEqDiff, Qae, BU1]
    ·intro k hk
     have hkt : (k : Int) < (Qbm s.work (m : Int)).length := by omega
     have i3 : inI ((k : Int) + 1) := by unfold inI; omega
     have hsl : Qbg s.work (m : Int) (k : Int) = true := by
      unfold Qbg
      rw [Qv]
      exact ⟨Qav.2 (by omega), Qav.2 (by omega)⟩
     have g3 := Qy2 s.work i m k
     unfold Qmm at g3
     rw [hsi, hsl] at g3
     simp only [Zg, e0, if_true, Qa7] at g3
     have hks := Qsz s.work i m k
     by_cases hf : fitN s.work (i : Int) (m : Int) (k : Int) = 1
     ·rw [if_pos hf] at hks
      obtain ⟨X, hX⟩ : ∃ X, X = kTI s.work i ++ kM s.work (i : Int) m ++ kK s.work (i : Int) (m : Int) k := ⟨_, rfl⟩
      have hX1 : kTI s.work i ++ kM s.work (i : Int) m ++ kK s.work (i : Int) (m : Int) (k + 1) = X ++ [[(i : Int), (m : Int), (k : Int)]] := by rw [hks, hX]; simp
      have hX3 : ∀ x ∈ X, x.length = 3 := by
       rw [hX]
       intro x hx
       rcases Qh.1 hx with hx | hx
       ·rcases Qh.1 hx with hx | hx
        ·exact kI_3 x hx
        ·exact kM_3 x hx
       ·exact kK_3 x hx
      have hXl : X.length ≤ 268 := by
       have a1 := Qyi hO i (by omega)
       have a2 := Qt0 hO i m (by omega)
       have a3 := Qsy s.work i m k
       rw [hX, Qg, Qg]; omega
      have hk3 := Qmd X hX3
      have hnd := Qll X
      have hnr := Qbp X
      have hnr2 := Qbp (X ++ [[(i : Int), (m : Int), (k : Int)]])
      have hget := Qmc V.i (cntM X) [(i : Int), (m : Int), (k : Int)]
      have hcg := Qq0 X [(i : Int), (m : Int), (k : Int)]
      have hsn := Qfv X [(i : Int), (m : Int), (k : Int)]
      obtain ⟨a, ha, hg2⟩ : ∃ a : Int, (0 ≤ a ∧ a ≤ 268) ∧ (aget (cntM X) [(i : Int), (m : Int), (k : Int)]).getD 0 = a ∧ ((avs V.i (cntM X))[(aks (cntM X)).idxOf [(i : Int), (m : Int), (k : Int)]]?).getD (.i 0) = .i a := by
       by_cases hin : [(i : Int), (m : Int), (k : Int)] ∈ X
       ·obtain ⟨n, h1, h2, h3⟩ := hcg.1 hin
        rw [h3] at hget
        exact ⟨n, by omega, by rw [h3]; rfl, by rw [hget]; rfl⟩
       ·have h3 := hcg.2 hin
        rw [h3] at hget
        exact ⟨0, by omega, by rw [h3]; rfl, by rw [hget]; rfl⟩
      have i4 : inI (a + 1) := by unfold inI; omega
      rw [hg2.1] at hsn
      have hput : Blk.map true (putK (aks (cntM X)) [(i : Int), (m : Int), (k : Int)]) ((if [(i : Int), (m : Int), (k : Int)] ∈ aks (cntM X) then avs V.i (cntM X) else avs V.i (cntM X) ++ [.i 0]).set ((aks (cntM X)).idxOf [(i : Int), (m : Int), (k : Int)]) (.i (a + 1))) = mpB (X ++ [[(i : Int), (m : Int), (k : Int)]]) := by
       unfold mpB
       rw [Qtg (Qrz _ _), hsn, Qi5, ← Qp9 hnd]
      have hix : ((aks (cntM X)).idxOf [(i : Int), (m : Int), (k : Int)] : Int) < (putK (aks (cntM X)) [(i : Int), (m : Int), (k : Int)]).length := by
       have : (aks (cntM X)).idxOf [(i : Int), (m : Int), (k : Int)] < (putK (aks (cntM X)) [(i : Int), (m : Int), (k : Int)]).length := by
        unfold putK
        split
        ·rename_i h; exact Z1.2 h
        ·rename_i h; rw [Xd h]; simp
       omega
      have hgd := hg2.2
      rw [← hX, hX1]
      generalize mpB (X ++ [[(i : Int), (m : Int), (k : Int)]]) = R at *
      simp only [hkt, g3, hw, hf, stC, mpB, Qbq, Qwq, hgd, i4, hix, hput, i3, Qe, Qd, Qaq, optL, lkpV, keyL, Qbq, Qa0, runX, fpQ, fpV, Qak, Qaw, Qdl, Qa2, Qa1, flat, Qc4, ↓reduceIte, Nat.reduceEqDiff, Nat.reduceAdd, Nat.reduceLT, Nat.reduceLeDiff, Qt, beq_self_eq_true, Qu, Qx, Qa, forall_const, implies_true, Qw, Ql, Qk, Qae, BU1]
      exact hk3
     ·rw [if_neg hf] at hks
      simp only [hkt, g3, hw, hf, i3, hks, stC, Qe, Qd, Qa0, Qa2, Qa1, flat, Qc4, ↓reduceIte, Nat.reduceEqDiff, Nat.reduceAdd, Nat.reduceLT, Nat.reduceLeDiff, Qa, implies_true, Qae, BU1]
    ·have hkt : ¬ (((Qbm s.work (m : Int)).length : Int) < (Qbm s.work (m : Int)).length) := by omega
     have hms := Qt1 s.work (i : Int) m
     simp only [hkt, i2, stC, mpB, Qa3 _ _ _ (Qbp _), hms, ← Q2, Qe, Qd, Qbd, ↓Qam, Qa0, cutV, cutL, cutB, ↓reduceIte, Nat.reduceEqDiff, Nat.reduceLT, Qa, Qae, BU1]
   ·have hmt : ¬ ((s.work.makes.length : Int) < s.work.makes.length) := by omega
    have his := Qsx s.work i
    simp only [hmt, i1, stC, mpB, Qa3 _ _ _ (Qbp _), his, Qe, Qd, Qbd, ↓Qam, Qa0, cutV, cutL, cutB, ↓reduceIte, Nat.reduceEqDiff, Nat.reduceLT, Qa, Qae, BU1]
  ·have hlt : ¬ ((s.stock.length : Int) < s.stock.length) := by omega
   simp only [hlt, stC, Qkx, Qa0, ↓reduceIte, Nat.reduceEqDiff, Nat.reduceAdd, Nat.reduceLeDiff, Qa, Qae, BU1]
   refine Qb5 s.stock.length (fun i => ⟨lkp [(2, .pa (Qae s)), (7, .ad 1 0 0), (92, .sl 1 (s.stock.map eI)), (93, .i s.stock.length), (94, .i i)], [mpB (kTI s.work s.stock.length), .cells 0 (stC s (.rf 2 i 0 (Qcn s.stock i).length 2)), .cells i ((Qcn s.stock i).map eSp).flatten]⟩) ?_ ?_ ?_
   ·simp only [Qm, stC, mpB, Qa3 _ _ _ (Qbp _), Qcn, Qz, Q4, Q8, cutV, cutL, cutB, ↓reduceIte, Nat.reduceEqDiff, Nat.reduceLT, Qae, BU1]
   ·intro i hi
    have hlt : (i : Int) < s.stock.length := by omega
    have i1 : inI ((i : Int) + 1) := by unfold inI; omega
    obtain ⟨n, hn⟩ : ∃ n, s.stock[i]? = some n := ⟨_, Qc hi⟩
    have hnb := hSh.st n (Qf hn)
    have hnb2 : 0 ≤ n ∧ n ≤ 1000000 := by omega
    have r1 := Qqr 3 n.toNat (i : Int) 0
    have r2 := Qgs (Qb n.toNat ((i : Int), (0 : Int)))
    rw [Qj] at r2
    have r3 : (((Qb n.toNat ((i : Int), (0 : Int))).map eSp).flatten).take (n.toNat * 2) = ((Qb n.toNat ((i : Int), (0 : Int))).map eSp).flatten := Q3 (by omega)
    have hsl := Ql4 s.stock i
    rw [Qi, hn, Qq] at hsl
    have hll := Qf5 (fun x hx => (hSh.st x hx).2) i
    have f1 : Qao ((Qcn s.stock i).length + n.toNat) := by unfold Qao; omega
    have hnr : Qa1 (((Qcn s.stock i).map eSp).flatten ++ ((Qb n.toNat ((i : Int), (0 : Int))).map eSp).flatten) = false := by rw [Qaa, Qdf, Qdf]; rfl
    simp only [hlt, hn, stC, h61, hnb2, r1, r2, r3, Qa3 _ _ _ hnr, Qr, Qgs, f1, mpB, Qa3 _ _ _ (Qbp _), hsl, Qy, Qo, Qg, Qj, i1, Qe, Qd, Qbd, Qck, ↓Qam, effO, Qel, Ql1, Qaq, optL, upTo, rids, Qe3, Qdh, Qdm, shV, shB, Qa9, Qa0, runX, fpQ, fpV, Qbt, Qak, Qaw, Qb2, Qah, Qa2, Qa1, cutV, cutL, cutB, ↓reduceIte, Nat.reduceEqDiff, Nat.reduceAdd, Nat.reduceMul, Nat.reduceLT, Nat.reduceLeDiff, Nat.reduceBEq, Qs, Qt, Qdk, beq_self_eq_true, Qu, Qx, Qa, reduceCtorEq, not_false_eq_true, ne_eq, Qw, Ql, Qk, Qj, eI, Qae, BU1]
   ·have hlt : ¬ ((s.stock.length : Int) < s.stock.length) := by omega
    simp only [hlt, stC, Qa0, ↓reduceIte, Nat.reduceEqDiff, Nat.reduceAdd, Nat.reduceLeDiff, Qa, Qae, BU1]
    refine Qb5 s.dels.length (fun i => ⟨lkp [(7, .ad 1 0 0), (114, .sl 3 (s.dels.map eDel)), (115, .i s.dels.length), (116, .i i)], [mpB (kTI s.work s.stock.length), .cells 0 (stC s (.rf 2 (s.stock.length + i) 0 (Qcn s.stock s.stock.length ++ delL (s.dels.take i)).length 2)), .cells (s.stock.length + i) ((Qcn s.stock s.stock.length ++ delL (s.dels.take i)).map eSp).flatten]⟩) ?_ ?_ ?_
    ·simp only [Qm, stC, mpB, Qa3 _ _ _ (Qbp _), Qa3 _ _ _ (Qdf _), delL, Q4, cutV, cutL, cutB, ↓reduceIte, Nat.reduceEqDiff, Nat.reduceLT, BU1]
    ·intro i hi
     have hlt : (i : Int) < s.dels.length := by omega
     have hnd := hSh.nde
     have i1 : inI ((i : Int) + 1) := by unfold inI; omega
     obtain ⟨d, hd⟩ : ∃ d, s.dels[i]? = some d := ⟨_, Qc hi⟩
     have hdo := hSh.de d (Qf hd)
     have hdm : 1 ≤ d.many ∧ d.many ≤ 10 := by
      unfold Qg0 at hdo
      rw [Qv] at hdo
      exact Qav.1 hdo.2
     have hnb2 : 0 ≤ d.many ∧ d.many ≤ 1000000 := by omega
     have r1 := Qqr 4 d.many.toNat d.spare d.day
     have r2 := Qgs (Qb d.many.toNat (d.spare, d.day))
     rw [Qj] at r2
     have r3 : (((Qb d.many.toNat (d.spare, d.day)).map eSp).flatten).take (d.many.toNat * 2) = ((Qb d.many.toNat (d.spare, d.day)).map eSp).flatten := Q3 (by omega)
     have hsl : delL (s.dels.take (i + 1)) = delL (s.dels.take i) ++ Qb d.many.toNat (d.spare, d.day) := by rw [Qa8 hd, Qnw]
     have f1 : Qao ((Qcn s.stock s.stock.length ++ delL (s.dels.take i)).length + d.many.toNat) := by
      have a1 := Qf5 (fun x hx => (hSh.st x hx).2) s.stock.length
      have a2 := Qmh (l := s.dels.take i) (fun x hx => Qmi (hSh.de x (Xe hx)))
      rw [Zp] at a2
      rw [Qg]; unfold Qao; omega
     obtain ⟨A, hA⟩ : ∃ A, A = Qcn s.stock s.stock.length ++ delL (s.dels.take i) := ⟨_, rfl⟩
     rw [hsl, ← Q2, ← hA]
     rw [← hA] at f1
     have hnr : Qa1 ((A.map eSp).flatten ++ ((Qb d.many.toNat (d.spare, d.day)).map eSp).flatten) = false := by rw [Qaa, Qdf, Qdf]; rfl
     have e1 : s.stock.length + (i + 1) = s.stock.length + i + 1 := rfl
     simp only [hlt, hd, stC, h61, hnb2, r1, r2, r3, e1, Qa3 _ _ _ hnr, Qr, Qgs, f1, mpB, Qa3 _ _ _ (Qbp _), Qy, Qo, Qg, Qj, i1, Qe, Qd, Qbd, Qck, ↓Qam, effO, Qel, Ql1, Qaq, optL, upTo, rids, Qe3, Qdh, Qdm, shV, shB, Qa9, Qa0, runX, fpQ, fpV, Qbt, Qak, Qaw, Qb2, Qah, Qa2, Qa1, cutV, cutL, cutB, ↓reduceIte, Nat.reduceEqDiff, Nat.reduceAdd, Nat.reduceMul, Nat.reduceLT, Nat.reduceLeDiff, Nat.reduceBEq, Qs, Qt, Qdj, Qdk, beq_self_eq_true, Qu, Qx, Qa, reduceCtorEq, not_false_eq_true, ne_eq, Qw, Ql, Qk, Qj, eDel, BU1]
    ·have hlt : ¬ ((s.dels.length : Int) < s.dels.length) := by omega
     have hfin : Qcn s.stock s.stock.length ++ delL (s.dels.take s.dels.length) = Qb8 s := by rw [Zq]; rfl
     rw [hfin]
     have h1 := Qpz (Qb8 s)
     have h2 : avs V.i (cntM (kTI s.work s.stock.length)) = avs V.i (Qbn s.work) := by rw [hlen]; rfl
     have h3 : aks (cntM (kTI s.work s.stock.length)) = aks (Qbn s.work) := by rw [hlen]; rfl
     have h4 : Qg1 s true = .tp [.pa (Qaz s), .i 0] := by unfold Qg1; rw [hE, e0]; rfl
     simp only [hlt, stC, Qgs, Qr, h1, Zgl, Zgm, mpB, h2, h3, h4, Qaz, Qyw, Qa0, ↓reduceIte, Nat.reduceEqDiff, rvs, Qd7, Qdj, Qdk, Qa, BU1]
end Go.CS
set_option maxRecDepth 8000
namespace Go.CS
open Go.Fam Go.Proofs
def rc36 : RC := (.seq (.reg false [(cQ 4 [] (.mv (.k (.z 3)))), (cQ 5 [] (.mv (kB false)))]) (.keep [0,1] (.seq (.reg false [(cQ 6 [] (.mv (.k (.z 3))))]) (.keep [0,1,6] (.seq (.seq (.reg false [(cMv 14 1), (cLn 15 14), (cI 16 0)]) (.keep [0,6,14,15,16] (.block 0 (.own 6 3 (.loop [0,6,14,15,16] (some 1) (.seq (.reg false [(cB 17 .lss 16 15)]) (.keep [0,6,14,15,16,17] (.seq (.cond (.t 17) .skip (.exit 0)) (.keep [0,6,14,15,16] (.seq (.block 1 (.seq (.reg false [(cMv 18 16), (cA 19 1 14 16), (cLd 20 19 false 1), (cMv 7 18), (cMv 8 20)]) (.keep [0,6,7,8,14,15,16] (.seq (.seq (.reg false [(cMv 21 8), (cC 22 .lss 21 0)]) (.keep [0,6,7,8,14,15,16,22] (.cond (.t 22) (.exit 1) .skip))) (.keep [0,6,7,8,14,15,16] (.seq (.any false 2 [⟨(cMv 23 0), [], []⟩, ⟨(cZ 24 23), [], [0]⟩, ⟨(cFa 25 24 0), [], [1,0]⟩, ⟨(cFa 26 25 6), [], [2,1,0]⟩, ⟨(cLd 27 26 false 1), [], [3,2,1,0]⟩, ⟨(cMv 28 7), [], []⟩, ⟨(cA 29 6 27 28), [], [4,3,2,1,0,5]⟩, ⟨(cLd 30 29 true 6), [], [6,4,3,2,1,0,5]⟩, ⟨(cMv 31 0), [], []⟩, ⟨(cZ 32 31), [], [8]⟩, ⟨(cFa 33 32 0), [], [9,8]⟩, ⟨(cFa 34 33 5), [], [10,9,8]⟩, ⟨(cLd 35 34 false 1), [], [11,10,9,8]⟩, ⟨(cMv 36 8), [], []⟩, ⟨(cA 37 5 35 36), [], [12,11,10,9,8,13]⟩, ⟨(cLd 38 37 true 5), [], [14,12,11,10,9,8,13]⟩, ⟨⟨(some 9), none, [], (some 0), .w (.alc [(.z 1), (.i 0), (.i 0), (.i 0), (.i 0), (.i 0)])⟩, [0,1,2,3,4,5,6,7,8,9,10,11,12,13,14,15], []⟩, ⟨⟨(some 10), none, [], (some 1), .w (.alc [(.i 0), (.i 0), (.i 0), (.i 0), (.z 1)])⟩, [0,1,2,3,4,5,6,7,8,9,10,11,12,13,14,15,16], []⟩, ⟨⟨none, none, [9,30], none, .w (.st 6 (.t 9) (.t 30))⟩, [8,9,10,11,12,13,14,15], [16,7,6,4,3,2,1,0,5,17]⟩, ⟨⟨none, none, [10,38], none, .w (.st 5 (.t 10) (.t 38))⟩, [], [17,15,14,12,11,10,9,8,13,18,16,7,6,4,3,2,1,0,5]⟩]) (.keep [0,6,9,10,14,15,16] (.seq (.reg false [(cFa 39 9 4), (cLd 40 39 false 1), (cMv 11 40)]) (.keep [0,6,9,10,11,14,15,16] (.seq (.seq (.reg false [(cLd 41 9 true 6), (cLd 42 10 true 5), (cQ 43 [41,42] (.call (kF 63) [(.t 41), (.t 42)]))]) (.keep [0,6,10,11,14,15,16,43] (.block 2 (.seq (.reg false [(cC 45 .eql 43 0), (cMv 44 45)]) (.keep [0,6,10,11,14,15,16,43,44] (.cond (.t 44) (.seq (.reg false [(cQ 4 [] (.mv (.k (.z 3)))), (cQ 5 [] (.mv (kB false)))]) .ret) (.seq (.reg false [(cC 47 .eql 43 2), (cMv 46 47)]) (.keep [0,6,10,11,14,15,16,46] (.cond (.t 46) (.reg false [(cMv 48 11), (cMv 49 0), (cZ 50 49), (cFa 51 50 0), (cFa 52 51 8), (cLd 53 52 false 1), (cB 54 .sub 48 53), (cMv 11 54)]) .skip))))))))) (.keep [0,6,10,11,14,15,16] (.seq (.seq (.reg false [(cMv 55 11), (cC 56 .lss 55 0)]) (.keep [0,6,10,11,14,15,16,56] (.cond (.t 56) (.seq (.reg false [(cQ 4 [] (.mv (.k (.z 3)))), (cQ 5 [] (.mv (kB false)))]) .ret) .skip))) (.keep [0,6,10,11,14,15,16] (.seq (.reg false [(cFa 57 10 4), (cLd 58 57 false 1), (cLn 59 58), (cI 60 0)]) (.keep [0,6,10,11,14,15,16,58,59,60] (.block 3 (.loop [0,6,10,11,14,15,16,58,59,60] none (.seq (.reg false [(cB 61 .lss 60 59)]) (.keep [0,6,10,11,14,15,16,58,59,60,61] (.seq (.cond (.t 61) .skip (.exit 3)) (.keep [0,6,10,11,14,15,16,58,59,60] (.seq (.block 4 (.seq (.reg false [(cA 62 1 58 60), (cLd 63 62 false 1), (cMv 13 63)]) (.keep [0,6,10,11,13,14,15,16,58,59,60] (.reg false [(cMv 64 6), (cFa 65 10 3), (cLd 66 65 false 1), (cMv 67 13), (cMv 68 11), (cQ 69 [66,67,68] (.bld [(.i 0), (.i 0), (.i 0)] [(0,1, (.t 66)), (1,1, (.t 67)), (2,1, (.t 68))])), (cQ 70 [69] (.bsl 3 1 [(.i 0), (.i 0), (.i 0)] [(0,3, (.t 69))])), ⟨(some 71), none, [64,70], none, .w (.app 3 (.t 64) (.t 70))⟩, (cMv 6 71)])))) (.keep [0,6,10,11,14,15,16,58,59,60] (.reg false [(cC 72 .add 60 1), (cMv 60 72)])))))))))))))))))))))))) (.drp 1 (.keep [0,6,14,15,16] (.reg false [(cC 73 .add 16 1), (cMv 16 73)]))))))))))))) (.keep [6] (.seq (.reg false [(cMv 74 6), (cMv 4 74), (cQ 5 [] (.mv (kB true)))]) .ret)))))))
def rs36 : List RV := [.t 4, .t 5]
theorem cf36 : CF Tryz.prog Tryz.f36 [70] 0 1 rc36 rs36 2 := ⟨by kernel_rfl, by kernel_rfl, by kernel_rfl, by decide⟩
def rc56 : RC := (.seq (.reg false [(cI 4 0)]) (.keep [0,1,4] (.seq (.seq (.reg false [(cMv 7 1), (cLn 8 7), (cI 9 0)]) (.keep [0,4,7,8,9] (.block 0 (.loop [0,4,7,8,9] none (.seq (.reg false [(cB 10 .lss 9 8)]) (.keep [0,4,7,8,9,10] (.seq (.cond (.t 10) .skip (.exit 0)) (.keep [0,4,7,8,9] (.seq (.block 1 (.seq (.reg false [(cMv 11 9), (cA 12 1 7 9), (cLd 13 12 false 1), (cMv 5 11), (cMv 6 13)]) (.keep [0,4,5,6,7,8,9] (.seq (.reg false [(cMv 14 6), (cQ 15 [14] (.bin .neq (.t 14) (.k (.i (-1)))))]) (.keep [0,4,5,7,8,9,15] (.cond (.t 15) (.reg false [(cMv 16 4), (cMv 17 0), (cZ 18 17), (cFa 19 18 0), (cFa 20 19 6), (cLd 21 20 false 1), (cMv 22 5), (cA 23 6 21 22), (cFa 24 23 5), (cLd 25 24 false 1), (cB 26 .add 16 25), (cMv 4 26)]) .skip)))))) (.keep [0,4,7,8,9] (.reg false [(cC 27 .add 9 1), (cMv 9 27)]))))))))))) (.keep [4] (.seq (.reg false [(cMv 28 4), (cMv 4 28)]) .ret)))))
def rs56 : List RV := [.t 4]
theorem cf56 : CF Tryz.prog Tryz.f56 [] 0 1 rc56 rs56 2 := ⟨by kernel_rfl, by kernel_rfl, by kernel_rfl, by decide⟩
def rc37 : RC := (.seq (.reg false [(cQ 4 [] (.mv (kB false)))]) (.keep [0,1] (.seq (.seq (.reg false [(cMv 9 1), (cLn 10 9), (cI 11 0)]) (.keep [0,9,10,11] (.block 0 (.loop [0,9,10,11] (some 0) (.seq (.reg false [(cB 12 .lss 11 10)]) (.keep [0,9,10,11,12] (.seq (.cond (.t 12) .skip (.exit 0)) (.keep [0,9,10,11] (.seq (.block 1 (.seq (.reg false [(cA 13 3 9 11), (cLd 14 13 true 3), ⟨(some 6), none, [], none, .w (.alc [(.i 0), (.i 0), (.i 0)])⟩, ⟨none, none, [6,14], none, .w (.st 3 (.t 6) (.t 14))⟩]) (.keep [0,6,9,10,11] (.seq (.reg false [(cQ 7 [] (.mv (kB false)))]) (.keep [0,6,7,9,10,11] (.seq (.seq (.reg false [(cMv 15 0), (cZ 16 15), (cFa 17 16 0), (cFa 18 17 4), (cLd 19 18 false 1), (cLn 20 19), (cI 21 0)]) (.keep [0,6,7,9,10,11,20,21] (.block 2 (.loop [0,6,7,9,10,11,20,21] none (.seq (.reg false [(cB 22 .lss 21 20)]) (.keep [0,6,7,9,10,11,20,21,22] (.seq (.cond (.t 22) .skip (.exit 2)) (.keep [0,6,7,9,10,11,20,21] (.seq (.block 3 (.seq (.reg false [(cMv 23 21), (cMv 8 23)]) (.keep [0,6,7,8,9,10,11,20,21] (.reg true [(cMv 24 7), (cMv 25 24), (gMv 26 25 false 0), (gMv 27 25 false 8), (gQ 28 25 false [27] (.bld [(.i 0), (.i 0)] [(0,1, (.t 27)), (1,1, (kI 0))])), (gQ 29 25 false [6] (.ld true 3 (.t 6))), (gQ 30 25 false [26,28,29] (.call (kF 64) [(.t 26), (.t 28), (.t 29)])), (cQ 31 [25,30] (.pick (.t 25) (kB true) (.t 30))), (cMv 7 31)])))) (.keep [0,6,7,9,10,11,20,21] (.reg false [(cC 32 .add 21 1), (cMv 21 32)]))))))))))) (.keep [0,7,9,10,11] (.seq (.reg false [(cMv 33 7), (cN 34 33)]) (.keep [0,9,10,11,34] (.cond (.t 34) (.seq (.reg false [(cQ 4 [] (.mv (kB false)))]) .ret) .skip)))))))))) (.drp 0 (.keep [0,9,10,11] (.reg false [(cC 35 .add 11 1), (cMv 11 35)])))))))))))) (.keep [] (.seq (.reg false [(cQ 4 [] (.mv (kB true)))]) .ret)))))
def rs37 : List RV := [.t 4]
theorem cf37 : CF Tryz.prog Tryz.f37 [] 0 1 rc37 rs37 2 := ⟨by kernel_rfl, by kernel_rfl, by kernel_rfl, by decide⟩
def rc33 : RC := (.seq (.reg false [(cX 2 0), (cI 4 0), (cI 5 0)]) (.keep [1,2] (.seq (.reg false [(cLd 9 2 true 9), (cMv 10 1), (cQ 11 [9,10] (.call (kF 34) [(.t 9), (.t 10)])), (cMv 8 11), (cEx 12 8 0), (cEx 13 8 1), (cMv 6 12), (cMv 7 13)]) (.keep [6,7] (.seq (.seq (.reg false [(cMv 14 7), (cC 15 .neq 14 0)]) (.keep [6,7,15] (.cond (.t 15) (.seq (.reg false [(cMv 16 7), (cI 4 0), (cMv 5 16)]) .ret) .skip))) (.keep [6] (.seq (.reg false [(cMv 17 6), (cMv 18 6), (cQ 19 [18] (.call (kF 57) [(.t 18)])), (cQ 20 [17,19] (.call (kF 56) [(.t 17), (.t 19)])), (cMv 4 20), (cI 5 0)]) .ret)))))))
def rs33 : List RV := [.t 4, .t 5]
theorem cf33 : CF Tryz.prog Tryz.f33 [2] 0 1 rc33 rs33 2 := ⟨by kernel_rfl, by kernel_rfl, by kernel_rfl, by decide⟩
def rc14 : RC := (.seq (.reg false [(cX 1 0), (cI 2 0), (cI 3 0)]) (.keep [1] (.seq (.reg false [(cLd 4 1 true 9), (cQ 5 [4] (.call (kF 33) [(.t 4), (kB true)])), (cEx 6 5 0), (cEx 7 5 1), (cMv 2 6), (cMv 3 7)]) .ret)))
def rs14 : List RV := [.t 2, .t 3]
theorem cf14 : CF Tryz.prog Tryz.f14 [1] 0 1 rc14 rs14 1 := ⟨by kernel_rfl, by kernel_rfl, by kernel_rfl, by decide⟩
end Go.CS
set_option linter.all false
namespace Go.CS
open Go.Fam Go.Proofs
open Go.C06 (Span eI eIs Qbx gI gR dI Qbl Qcj fnG Qad Qab Qa6 Qa8 idxOf Qas Qaj Qal Qar Qai Qag Qac Qat Qb3 Qc5 vw_I Qay hmix eLI dLI Qca Qan Qa3 Qaa Qau)
variable {Γ : Gam}
noncomputable def K77 : Gam := K76.ext 34 (fnG eHB dHB (fun a => SmallS a.1) (fun a => Qg1 a.1 a.2) (fun v => v))
theorem Zfn : GOk Tryz.prog K77 := Zfm.ext (f := 34) (fun a w => Tryz.call34 a w) (Qad (e := eHB) (d := dHB) (ok := fun a => SmallS a.1) (g := fun a => Qg1 a.1 a.2) (eb := fun v => v) fun a h => W34 a.1 a.2 h)
theorem h34 (s : Shop) (is : Bool) : K77 34 [.ag (Qae s), .b is] = (SmallS s, Qg1 s is) := (show K77 34 _ = fnG eHB dHB (fun a => SmallS a.1) (fun a => Qg1 a.1 a.2) (fun v => v) (eHB (s, is)) from rfl).trans (Qab _ (Qzn (s, is)))
structure Job where
 maker : Int
 slot : Int
 day : Int
 deriving DecidableEq
def eJob (j : Job) : List V := [.i j.maker, .i j.slot, .i j.day]
def dJob : List V → Job | [.i a, .i b, .i c] => ⟨a, b, c⟩ | _ => ⟨0, 0, 0⟩
theorem Qyc (j : Job) : dJob (eJob j) = j := rfl
def Qgo (s : Shop) (p : Int × Int) (j : Job) : Bool := decide (p.2 ≤ j.day) && decide (0 < (aget (Qbn s.work) [p.1, j.maker, j.slot]).getD 0)
theorem Zdg (w : Work) : ∀ k ∈ aks (Qbn w), k.length = 3 := Qmd _ kI_3
theorem Qws (w : Work) (k : List Int) : ((avs V.i (Qbn w))[(aks (Qbn w)).idxOf k]?).getD (.i 0) = .i ((aget (Qbn w) k).getD 0) := by
 rw [Qmc]
 cases aget (Qbn w) k <;> rfl
theorem W64 (s : Shop) (p : Int × Int) (j : Job) : Qa5 Tryz.prog 64 [.pa (Qaz s), .ag (eSp p), .ag (eJob j)] (.b (Qgo s p j)) := by
 refine Qa4 Zfn hmix Tryz.func64 cf64.b cf64.c cf64.s cf64.n ?_
 have h3 := Zdg s.work
 have hg := Qws s.work [p.1, j.maker, j.slot]
 unfold Qgo
 by_cases e : p.2 ≤ j.day
 ·simp only [rc64, rs64, Qaz, eSp, eJob, e, Qbq, Qwq, hg, Qaq, lkpV, keyL, Qbq, Qa0, runX, fpQ, fpV, Qak, Qaw, Qdl, Qa2, Qa1, ↓reduceIte, Nat.reduceEqDiff, Nat.reduceAdd, Nat.reduceLeDiff, rvs, zipA, beq_self_eq_true, Qu, Qa, Q9, forall_const, implies_true, reduceCtorEq, Qk, BU1]
  exact h3
 ·simp only [rc64, rs64, Qaz, eSp, eJob, e, Qbq, Qwq, hg, Qaq, lkpV, keyL, Qbq, Qa0, runX, fpQ, fpV, Qak, Qaw, Qdl, Qa2, Qa1, ↓reduceIte, Nat.reduceEqDiff, Nat.reduceAdd, Nat.reduceLeDiff, rvs, zipA, Qa, forall_const, implies_true, reduceCtorEq, Qk, imp_self, BU1]
def eG (a : Shop × (Int × Int) × Job) : List V := [.pa (Qaz a.1), .ag (eSp a.2.1), .ag (eJob a.2.2)]
def dG : List V → Shop × (Int × Int) × Job | [.pa s, .ag p, .ag j] => (Qdc s, dSp p, dJob j) | _ => (Qdc [], (0, 0), ⟨0, 0, 0⟩)
theorem dG_e (a : Shop × (Int × Int) × Job) : dG (eG a) = a := by obtain ⟨s, p, j⟩ := a; simp [dG, eG, Qg9, Zhj, Qyc]
noncomputable def K78 : Gam := K77.ext 64 (fnG eG dG (fun _ => True) (fun a => Qgo a.1 a.2.1 a.2.2) (.b))
theorem Qx7 : GOk Tryz.prog K78 := Zfn.ext (f := 64) (fun a w => Tryz.call64 a w) (Qad (e := eG) (d := dG) (ok := fun _ => True) (g := fun a => Qgo a.1 a.2.1 a.2.2) (eb := .b) fun a h => W64 a.1 a.2.1 a.2.2)
theorem h64 (s : Shop) (p : Int × Int) (j : Job) : K78 64 [.pa (Qaz s), .ag (eSp p), .ag (eJob j)] = (True, .b (Qgo s p j)) := (show K78 64 _ = fnG eG dG (fun _ => True) (fun a => Qgo a.1 a.2.1 a.2.2) (.b) (eG (s, p, j)) from rfl).trans (Qab _ (dG_e (s, p, j)))
def Qc3 (s : Shop) (i : Nat) : Wish := s.wishes.getD i ⟨[], ⟨0, 0⟩, 0, 0, 0⟩
def Qba (s : Shop) (i : Int) : Piece := s.pieces.getD i.toNat ⟨0, 0, 0, 0, []⟩
def dayN (s : Shop) (x : Wish) (p : Piece) : Int := if Qd1 x p = 2 then x.due - s.carve else x.due
def jobW (s : Shop) (i : Nat) (piece : Int) : Option (List Job) :=
 if piece < 0 then some [] else if Qd1 (Qc3 s i) (Qba s piece) = 0 then none else
  if dayN s (Qc3 s i) (Qba s piece) < 0 then none else some ((Qba s piece).broken.map fun k => ⟨(Qba s piece).make, k, dayN s (Qc3 s i) (Qba s piece)⟩)
def Qfx (s : Shop) (plan : List Int) : Nat → Option (List Job)
 | 0 => some []
 | k + 1 => match Qfx s plan k, jobW s k (plan.getD k 0) with
  | some a, some b => some (a ++ b)
  | _, _ => none
def Qdy (s : Shop) (plan : List Int) : Option (List Job) := Qfx s plan plan.length
def Qek : Option (List Job) → V | some l => .tp [.sl 3 (l.map eJob), .b true] | none => .tp [.sl 3 [], .b false]
theorem Qlw {s : Shop} {plan : List Int} {k : Nat} (h : Qfx s plan k = none) : ∀ n, k ≤ n → Qfx s plan n = none
  | 0, hn => by have : k = 0 := by omega
                subst this; exact h
  | n + 1, hn => by
    by_cases e : k = n + 1
    · subst e; exact h
    · have := Qlw h n (by omega)
      simp only [Qfx, this]
theorem Qhr {s : Shop} {x : Int} (h : 0 ≤ x ∧ x < s.pieces.length) : s.pieces[x.toNat]? = some (Qba s x) := by
 unfold Qba
 rw [Qi, Qc (by omega)]; rfl
theorem Qi2 {s : Shop} {i : Nat} (h : i < s.wishes.length) : s.wishes[i]? = some (Qc3 s i) := by
 unfold Qc3
 rw [Qi, Qc h]; rfl
structure OkSt (s : Shop) : Prop where
 w : OkW s.work
 s : OkSh s
structure OkPl (s : Shop) (plan : List Int) : Prop where
 st : OkSt s
 len : plan.length ≤ s.wishes.length
 pc : ∀ x ∈ plan, x < s.pieces.length
theorem Qtb (l : List Job) : ((l.map eJob).flatten).length = l.length * 3 := Qar (e := eJob) (k := 3) (fun _ => rfl) l
theorem Qn0 (l : List Job) : Qa1 ((l.map eJob).flatten) = false := Qac (e := eJob) (fun _ => rfl) l
theorem Qw9 (l : List Job) : Qcg 3 ((l.map eJob).flatten) 0 l.length = l.map eJob := Qai (e := eJob) (k := 3) (fun _ => rfl) l
theorem Zip (hp : List Blk) (n : Nat) (l : List Job) : (l.map eJob).map (fun r => r.map (vw hp (n + 1))) = l.map eJob := Qag (e := eJob) hp (n + 1) (fun _ => rfl) l
theorem Qnk {s : Shop} {p : Piece} (hw : OkW s.work) (h : Qci s p = true) : p.broken.length ≤ 4 := by
 unfold Qci at h
 simp only [Qv] at h
 obtain ⟨⟨_, hm⟩, hr⟩ := h
 unfold risB at hr
 rw [Qv] at hr
 obtain ⟨h1, h2, h3⟩ := Qe9 hm
 have hl := (hw.make _ (Qf h3)).1
 have hin : ∀ x ∈ p.broken, 0 ≤ x ∧ x ≤ (Qbm s.work p.make).length - 1 := fun x hx => Qav.1 (Xq.1 hr.1 x hx)
 have hlt : ∀ (k : Nat) (x : Int), p.broken[k]? = some x → (k : Int) ≤ x := by
  intro k
  induction k with
  | zero => intro x hx; exact (hin x (Qf hx)).1
  | succ k ih =>
   intro x hx
   obtain ⟨y, hy⟩ : ∃ y, p.broken[k]? = some y := ⟨_, Qc (by have := Qaf hx; omega)⟩
   have := (Qdt _).1 hr.2 k y x hy hx
   have := ih y hy
   omega
 by_cases h0 : p.broken.length = 0
 ·omega
 ·obtain ⟨x, hx⟩ : ∃ x, p.broken[p.broken.length - 1]? = some x := ⟨_, Qc (by omega)⟩
  have h4 := hlt _ x hx
  have h5 := (hin x (Qf hx)).2
  omega
theorem Zbt (x : Wish) (p : Piece) : K78 63 [.ag (eWish x), .ag (ePiece p)] = (x.colors.length < 10000000, .i (Qd1 x p)) := h63 x p
theorem Qka {s : Shop} {plan : List Int} (h : OkPl s plan) : ∀ (k : Nat) (l : List Job), k ≤ plan.length → Qfx s plan k = some l → l.length ≤ k * 4
 | 0, l, _, e => by simp only [Qfx, Xf.injEq] at e; subst e; simp
 | k + 1, l, hk, e => by
  simp only [Qfx] at e
  cases e1 : Qfx s plan k with
  | none => rw [e1] at e; cases e
  | some a =>
   cases e2 : jobW s k (plan.getD k 0) with
   | none => rw [e1, e2] at e; cases e
   | some b =>
    rw [e1, e2] at e
    simp only [Xf.injEq] at e
    have h1 := Qka h k a (by omega) e1
    have h2 : b.length ≤ 4 := by
     unfold jobW at e2
     split at e2
     ·cases e2; simp
     ·rename_i hn
      split at e2
      ·cases e2
      ·split at e2
       ·cases e2
       ·cases e2
        rw [Za]
        have hx : plan.getD k 0 < s.pieces.length := by
         rw [Qi, Qc (by omega), Qq]
         exact h.pc _ (Z2 _)
        have hg := Qhr (s := s) (x := plan.getD k 0) ⟨by omega, hx⟩
        exact Qnk h.st.w (h.st.s.pc _ (Qf hg))
    rw [← e, Qg]; omega
set_option maxHeartbeats 4000000 in
theorem W36 (s : Shop) (plan : List Int) (h : OkPl s plan) : Qa5 Tryz.prog 36 [.pa (Qaz s), .sl 1 (plan.map eI)] (Qek (Qdy s plan)) := by
 refine Qa4 Qx7 hmix Tryz.func36 cf36.b cf36.c cf36.s cf36.n ?_
 have hlen := h.len
 have hnw := h.st.s.nwi
 have hst : Qaz s = [.sl 4 (s.work.spares.map eSpare), .sl 1 (s.work.makes.map eMake), .i s.work.cut, .sl 4 (s.work.table.map eTrial), .sl 1 (s.stock.map eI), .sl 5 (s.pieces.map ePiece), .sl 6 (s.wishes.map eWish), .sl 3 (s.dels.map eDel), .i s.carve, .sl 2 ((Qb8 s).map eSp), .pm true (aks (Qbn s.work)) (avs .i (Qbn s.work))] := rfl
 generalize (Qb8 s).map eSp = sp0 at hst
 generalize aks (Qbn s.work) = ks0 at hst
 generalize avs V.i (Qbn s.work) = vs0 at hst
 rw [hst]
 have hno : ∀ k, k ≤ plan.length → Qfx s plan k = none → Qek (Qdy s plan) = .tp [.sl 3 [], .b false] := fun k hk e => by
  unfold Qdy
  rw [Qlw e _ hk]; rfl
 simp only [rc36, rs36, Qow, Qa0, ↓reduceIte, Nat.reduceEqDiff, zipA, reduceCtorEq, BU1]
 refine Qan plan.length (fun i (A : List Job) => ⟨lkp [(0, .pa [.sl 4 (s.work.spares.map eSpare), .sl 1 (s.work.makes.map eMake), .i s.work.cut, .sl 4 (s.work.table.map eTrial), .sl 1 (s.stock.map eI), .sl 5 (s.pieces.map ePiece), .sl 6 (s.wishes.map eWish), .sl 3 (s.dels.map eDel), .i s.carve, .sl 2 sp0, .pm true ks0 vs0]), (6, .rf 0 A.length 0 A.length 3), (14, .sl 1 (plan.map eI)), (15, .i plan.length), (16, .i i)], [.cells A.length (A.map eJob).flatten]⟩)
  (fun i A => Qfx s plan i = some A) [] ?_ rfl ?_ ?_
 ·simp only [Qm, Q8, cutV, cutL, cutB, ↓reduceIte, Nat.reduceEqDiff, Nat.reduceLT, reduceCtorEq, BU1]
 ·intro i A hi hA
  have hlt : (i : Int) < plan.length := by omega
  have i1 : inI ((i : Int) + 1) := by unfold inI; omega
  obtain ⟨x, hx⟩ : ∃ x, plan[i]? = some x := ⟨_, Qc hi⟩
  have hgx : plan.getD i 0 = x := by rw [Qi, hx]; rfl
  have hxp := h.pc x (Qf hx)
  have hAl := Qka h i A (by omega) hA
  have hstep : Qfx s plan (i + 1) = match jobW s i x with | some b => some (A ++ b) | none => none := by
   simp only [Qfx, hA, hgx]
   cases jobW s i x <;> rfl
  by_cases x0 : x < 0
  ·have hW : jobW s i x = some [] := by unfold jobW; rw [if_pos x0]
   rw [hW] at hstep
   simp only [Zi] at hstep
   simp only [hlt, hx, x0, i1, Qa3 _ _ _ (Qn0 _), Qe, Qd, Qbd, ↓Qam, Qa0, cutV, cutB, ↓reduceIte, Nat.reduceEqDiff, Nat.reduceLT, Nat.reduceLeDiff, Qa, reduceCtorEq, eI, BU1]
   exact ⟨A, hstep, rfl⟩
  have hwx := Qi2 (s := s) (i := i) (by omega)
  have hpx := Qhr (s := s) (x := x) ⟨by omega, hxp⟩
  have hokw := h.st.s.wi _ (Qf hwx)
  have hokp := h.st.s.pc _ (Qf hpx)
  have hbl := Qnk h.st.w hokp
  have hcol : (Qc3 s i).colors.length < 10000000 := by
   unfold okWish at hokw
   simp only [Qv, Qav] at hokw
   omega
  have hdue : 0 ≤ (Qc3 s i).due ∧ (Qc3 s i).due ≤ 99 := by
   unfold okWish at hokw
   simp only [Qv, Qav] at hokw
   exact hokw.1.2
  have hcar := h.st.s.carve
  have g := Zbt (Qc3 s i) (Qba s x)
  simp only [eWish, ePiece] at g
  have hiw : (i : Int) < s.wishes.length := by omega
  have hx0 : 0 ≤ x ∧ x < s.pieces.length := by omega
  have hWx : jobW s i x = if Qd1 (Qc3 s i) (Qba s x) = 0 then none else if dayN s (Qc3 s i) (Qba s x) < 0 then none else some ((Qba s x).broken.map fun k => ⟨(Qba s x).make, k, dayN s (Qc3 s i) (Qba s x)⟩) := by unfold jobW; rw [if_neg x0]
  have hday : dayN s (Qc3 s i) (Qba s x) = if Qd1 (Qc3 s i) (Qba s x) = 2 then (Qc3 s i).due - s.carve else (Qc3 s i).due := rfl
  generalize Qc3 s i = X at *
  generalize Qba s x = p at *
  by_cases s0 : Qd1 X p = 0
  ·rw [if_pos s0] at hWx
   rw [hWx] at hstep
   have q := hno (i + 1) (by omega) hstep
   simp only [hlt, hx, x0, hwx, hpx, hiw, hx0, g, hcol, s0, q, Qaq, optL, Qa0, runX, fpQ, fpV, Qah, Qa2, Qa1, flat, ↓reduceIte, Nat.reduceEqDiff, Nat.reduceAdd, Nat.reduceLT, Nat.reduceLeDiff, Nat.reduceBEq, Qs, Qt, rvs, vw_z, Qd7, beq_self_eq_true, Qu, Zv, Qx, Qa, implies_true, reduceCtorEq, Qw, Ql, Qk, eI, ePiece, eWish, BU1]
  rw [if_neg s0] at hWx
  by_cases s2 : Qd1 X p = 2
  ·have i3 : inI (X.due - s.carve) := by unfold inI; omega
   rw [if_pos s2] at hday
   by_cases d0 : X.due - s.carve < 0
   ·rw [if_pos (by rw [hday]; exact d0)] at hWx
    rw [hWx] at hstep
    have q := hno (i + 1) (by omega) hstep
    simp only [hlt, hx, x0, hwx, hpx, hiw, hx0, g, hcol, s2, i3, d0, q, Qaq, optL, Qa0, runX, fpQ, fpV, Qah, Qa2, Qa1, flat, ↓reduceIte, Nat.reduceEqDiff, Nat.reduceAdd, Nat.reduceLT, Nat.reduceLeDiff, Nat.reduceBEq, Int.reduceEq, Qs, Qt, rvs, vw_z, Qd7, beq_self_eq_true, Qu, Zv, Qx, Qa, implies_true, reduceCtorEq, Qw, Ql, Qk, eI, ePiece, eWish, BU1]
   ·rw [if_neg (by rw [hday]; exact d0)] at hWx
    simp only [hlt, hx, x0, hwx, hpx, hiw, hx0, g, hcol, s2, i3, d0, Qaq, optL, Qa0, runX, fpQ, fpV, Qah, Qa2, Qa1, flat, ↓reduceIte, Nat.reduceEqDiff, Nat.reduceAdd, Nat.reduceLT, Nat.reduceLeDiff, Nat.reduceBEq, Int.reduceEq, Qs, Qt, beq_self_eq_true, Qu, Zv, Qx, Qa, implies_true, reduceCtorEq, Qw, Ql, Qk, eI, ePiece, eWish, BU1]
    rw [hWx] at hstep
    obtain ⟨D, hD⟩ : ∃ D, D = dayN s X p := ⟨_, rfl⟩
    rw [← hD] at hstep hday
    refine Qb5 p.broken.length (fun j => ⟨lkp [(0, .pa [.sl 4 (s.work.spares.map eSpare), .sl 1 (s.work.makes.map eMake), .i s.work.cut, .sl 4 (s.work.table.map eTrial), .sl 1 (s.stock.map eI), .sl 5 (s.pieces.map ePiece), .sl 6 (s.wishes.map eWish), .sl 3 (s.dels.map eDel), .i s.carve, .sl 2 sp0, .pm true ks0 vs0]), (6, .rf 0 (A.length + j) 0 (A.length + j) 3), (10, .ad 2 0 0), (11, .i D), (14, .sl 1 (plan.map eI)), (15, .i plan.length), (16, .i i), (58, .sl 1 (p.broken.map eI)), (59, .i p.broken.length), (60, .i j)],
      [.cells (A.length + j) ((A ++ (p.broken.take j).map fun k => (⟨p.make, k, D⟩ : Job)).map eJob).flatten, .cells 0 [.sl 1 (X.colors.map eI), .i X.size.low, .i X.size.high, .i X.letter, .i X.due, .i X.price], .cells 0 [.i p.color, .i p.size, .i p.letter, .i p.make, .sl 1 (p.broken.map eI)]]⟩) ?_ ?_ ?_
    ·simp only [Qm, hday, ↓reduceIte, Nat.reduceEqDiff, reduceCtorEq, BU1]
    ·intro j hj
     obtain ⟨k, hk⟩ : ∃ k, p.broken[j]? = some k := ⟨_, Qc hj⟩
     have hjt : (j : Int) < p.broken.length := by omega
     have i4 : inI ((j : Int) + 1) := by unfold inI; omega
     have f1 : Qao (A.length + j + 1) := by unfold Qao; omega
     have hml : (A ++ (p.broken.take j).map fun k => (⟨p.make, k, D⟩ : Job)).length = A.length + j := by rw [Qg, Za, Zp]; omega
     have htk := Qa8 hk
     have e1 : A.length + (j + 1) = A.length + j + 1 := rfl
     have hap : A ++ (p.broken.take (j + 1)).map (fun k => (⟨p.make, k, D⟩ : Job)) = (A ++ (p.broken.take j).map fun k => (⟨p.make, k, D⟩ : Job)) ++ [⟨p.make, k, D⟩] := by rw [htk, Qy, Q2]; rfl
     rw [hap]
     generalize A ++ (p.broken.take j).map (fun k => (⟨p.make, k, D⟩ : Job)) = B at *
     simp only [hjt, hk, i4, f1, e1, Qtb, hml, Qy, Qo, Zl, Q8, eJob, Qe, Qd, Qck, Qa0, Qbt, Qak, Qaw, Qb2, Qah, Qa2, Qa1, ↓reduceIte, Nat.reduceEqDiff, Nat.reduceAdd, Nat.reduceMul, Nat.reduceLeDiff, Qs, beq_self_eq_true, Qa, reduceCtorEq, not_false_eq_true, ne_eq, eI, BU1]
    ·have hjt : ¬ ((p.broken.length : Int) < p.broken.length) := by omega
     simp only [hjt, i1, Zq, Qa3 _ _ _ (Qn0 _), Qe, Qd, Qbd, ↓Qam, Qa0, cutV, cutB, ↓reduceIte, Nat.reduceEqDiff, Nat.reduceLT, Qdj, Qa, reduceCtorEq, BU1]
     refine ⟨A ++ p.broken.map _, hstep, ?_⟩
     rw [Qg, Za]
  ·rw [if_neg s2] at hday
   have d0 : ¬ X.due < 0 := by omega
   rw [if_neg (by rw [hday]; exact d0)] at hWx
   simp only [hlt, hx, x0, hwx, hpx, hiw, hx0, g, hcol, s0, s2, d0, Qaq, optL, Qa0, runX, fpQ, fpV, Qah, Qa2, Qa1, flat, ↓reduceIte, Nat.reduceEqDiff, Nat.reduceAdd, Nat.reduceLT, Nat.reduceLeDiff, Nat.reduceBEq, Qs, Qt, beq_self_eq_true, Qu, Zv, Qx, Qa, implies_true, reduceCtorEq, Qw, Ql, Qk, eI, ePiece, eWish, BU1]
   rw [hWx] at hstep
   obtain ⟨D, hD⟩ : ∃ D, D = dayN s X p := ⟨_, rfl⟩
   rw [← hD] at hstep hday
   refine Qb5 p.broken.length (fun j => ⟨lkp [(0, .pa [.sl 4 (s.work.spares.map eSpare), .sl 1 (s.work.makes.map eMake), .i s.work.cut, .sl 4 (s.work.table.map eTrial), .sl 1 (s.stock.map eI), .sl 5 (s.pieces.map ePiece), .sl 6 (s.wishes.map eWish), .sl 3 (s.dels.map eDel), .i s.carve, .sl 2 sp0, .pm true ks0 vs0]), (6, .rf 0 (A.length + j) 0 (A.length + j) 3), (10, .ad 2 0 0), (11, .i D), (14, .sl 1 (plan.map eI)), (15, .i plan.length), (16, .i i), (58, .sl 1 (p.broken.map eI)), (59, .i p.broken.length), (60, .i j)],
     [.cells (A.length + j) ((A ++ (p.broken.take j).map fun k => (⟨p.make, k, D⟩ : Job)).map eJob).flatten, .cells 0 [.sl 1 (X.colors.map eI), .i X.size.low, .i X.size.high, .i X.letter, .i X.due, .i X.price], .cells 0 [.i p.color, .i p.size, .i p.letter, .i p.make, .sl 1 (p.broken.map eI)]]⟩) ?_ ?_ ?_
   ·simp only [Qm, hday, ↓reduceIte, Nat.reduceEqDiff, reduceCtorEq, BU1]
   ·intro j hj
    obtain ⟨k, hk⟩ : ∃ k, p.broken[j]? = some k := ⟨_, Qc hj⟩
    have hjt : (j : Int) < p.broken.length := by omega
    have i4 : inI ((j : Int) + 1) := by unfold inI; omega
    have f1 : Qao (A.length + j + 1) := by unfold Qao; omega
    have hml : (A ++ (p.broken.take j).map fun k => (⟨p.make, k, D⟩ : Job)).length = A.length + j := by rw [Qg, Za, Zp]; omega
    have htk := Qa8 hk
    have e1 : A.length + (j + 1) = A.length + j + 1 := rfl
    have hap : A ++ (p.broken.take (j + 1)).map (fun k => (⟨p.make, k, D⟩ : Job)) = (A ++ (p.broken.take j).map fun k => (⟨p.make, k, D⟩ : Job)) ++ [⟨p.make, k, D⟩] := by rw [htk, Qy, Q2]; rfl
    rw [hap]
    generalize A ++ (p.broken.take j).map (fun k => (⟨p.make, k, D⟩ : Job)) = B at *
    simp only [hjt, hk, i4, f1, e1, Qtb, hml, Qy, Qo, Zl, Q8, eJob, Qe, Qd, Qck, Qa0, Qbt, Qak, Qaw, Qb2, Qah, Qa2, Qa1, ↓reduceIte, Nat.reduceEqDiff, Nat.reduceAdd, Nat.reduceMul, Nat.reduceLeDiff, Qs, beq_self_eq_true, Qa, reduceCtorEq, not_false_eq_true, ne_eq, eI, BU1]
   ·have hjt : ¬ ((p.broken.length : Int) < p.broken.length) := by omega
    simp only [hjt, i1, Zq, Qa3 _ _ _ (Qn0 _), Qe, Qd, Qbd, ↓Qam, Qa0, cutV, cutB, ↓reduceIte, Nat.reduceEqDiff, Nat.reduceLT, Qdj, Qa, reduceCtorEq, BU1]
    refine ⟨A ++ p.broken.map _, hstep, ?_⟩
    rw [Qg, Za]
 ·intro A hA
  have hlt : ¬ ((plan.length : Int) < plan.length) := by omega
  have q : Qdy s plan = some A := hA
  simp only [hlt, q, Qek, Qtb, Qr, Qw9, Zip, Qa0, ↓reduceIte, Nat.reduceEqDiff, rvs, Qd7, Qdk, Qa, reduceCtorEq, BU1]
def takK (s : Shop) (plan : List Int) (k : Nat) : Int := ((Qn k).map fun (i : Nat) => if plan.getD i 0 = -1 then 0 else (Qc3 s i).price).sum
def takN (s : Shop) (plan : List Int) : Int := takK s plan plan.length
theorem Qp5 (s : Shop) (plan : List Int) (k : Nat) : takK s plan (k + 1) = takK s plan k + if plan.getD k 0 = -1 then 0 else (Qc3 s k).price := by
 unfold takK
 rw [Ze, Qy, List.sum_append]; simp
theorem Qj0 {x : Wish} (h : okWish x = true) : 0 ≤ x.price ∧ x.price ≤ 100000 := by
 unfold okWish at h
 rw [Qv] at h
 exact Qav.1 h.2
theorem Quj {s : Shop} (hs : OkSh s) (plan : List Int) : ∀ k, k ≤ s.wishes.length → 0 ≤ takK s plan k ∧ takK s plan k ≤ k * 100000
 | 0, _ => by simp [takK]
 | k + 1, hk => by
  have ih := Quj hs plan k (by omega)
  have hp := Qj0 (hs.wi _ (Qf (Qi2 (s := s) (i := k) (by omega))))
  rw [Qp5]
  split <;> omega
theorem W56 (s : Shop) (plan : List Int) (h : OkSt s) (hl : plan.length ≤ s.wishes.length) : Qa5 Tryz.prog 56 [.pa (Qaz s), .sl 1 (plan.map eI)] (.i (takN s plan)) := by
 refine Qa4 Qx7 hmix Tryz.func56 cf56.b cf56.c cf56.s cf56.n ?_
 have hnw := h.s.nwi
 have hst : Qaz s = [.sl 4 (s.work.spares.map eSpare), .sl 1 (s.work.makes.map eMake), .i s.work.cut, .sl 4 (s.work.table.map eTrial), .sl 1 (s.stock.map eI), .sl 5 (s.pieces.map ePiece), .sl 6 (s.wishes.map eWish), .sl 3 (s.dels.map eDel), .i s.carve, .sl 2 ((Qb8 s).map eSp), .pm true (aks (Qbn s.work)) (avs .i (Qbn s.work))] := rfl
 generalize (Qb8 s).map eSp = sp0 at hst
 generalize aks (Qbn s.work) = ks0 at hst
 generalize avs V.i (Qbn s.work) = vs0 at hst
 rw [hst]
 simp only [rc56, rs56, Qa0, ↓reduceIte, Nat.reduceEqDiff, Int.reduceNeg, zipA, reduceCtorEq, BU1]
 refine Qb5 plan.length (fun i => ⟨lkp [(0, .pa [.sl 4 (s.work.spares.map eSpare), .sl 1 (s.work.makes.map eMake), .i s.work.cut, .sl 4 (s.work.table.map eTrial), .sl 1 (s.stock.map eI), .sl 5 (s.pieces.map ePiece), .sl 6 (s.wishes.map eWish), .sl 3 (s.dels.map eDel), .i s.carve, .sl 2 sp0, .pm true ks0 vs0]), (4, .i (takK s plan i)), (7, .sl 1 (plan.map eI)), (8, .i plan.length), (9, .i i)], []⟩) ?_ ?_ ?_
 ·simp only [Qm, takK, Qz, List.sum_nil, ↓reduceIte, Nat.reduceEqDiff, Int.reduceNeg, reduceCtorEq, BU1]
 ·intro i hi
  have hlt : (i : Int) < plan.length := by omega
  have i1 : inI ((i : Int) + 1) := by unfold inI; omega
  obtain ⟨x, hx⟩ : ∃ x, plan[i]? = some x := ⟨_, Qc hi⟩
  have hgx : plan.getD i 0 = x := by rw [Qi, hx]; rfl
  have hwx := Qi2 (s := s) (i := i) (by omega)
  have hsu := Qp5 s plan i
  rw [hgx] at hsu
  have hle := Quj h.s plan i (by omega)
  have hpr := Qj0 (h.s.wi _ (Qf hwx))
  have i2 : inI (takK s plan i + (Qc3 s i).price) := by unfold inI; omega
  have hiw : (i : Int) < s.wishes.length := by omega
  by_cases e : x = -1
  ·rw [if_pos e, Int.add_zero] at hsu
   simp only [hlt, hx, e, i1, hsu, Qe, Qd, Qa0, ↓reduceIte, Nat.reduceEqDiff, Nat.reduceLeDiff, Int.reduceNeg, Qa, reduceCtorEq, eI, BU1]
  ·rw [if_neg e] at hsu
   simp only [hlt, hx, e, i1, i2, hsu, hwx, hiw, eWish, Qe, Qd, Qa0, ↓reduceIte, Nat.reduceEqDiff, Nat.reduceAdd, Nat.reduceLeDiff, Int.reduceNeg, Qa, reduceCtorEq, eI, eWish, BU1]
 ·have hlt : ¬ ((plan.length : Int) < plan.length) := by omega
  simp only [hlt, Qa0, ↓reduceIte, Nat.reduceEqDiff, Int.reduceNeg, rvs, V.i.injEq, Qa, reduceCtorEq, BU1]
  rfl
def canJ (s : Shop) (j : Job) (k : Nat) : Bool := (Qn k).any fun (n : Nat) => Qgo s ((n : Int), (0 : Int)) j
def canN (s : Shop) (l : List Job) : Bool := l.all fun j => canJ s j s.stock.length
theorem Qs2 (s : Shop) (j : Job) (k : Nat) : canJ s j (k + 1) = (canJ s j k || Qgo s ((k : Int), (0 : Int)) j) := by simp [canJ, Ze]
theorem W37 (s : Shop) (l : List Job) (hs : s.stock.length ≤ 1000000) (hl : l.length ≤ 1000000) : Qa5 Tryz.prog 37 [.pa (Qaz s), .sl 3 (l.map eJob)] (.b (canN s l)) := by
 refine Qa4 Qx7 hmix Tryz.func37 cf37.b cf37.c cf37.s cf37.n ?_
 have g : ∀ (n : Int) (j : Job), K78 64 [.pa (Qaz s), .ag [.i n, .i 0], .ag [.i j.maker, .i j.slot, .i j.day]] = (True, .b (Qgo s (n, (0 : Int)) j)) := fun n j => h64 s (n, 0) j
 have hst : Qaz s = [.sl 4 (s.work.spares.map eSpare), .sl 1 (s.work.makes.map eMake), .i s.work.cut, .sl 4 (s.work.table.map eTrial), .sl 1 (s.stock.map eI), .sl 5 (s.pieces.map ePiece), .sl 6 (s.wishes.map eWish), .sl 3 (s.dels.map eDel), .i s.carve, .sl 2 ((Qb8 s).map eSp), .pm true (aks (Qbn s.work)) (avs .i (Qbn s.work))] := rfl
 generalize (Qb8 s).map eSp = sp0 at hst
 generalize aks (Qbn s.work) = ks0 at hst
 generalize avs V.i (Qbn s.work) = vs0 at hst
 rw [hst] at g ⊢
 simp only [rc37, rs37, Qa0, ↓reduceIte, Nat.reduceEqDiff, zipA, reduceCtorEq, BU1]
 refine Qap l.length (fun i => ⟨lkp [(0, .pa [.sl 4 (s.work.spares.map eSpare), .sl 1 (s.work.makes.map eMake), .i s.work.cut, .sl 4 (s.work.table.map eTrial), .sl 1 (s.stock.map eI), .sl 5 (s.pieces.map ePiece), .sl 6 (s.wishes.map eWish), .sl 3 (s.dels.map eDel), .i s.carve, .sl 2 sp0, .pm true ks0 vs0]), (9, .sl 3 (l.map eJob)), (10, .i l.length), (11, .i i)], []⟩) (fun i => ∀ k x, k < i → l[k]? = some x → canJ s x s.stock.length = true) ?_ ?_ ?_ ?_
 ·simp only [Qm, cutV, ↓reduceIte, Nat.reduceEqDiff, reduceCtorEq, BU1]
 ·intro k x h; omega
 ·intro i hi hc
  have hlt : (i : Int) < l.length := by omega
  have i1 : inI ((i : Int) + 1) := by unfold inI; omega
  obtain ⟨j, hj⟩ : ∃ j, l[i]? = some j := ⟨_, Qc hi⟩
  simp only [hlt, hj, eJob, Qa0, Qah, ↓reduceIte, Nat.reduceEqDiff, Nat.reduceAdd, Nat.reduceLeDiff, Qa, reduceCtorEq, BU1]
  refine Qb5 s.stock.length (fun k => ⟨lkp [(0, .pa [.sl 4 (s.work.spares.map eSpare), .sl 1 (s.work.makes.map eMake), .i s.work.cut, .sl 4 (s.work.table.map eTrial), .sl 1 (s.stock.map eI), .sl 5 (s.pieces.map ePiece), .sl 6 (s.wishes.map eWish), .sl 3 (s.dels.map eDel), .i s.carve, .sl 2 sp0, .pm true ks0 vs0]), (6, .ad 0 0 0), (7, .b (canJ s j k)), (9, .sl 3 (l.map eJob)), (10, .i l.length), (11, .i i), (20, .i s.stock.length), (21, .i k)], [.cells 0 [.i j.maker, .i j.slot, .i j.day]]⟩) ?_ ?_ ?_
  ·simp only [Qm, canJ, Qz, ↓reduceIte, Nat.reduceEqDiff, reduceCtorEq, BU1]
  ·intro k hk
   have hkt : (k : Int) < s.stock.length := by omega
   have i2 : inI ((k : Int) + 1) := by unfold inI; omega
   have hsu := Qs2 s j k
   cases e : canJ s j k with
   | true =>
    rw [e, Bool.true_or] at hsu
    simp only [hkt, hsu, i2, Qe, Qd, Qa0, Qb7, Qak, Qaw, Qa2, Qa1, ↓reduceIte, Nat.reduceEqDiff, Nat.reduceAdd, Nat.reduceLT, Nat.reduceLeDiff, Qa, Q9, forall_const, implies_true, reduceCtorEq, imp_self, BU1]
   | false =>
    rw [e, Qx] at hsu
    simp only [hkt, hsu, i2, g, Qe, Qd, Qa0, Qak, Qaw, Qa2, Qa1, flat, ↓reduceIte, Nat.reduceEqDiff, Nat.reduceAdd, Nat.reduceLT, Nat.reduceLeDiff, beq_self_eq_true, Qa, forall_const, implies_true, reduceCtorEq, BU1]
  ·have hkt : ¬ ((s.stock.length : Int) < s.stock.length) := by omega
   cases e : canJ s j s.stock.length with
   | false =>
    have q : canN s l = false := Qeu (p := fun j => canJ s j s.stock.length) hj e
    simp only [hkt, q, Qa0, ↓reduceIte, Nat.reduceEqDiff, rvs, Qa, reduceCtorEq, BU1]
   | true =>
    simp only [hkt, i1, Qe, Qd, Qbd, ↓Qam, Qa0, cutV, ↓reduceIte, Nat.reduceEqDiff, Qa, reduceCtorEq, BU1]
    exact Qc9 (p := fun j => canJ s j s.stock.length) hj e hc
 ·intro hc
  have hlt : ¬ ((l.length : Int) < l.length) := by omega
  have q : canN s l = true := Qdn (p := fun j => canJ s j s.stock.length) hc
  simp only [hlt, q, Qa0, ↓reduceIte, Nat.reduceEqDiff, rvs, Qa, reduceCtorEq, BU1]
end Go.CS
set_option linter.all false
namespace Go.CS
open Go.Fam
abbrev Giv := Bool × List Int × List Int
def Qda (gd : Nat → Int → Bool) (rec : List Int → Int → List Int → Giv) (own : Int) : List Nat → List Int → List Int → Giv
 | [], g, s => (false, g, s)
 | i :: l, g, s =>
  if (i : Int) ∈ s ∨ gd i own = false then Qda gd rec own l g s
  else if g[i]?.getD 0 = -1 then (true, g.set i own, s ++ [(i : Int)])
  else if (rec g (g[i]?.getD 0) (s ++ [(i : Int)])).1 = true then (true, (rec g (g[i]?.getD 0) (s ++ [(i : Int)])).2.1.set i own, (rec g (g[i]?.getD 0) (s ++ [(i : Int)])).2.2)
  else Qda gd rec own l (rec g (g[i]?.getD 0) (s ++ [(i : Int)])).2.1 (rec g (g[i]?.getD 0) (s ++ [(i : Int)])).2.2
def Qcf (gd : Nat → Int → Bool) (n : Nat) : Nat → List Int → Int → List Int → Giv
 | 0, g, _, s => (false, g, s)
 | f + 1, g, own, s => Qda gd (Qcf gd n f) own (Qn n) g s
def uns (n : Nat) (s : List Int) : Nat := ((Qn n).filter fun (i : Nat) => decide ((i : Int) ∉ s)).length
theorem Qn9 {n : Nat} {s s' : List Int} (h : ∀ x ∈ s, x ∈ s') : uns n s' ≤ uns n s := by
 unfold uns
 rw [← Q6, ← Q6]
 exact Xa fun x _ hx => by simp only [decide_eq_true_eq] at hx ⊢; exact fun h' => hx (h _ h')
theorem Qna {n i : Nat} {s : List Int} (hi : i < n) (hs : (i : Int) ∉ s) : uns n (s ++ [(i : Int)]) < uns n s := by
 unfold uns
 rw [← Q6, ← Q6]
 have : ∀ l : List Nat, i ∈ l → l.countP (fun (k : Nat) => decide ((k : Int) ∉ s ++ [(i : Int)])) < l.countP fun (k : Nat) => decide ((k : Int) ∉ s) := by
  intro l
  induction l with
  | nil => simp
  | cons k l ih =>
   intro hm
   have hle : l.countP (fun (k : Nat) => decide ((k : Int) ∉ s ++ [(i : Int)])) ≤ l.countP fun (k : Nat) => decide ((k : Int) ∉ s) :=
    Xa fun x _ hx => by simp only [decide_eq_true_eq] at hx ⊢; exact fun h' => hx (Qh.2 (.inl h'))
   rw [Xr, Xr]
   by_cases hk : k = i
   ·subst hk
    rw [if_neg (by simp), if_pos (by simpa using hs)]; omega
   ·have hm' : i ∈ l := by rcases Xh.1 hm with e | e; exact absurd e.symm hk; exact e
    have := ih hm'
    have e : decide ((k : Int) ∉ s ++ [(i : Int)]) = decide ((k : Int) ∉ s) := by
     congr 1
     simp only [Qh, Zw, eq_iff_iff, not_or]
     exact ⟨fun h => h.1, fun h => ⟨h, by omega⟩⟩
    rw [e]; omega
 exact this _ (Zt.2 hi)
theorem Qr2 (n : Nat) (s : List Int) : uns n s ≤ n := by
 unfold uns
 exact Zs (Z9 _ _) (by simp)
def Clo (gd : Nat → Int → Bool) (n : Nat) (g : List Int) (S : List Int) (x : Int) : Prop :=
 ∃ i : Nat, i < n ∧ x = i ∧ g[i]?.getD 0 ≠ -1 ∧ ∀ k : Nat, k < n → gd k (g[i]?.getD 0) = true → (k : Int) ∈ S
theorem Clo.mono {gd : Nat → Int → Bool} {n : Nat} {g S S' : List Int} {x : Int} (h : Clo gd n g S x) (hs : ∀ y ∈ S, y ∈ S') : Clo gd n g S' x := by
 obtain ⟨i, hi, e, h1, h2⟩ := h
 exact ⟨i, hi, e, h1, fun k hk hg => hs _ (h2 k hk hg)⟩
def Qyy (gd : Nat → Int → Bool) (n : Nat) (own : Int) (l : List Nat) (g s : List Int) (r : Giv) : Prop :=
 r.1 = false → r.2.1 = g ∧ (∀ x ∈ s, x ∈ r.2.2) ∧ (∀ i ∈ l, gd i own = true → (i : Int) ∈ r.2.2) ∧ ∀ x ∈ r.2.2, x ∉ s → Clo gd n g r.2.2 x
theorem Qic {gd : Nat → Int → Bool} {n : Nat} {rec : List Int → Int → List Int → Giv} {own : Int} {b : Nat}
  (hr : ∀ g j s, uns n s < b → Qyy gd n j (Qn n) g s (rec g j s)) : ∀ (l : List Nat) (g s : List Int), (∀ i ∈ l, i < n) → uns n s ≤ b → Qyy gd n own l g s (Qda gd rec own l g s)
 | [], g, s, _, _ => fun _ => ⟨rfl, fun x hx => hx, by simp, fun x hx hn => absurd hx hn⟩
 | i :: l, g, s, hl, hb => by
  intro hf
  unfold Qda at hf ⊢
  have hl' : ∀ i ∈ l, i < n := fun k hk => hl k (by simp [hk])
  by_cases h1 : (i : Int) ∈ s ∨ gd i own = false
  ·rw [if_pos h1] at hf ⊢
   obtain ⟨a, b', c, d⟩ := Qic hr l g s hl' hb hf
   refine ⟨a, b', fun k hk hg => ?_, d⟩
   rcases Xh.1 hk with rfl | hk
   ·rcases h1 with h1 | h1
    ·exact b' _ h1
    ·rw [h1] at hg; cases hg
   ·exact c k hk hg
  ·rw [if_neg h1] at hf ⊢
   have hs : (i : Int) ∉ s := fun h => h1 (.inl h)
   have hin : i < n := hl i (by simp)
   by_cases h2 : g[i]?.getD 0 = -1
   ·rw [if_pos h2] at hf; cases hf
   ·rw [if_neg h2] at hf ⊢
    by_cases h3 : (rec g (g[i]?.getD 0) (s ++ [(i : Int)])).1 = true
    ·rw [if_pos h3] at hf; cases hf
    ·rw [if_neg h3] at hf ⊢
     have hu := Qna hin hs
     have h3' : (rec g (g[i]?.getD 0) (s ++ [(i : Int)])).1 = false := by simpa using h3
     have hR := hr g (g[i]?.getD 0) (s ++ [(i : Int)]) (by omega) h3'
     generalize rec g (g[i]?.getD 0) (s ++ [(i : Int)]) = r at hf hR h3 h3' ⊢
     obtain ⟨a, b', c, d⟩ := hR
     rw [a] at hf ⊢
     have hu2 : uns n r.2.2 ≤ b := Zs (Qn9 fun x hx => b' x (Qh.2 (.inl hx))) hb
     obtain ⟨a2, b2, c2, d2⟩ := Qic hr l g r.2.2 hl' hu2 hf
     refine ⟨a2, fun x hx => b2 _ (b' x (Qh.2 (.inl hx))), fun k hk hg => ?_, fun x hx hxs => ?_⟩
     ·rcases Xh.1 hk with rfl | hk
      ·exact b2 _ (b' _ (by simp))
      ·exact c2 k hk hg
     ·by_cases hxr : x ∈ r.2.2
      ·by_cases hxi : x = i
       ·exact ⟨i, hin, hxi, h2, fun k hk hg => b2 _ (c k (Zt.2 hk) hg)⟩
       ·exact (d x hxr (by simp [hxs, hxi])).mono b2
      ·exact d2 x hx hxr
theorem Qlr {gd : Nat → Int → Bool} {n : Nat} : ∀ (f : Nat) (g : List Int) (own : Int) (s : List Int), uns n s < f → Qyy gd n own (Qn n) g s (Qcf gd n f g own s)
 | 0, _, _, _, h => by omega
 | f + 1, g, own, s, h => by
  unfold Qcf
  exact Qic (b := f) (fun g j s hs => Qlr f g j s hs) (Qn n) g s (by simp) (by omega)
theorem Qid {gd : Nat → Int → Bool} {rec : List Int → Int → List Int → Giv} {own : Int}
  (hr : ∀ g j s, (rec g j s).1 = false → (rec g j s).2.1 = g) : ∀ (l : List Nat) (g s : List Int), (Qda gd rec own l g s).1 = false → (Qda gd rec own l g s).2.1 = g
 | [], _, _, _ => rfl
 | i :: l, g, s, hf => by
  unfold Qda at hf ⊢
  split
  ·rename_i h; rw [if_pos h] at hf; exact Qid hr l g s hf
  ·rename_i h; rw [if_neg h] at hf
   split
   ·rename_i h2; rw [if_pos h2] at hf; cases hf
   ·rename_i h2; rw [if_neg h2] at hf
    split
    ·rename_i h3; rw [if_pos h3] at hf; cases hf
    ·rename_i h3; rw [if_neg h3] at hf
     have e := hr g (g[i]?.getD 0) (s ++ [(i : Int)]) (by simpa using h3)
     rw [e] at hf ⊢
     exact Qid hr l g _ hf
theorem Qga {gd : Nat → Int → Bool} {n : Nat} : ∀ (f : Nat) (g : List Int) (own : Int) (s : List Int), (Qcf gd n f g own s).1 = false → (Qcf gd n f g own s).2.1 = g
 | 0, _, _, _, _ => rfl
 | f + 1, g, own, s, h => Qid (fun g j s hs => Qga f g j s hs) (Qn n) g s h
theorem Qie {gd : Nat → Int → Bool} {rec : List Int → Int → List Int → Giv} {own : Int}
  (hr : ∀ g j s, ∀ x ∈ s, x ∈ (rec g j s).2.2) : ∀ (l : List Nat) (g s : List Int), ∀ x ∈ s, x ∈ (Qda gd rec own l g s).2.2
 | [], _, _, _, h => h
 | i :: l, g, s, x, h => by
  unfold Qda
  split
  ·exact Qie hr l g s x h
  ·split
   ·exact Qh.2 (.inl h)
   ·split
    ·exact hr _ _ _ x (Qh.2 (.inl h))
    ·exact Qie hr l _ _ x (hr _ _ _ x (Qh.2 (.inl h)))
theorem Qgb {gd : Nat → Int → Bool} {n : Nat} : ∀ (f : Nat) (g : List Int) (own : Int) (s : List Int), ∀ x ∈ s, x ∈ (Qcf gd n f g own s).2.2
 | 0, _, _, _, _, h => h
 | f + 1, g, own, s, x, h => Qie (fun g j s x hx => Qgb f g j s x hx) (Qn n) g s x h
def Clos (gd : Nat → Int → Bool) (n : Nat) (g S : List Int) : Prop := ∀ x ∈ S, Clo gd n g S x
theorem Qif {gd : Nat → Int → Bool} {n : Nat} {S : List Int} {rec : List Int → Int → List Int → Giv} {own : Int}
  (hr : ∀ g j s, Clos gd n g S → (∀ k : Nat, k < n → gd k j = true → (k : Int) ∈ S) → (rec g j s).1 = false)
  (hs : ∀ g j s, (rec g j s).1 = false → (rec g j s).2.1 = g) (ho : ∀ k : Nat, k < n → gd k own = true → (k : Int) ∈ S) :
  ∀ (l : List Nat) (g s : List Int), (∀ i ∈ l, i < n) → Clos gd n g S → (Qda gd rec own l g s).1 = false
 | [], _, _, _, _ => rfl
 | i :: l, g, s, hl, hc => by
  have hl' : ∀ i ∈ l, i < n := fun k hk => hl k (by simp [hk])
  unfold Qda
  by_cases h1 : (i : Int) ∈ s ∨ gd i own = false
  ·rw [if_pos h1]; exact Qif hr hs ho l g s hl' hc
  ·rw [if_neg h1]
   have hg : gd i own = true := by
    cases h : gd i own
    ·exact absurd (.inr h) h1
    ·rfl
   obtain ⟨i', hi', e, hne, hn⟩ := hc _ (ho i (hl i (by simp)) hg)
   have : i' = i := by omega
   subst this
   rw [if_neg hne]
   have hf := hr g (g[i']?.getD 0) (s ++ [(i' : Int)]) hc hn
   rw [if_neg (by rw [hf]; simp), hs _ _ _ hf]
   exact Qif hr hs ho l g _ hl' hc
theorem Qlt {gd : Nat → Int → Bool} {n : Nat} {S : List Int} : ∀ (f : Nat) (g : List Int) (own : Int) (s : List Int), Clos gd n g S → (∀ k : Nat, k < n → gd k own = true → (k : Int) ∈ S) → (Qcf gd n f g own s).1 = false
 | 0, _, _, _, _, _ => rfl
 | f + 1, g, own, s, hc, ho => Qif (fun g j s h1 h2 => Qlt f g j s h1 h2) (fun g j s h => Qga f g j s h) ho (Qn n) g s (by simp) hc
structure SuccR (gd : Nat → Int → Bool) (n : Nat) (own : Int) (g s g' : List Int) : Prop where
 len : g'.length = n
 cnt : ∀ j : Int, j ≠ -1 → g'.count j = g.count j + if j = own then 1 else 0
 old : ∀ i : Nat, (i : Int) ∈ s → g'[i]? = g[i]?
 val : ∀ i : Nat, i < n → g'[i]?.getD 0 ≠ -1 → gd i (g'[i]?.getD 0) = true
 off : ∀ S : List Int, Clos gd n g S → ∀ i : Nat, (i : Int) ∈ S → g'[i]? = g[i]?
def Val (gd : Nat → Int → Bool) (n : Nat) (g : List Int) : Prop := g.length = n ∧ ∀ i : Nat, i < n → g[i]?.getD 0 ≠ -1 → gd i (g[i]?.getD 0) = true
theorem Qs4 {g : List Int} {i : Nat} (hi : i < g.length) (x j : Int) : (g.set i x).count j + (if j = g[i]?.getD 0 then 1 else 0) = g.count j + if j = x then 1 else 0 := by
 induction g generalizing i with
 | nil => simp at hi
 | cons a g ih =>
  cases i with
  | zero =>
   simp only [Zc, Z7, Qp, Qq]
   have e1 : (if j = a then 1 else 0) = if (a == j) = true then 1 else (0 : Nat) := by
    by_cases h : j = a
    ·subst h; simp
    ·rw [if_neg h, if_neg (by simpa using fun e => h e.symm)]
   have e2 : (if j = x then 1 else 0) = if (x == j) = true then 1 else (0 : Nat) := by
    by_cases h : j = x
    ·subst h; simp
    ·rw [if_neg h, if_neg (by simpa using fun e => h e.symm)]
   rw [e1, e2]; omega
  | succ i =>
   simp only [List.set_cons_succ, Z7, Q0]
   have := ih (i := i) (by simpa using hi)
   omega
theorem Qig {gd : Nat → Int → Bool} {n : Nat} {rec : List Int → Int → List Int → Giv} {own : Int} (ho : own ≠ -1)
  (hr : ∀ g j s, j ≠ -1 → Val gd n g → (rec g j s).1 = true → SuccR gd n j g s (rec g j s).2.1)
  (hs : ∀ g j s, (rec g j s).1 = false → (rec g j s).2.1 = g)
  (hm : ∀ g j s, ∀ x ∈ s, x ∈ (rec g j s).2.2)
  (hst : ∀ S g j s, Clos gd n g S → (∀ k : Nat, k < n → gd k j = true → (k : Int) ∈ S) → (rec g j s).1 = false) :
  ∀ (l : List Nat) (g s : List Int), (∀ i ∈ l, i < n) → Val gd n g → (Qda gd rec own l g s).1 = true → SuccR gd n own g s (Qda gd rec own l g s).2.1
 | [], _, _, _, _, h => by cases h
 | i :: l, g, s, hl, hv, hf => by
  have hl' : ∀ i ∈ l, i < n := fun k hk => hl k (by simp [hk])
  unfold Qda at hf ⊢
  by_cases h1 : (i : Int) ∈ s ∨ gd i own = false
  ·rw [if_pos h1] at hf ⊢; exact Qig ho hr hs hm hst l g s hl' hv hf
  ·rw [if_neg h1] at hf ⊢
   have hg : gd i own = true := by
    cases h : gd i own
    ·exact absurd (.inr h) h1
    ·rfl
   have his : (i : Int) ∉ s := fun h => h1 (.inl h)
   have hin : i < n := hl i (by simp)
   have hne : ∀ k : Nat, (k : Int) ∈ s → i ≠ k := by rintro k hk rfl; exact his hk
   by_cases h2 : g[i]?.getD 0 = -1
   ·rw [if_pos h2] at hf ⊢
    refine ⟨by simp [hv.1], fun j hj => ?_, fun k hk => ?_, fun k hk => ?_, fun S hc k hk => ?_⟩
    ·have := Qs4 (g := g) (i := i) (by rw [hv.1]; exact hin) own j
     rw [h2, if_neg hj] at this; simpa using this
    ·exact Q5 (hne k hk)
    ·by_cases hki : i = k
     ·subst hki
      intro _
      simp only []
      rw [Z6 (by rw [hv.1]; exact hin)]; exact hg
     ·simp only []
      rw [Q5 hki]; exact hv.2 k hk
    ·obtain ⟨k', hk', e, hnn, _⟩ := hc _ hk
     have : k' = k := by omega
     subst this
     exact Q5 (by rintro rfl; exact hnn h2)
   ·rw [if_neg h2] at hf ⊢
    by_cases h3 : (rec g (g[i]?.getD 0) (s ++ [(i : Int)])).1 = true
    ·rw [if_pos h3] at hf ⊢
     have hR := hr g _ _ h2 hv h3
     have hb : ∀ S, Clos gd n g S → (i : Int) ∉ S := by
      intro S hc hi
      obtain ⟨k', hk', e, _, hn⟩ := hc _ hi
      have : k' = i := by omega
      subst this
      have := hst S g _ (s ++ [(k' : Int)]) hc hn
      rw [this] at h3; cases h3
     generalize rec g (g[i]?.getD 0) (s ++ [(i : Int)]) = r at hR ⊢
     have hi' : r.2.1[i]? = g[i]? := hR.old i (by simp)
     refine ⟨by simp [hR.len], fun j hj => ?_, fun k hk => ?_, fun k hk => ?_, fun S hc k hk => ?_⟩
     ·have a := Qs4 (g := r.2.1) (i := i) (by rw [hR.len]; exact hin) own j
      have b := hR.cnt j hj
      rw [hi'] at a
      simp only [] at *
      omega
     ·simp only []
      rw [Q5 (hne k hk)]; exact hR.old k (by simp [hk])
     ·by_cases hki : i = k
      ·subst hki
       intro _
       simp only []
       rw [Z6 (by rw [hR.len]; exact hin)]; exact hg
      ·simp only []
       rw [Q5 hki]; exact hR.val k hk
     ·simp only []
      rw [Q5 (by rintro rfl; exact hb S hc hk)]; exact hR.off S hc k hk
    ·rw [if_neg h3] at hf ⊢
     have e := hs g (g[i]?.getD 0) (s ++ [(i : Int)]) (by simpa using h3)
     rw [e] at hf ⊢
     have hM := hm g (g[i]?.getD 0) (s ++ [(i : Int)])
     have := Qig ho hr hs hm hst l g (rec g (g[i]?.getD 0) (s ++ [(i : Int)])).2.2 hl' hv hf
     exact ⟨this.len, this.cnt, fun k hk => this.old k (hM _ (by simp [hk])), this.val, this.off⟩
theorem Qlu {gd : Nat → Int → Bool} {n : Nat} : ∀ (f : Nat) (g : List Int) (own : Int) (s : List Int), own ≠ -1 → Val gd n g → (Qcf gd n f g own s).1 = true → SuccR gd n own g s (Qcf gd n f g own s).2.1
 | 0, _, _, _, _, _, h => by cases h
 | f + 1, g, own, s, ho, hv, h =>
  Qig ho (fun g j s h1 h2 h3 => Qlu f g j s h1 h2 h3) (fun g j s h => Qga f g j s h) (fun g j s x hx => Qgb f g j s x hx) (fun S g j s h1 h2 => Qlt f g j s h1 h2) (Qn n) g s (by simp) hv h
theorem Qk7 {gd : Nat → Int → Bool} {n : Nat} {r1 r2 : List Int → Int → List Int → Giv} {own : Int} {b : Nat}
  (hm : ∀ g j s, ∀ x ∈ s, x ∈ (r2 g j s).2.2)
  (hr : ∀ g j s, uns n s < b → r1 g j s = r2 g j s) : ∀ (l : List Nat) (g s : List Int), (∀ i ∈ l, i < n) → uns n s ≤ b → Qda gd r1 own l g s = Qda gd r2 own l g s
 | [], _, _, _, _ => rfl
 | i :: l, g, s, hl, hb => by
  have hl' : ∀ i ∈ l, i < n := fun k hk => hl k (by simp [hk])
  unfold Qda
  by_cases h1 : (i : Int) ∈ s ∨ gd i own = false
  ·rw [if_pos h1, if_pos h1]; exact Qk7 hm hr l g s hl' hb
  ·rw [if_neg h1, if_neg h1]
   have hu := Qna (hl i (by simp)) (fun h => h1 (.inl h))
   rw [hr g _ _ (by omega)]
   have hu2 : uns n (r2 g (g[i]?.getD 0) (s ++ [(i : Int)])).2.2 ≤ b := Zs (Qn9 fun x hx => hm _ _ _ x (Qh.2 (.inl hx))) hb
   rw [Qk7 hm hr l _ _ hl' hu2]
theorem Qls {gd : Nat → Int → Bool} {n : Nat} : ∀ (f f' : Nat) (g : List Int) (own : Int) (s : List Int), uns n s < f → uns n s < f' → Qcf gd n f g own s = Qcf gd n f' g own s
 | 0, _, _, _, _, h, _ => by omega
 | _, 0, _, _, _, _, h => by omega
 | f + 1, f' + 1, g, own, s, h, h' => by
  unfold Qcf
  exact Qk7 (b := uns n s) (fun g j s x hx => Qgb f' g j s x hx) (fun g j s hs => Qls f f' g j s (by omega) (by omega)) (Qn n) g s (by simp) (Qr _)
def Qcp (gd : Nat → Int → Bool) (n : Nat) : Nat → Nat × List Int
 | 0 => (0, Qb n (-1))
 | m + 1 =>
  if (Qcf gd n (n + 1) (Qcp gd n m).2 m []).1 = true then ((Qcp gd n m).1, (Qcf gd n (n + 1) (Qcp gd n m).2 m []).2.1)
  else ((Qcp gd n m).1 + 1, (Qcf gd n (n + 1) (Qcp gd n m).2 m []).2.1)
structure LackR (gd : Nat → Int → Bool) (n m : Nat) (c : Nat) (g : List Int) (S : List Int) (F : List Int) : Prop where
 val : Val gd n g
 clo : Clos gd n g S
 nod : F.Nodup
 len : F.length = c
 lt : ∀ j ∈ F, 0 ≤ j ∧ j < m
 non : ∀ j ∈ F, ∀ k : Nat, k < n → gd k j = true → (k : Int) ∈ S
 zer : ∀ j ∈ F, g.count j = 0
 one : ∀ j : Int, 0 ≤ j → j < m → j ∉ F → g.count j = 1
 up : ∀ j : Int, j ≠ -1 → ¬ (0 ≤ j ∧ j < m) → g.count j = 0
theorem Qpf (gd : Nat → Int → Bool) (n : Nat) : ∀ m : Nat, ∃ S F, LackR gd n m (Qcp gd n m).1 (Qcp gd n m).2 S F
 | 0 => by
  refine ⟨[], [], ⟨by simp [Qcp], fun i hi h => ?_⟩, by intro x hx; simp at hx, Zf, rfl, by simp, by simp, by simp, by intro j h1 h2; simp at h2; omega, fun j hj _ => ?_⟩
  ·rw [show (Qcp gd n 0).2 = Qb n (-1) from rfl, List.getElem?_replicate, if_pos hi] at h; exact absurd rfl h
  ·rw [show (Qcp gd n 0).2 = Qb n (-1) from rfl, List.count_replicate]
   rw [if_neg (by simpa using fun e => hj e.symm)]
 | m + 1 => by
  obtain ⟨S, F, h⟩ := Qpf gd n m
  unfold Qcp
  generalize hcg : Qcp gd n m = cg at h ⊢
  obtain ⟨c, g⟩ := cg
  have hgc0 : g.count (m : Int) = 0 := h.up m (by omega) (by omega)
  by_cases hb : (Qcf gd n (n + 1) g m []).1 = true
  ·simp only [hb, if_true]
   have hR := Qlu (n + 1) g m [] (by omega) h.val hb
   generalize Qcf gd n (n + 1) g m [] = r at hR ⊢
   refine ⟨S, F, ⟨hR.len, hR.val⟩, fun x hx => ?_, h.nod, h.len, fun j hj => ?_, h.non, fun j hj => ?_, fun j h1 h2 h3 => ?_, fun j h1 h2 => ?_⟩
   ·obtain ⟨i, hi, e, a, b⟩ := h.clo x hx
    have e2 := hR.off S h.clo i (by rw [← e]; exact hx)
    exact ⟨i, hi, e, by rw [e2]; exact a, by rw [e2]; exact b⟩
   ·have := h.lt j hj; omega
   ·have := h.lt j hj
    rw [hR.cnt j (by omega), h.zer j hj, if_neg (by omega)]
   ·rw [hR.cnt j (by omega)]
    by_cases hjm : j = m
    ·subst hjm; rw [hgc0, if_pos rfl]
    ·rw [h.one j h1 (by omega) h3, if_neg hjm]
   ·rw [hR.cnt j h1, h.up j h1 (by omega), if_neg (by omega)]
  ·have hb' : (Qcf gd n (n + 1) g m []).1 = false := by simpa using hb
   simp only [hb', Qa, if_false]
   obtain ⟨a, b, c', d⟩ := Qlr (gd := gd) (n := n) (n + 1) g m [] (Nat.lt_succ_of_le (Qr2 n [])) hb'
   generalize Qcf gd n (n + 1) g m [] = r at a b c' d ⊢
   rw [a]
   have hmF : (m : Int) ∉ F := fun hm => by have := h.lt _ hm; omega
   refine ⟨S ++ r.2.2, F ++ [(m : Int)], h.val, fun x hx => ?_, ?_, by simp [h.len], fun j hj => ?_, fun j hj k hk hg => ?_, fun j hj => ?_, fun j h1 h2 h3 => ?_, fun j h1 h2 => h.up j h1 (by omega)⟩
   ·rcases Qh.1 hx with hx | hx
    ·exact (h.clo x hx).mono fun y hy => Qh.2 (.inl hy)
    ·exact (d x hx (by simp)).mono fun y hy => Qh.2 (.inr hy)
   ·rw [Zn]
    exact ⟨h.nod, by simp, fun x hx y hy => by simp at hy; subst hy; rintro rfl; exact hmF hx⟩
   ·rcases Qh.1 hj with hj | hj
    ·have := h.lt j hj; omega
    ·simp at hj; omega
   ·rcases Qh.1 hj with hj | hj
    ·exact Qh.2 (.inl (h.non j hj k hk hg))
    ·simp at hj; subst hj
     exact Qh.2 (.inr (c' k (Zt.2 hk) hg))
   ·rcases Qh.1 hj with hj | hj
    ·exact h.zer j hj
    ·simp at hj; subst hj; exact hgc0
   ·have : j ≠ m := by rintro rfl; exact h3 (by simp)
    exact h.one j h1 (by omega) fun hj => h3 (by simp [hj])
theorem Qtk {α : Type} [DecidableEq α] : ∀ {T U : List α}, T.Nodup → (∀ x ∈ T, x ∈ U) → T.length ≤ U.length
 | [], _, _, _ => Xt _
 | t :: T, U, hn, hs => by
  rw [Z8] at hn
  have ht := hs t (by simp)
  have := Qtk (T := T) (U := U.erase t) hn.2 fun x hx => (List.mem_erase_of_ne (by rintro rfl; exact hn.1 hx)).2 (hs x (by simp [hx]))
  rw [List.length_erase_of_mem ht] at this
  have hp := List.length_pos_of_mem ht
  simp only [Zo]; omega
theorem Qzm {g : List Int} {a b : Nat} {x : Int} (ha : g[a]? = some x) (hb : g[b]? = some x) (h : g.count x ≤ 1) : a = b := by
 induction g generalizing a b with
 | nil => simp at ha
 | cons y g ih =>
  rw [Z7] at h
  cases a with
  | zero =>
   cases b with
   | zero => rfl
   | succ b =>
    simp only [Qp, Xf.injEq, Q0] at ha hb
    subst ha
    have := Zd.2 (Qf hb)
    simp at h; omega
  | succ a =>
   cases b with
   | zero =>
    simp only [Qp, Xf.injEq, Q0] at ha hb
    subst hb
    have := Zd.2 (Qf ha)
    simp at h; omega
   | succ b =>
    simp only [Q0] at ha hb
    rw [ih ha hb (by omega)]
theorem Qte {α β : Type} {f : α → β} : ∀ {l : List α}, (∀ a ∈ l, ∀ b ∈ l, f a = f b → a = b) → l.Nodup → (l.map f).Nodup
 | [], _, _ => Zf
 | a :: l, h, hn => by
  rw [Z8] at hn
  rw [Q1, Z8]
  refine ⟨fun hm => ?_, Qte (fun x hx y hy => h x (by simp [hx]) y (by simp [hy])) hn.2⟩
  obtain ⟨b, hb, e⟩ := Zm.1 hm
  exact hn.1 (h b (by simp [hb]) a (by simp) e ▸ hb)
theorem Qt7 {gd gd' : Nat → Int → Bool} {n m : Nat} (h : ∀ i j, gd i j = true → gd' i j = true) : (Qcp gd' n m).1 ≤ (Qcp gd n m).1 := by
 obtain ⟨S, F, a⟩ := Qpf gd n m
 obtain ⟨S', F', b⟩ := Qpf gd' n m
 generalize (Qcp gd n m).2 = g at a
 generalize (Qcp gd' n m).2 = g' at b
 let L := (Qn n).filter fun (i : Nat) => decide ((i : Int) ∈ S')
 have hL : ∀ i, i ∈ L ↔ i < n ∧ (i : Int) ∈ S' := fun i => by simp [L]
 have hLn : L.Nodup := List.Nodup.sublist List.filter_sublist List.nodup_range
 have hg : ∀ i ∈ L, ∃ j, g'[i]? = some j ∧ j ≠ -1 ∧ 0 ≤ j ∧ j < m ∧ j ∉ F' ∧ g'.count j ≤ 1 ∧ ∀ k : Nat, k < n → gd' k j = true → (k : Int) ∈ S' := by
  intro i hi
  obtain ⟨hin, hs⟩ := (hL i).1 hi
  obtain ⟨i', hi', e, hne, hn⟩ := b.clo _ hs
  have : i' = i := by omega
  subst this
  have hlt : i' < g'.length := by rw [b.val.1]; exact hin
  have hj : g'[i']? = some g'[i'] := Qc hlt
  rw [hj] at hne hn
  simp only [Qq] at hne hn
  have hc : 0 < g'.count g'[i'] := Zd.2 (Z2 hlt)
  have hr : 0 ≤ g'[i'] ∧ g'[i'] < m := by
   by_cases hq : 0 ≤ g'[i'] ∧ g'[i'] < m
   ·exact hq
   ·have := b.up _ hne hq; omega
  have hF : g'[i'] ∉ F' := fun hm => by have := b.zer _ hm; omega
  exact ⟨_, hj, hne, hr.1, hr.2, hF, by rw [b.one _ hr.1 hr.2 hF]; exact Qr _, hn⟩
 have hT : (F' ++ L.map fun i => g'[i]?.getD 0).Nodup := by
  rw [Zn]
  refine ⟨b.nod, Qte (fun x hx y hy e => ?_) hLn, fun x hx y hy e => ?_⟩
  ·obtain ⟨j, h1, _, _, _, _, h2, _⟩ := hg x hx
   obtain ⟨k, h3, _⟩ := hg y hy
   rw [h1, h3] at e
   simp only [Qq] at e
   subst e
   exact Qzm h1 h3 h2
  ·obtain ⟨i, hi, e2⟩ := Zm.1 hy
   obtain ⟨j, h1, _, _, _, hF, _⟩ := hg i hi
   rw [h1] at e2
   simp only [Qq] at e2
   subst e2; subst e
   exact hF hx
 have hpos : ∀ j : Int, 0 ≤ j → j < m → j ∉ F → (∀ k : Nat, k < n → gd' k j = true → (k : Int) ∈ S') → j ∈ L.map fun i => g[i]?.getD 0 := by
  intro j h1 h2 h3 h4
  have hc := a.one j h1 h2 h3
  have hm : j ∈ g := Zd.1 (by omega)
  obtain ⟨i, hi⟩ := List.mem_iff_getElem?.1 hm
  have hin : i < n := by
   have := Qaf hi
   rw [a.val.1] at this; exact this
  have hv := a.val.2 i hin (by rw [hi]; simp only [Qq]; omega)
  rw [hi] at hv
  exact Zm.2 ⟨i, (hL i).2 ⟨hin, h4 i hin (h _ _ hv)⟩, by rw [hi]; rfl⟩
 have hsub : ∀ x ∈ F' ++ L.map (fun i => g'[i]?.getD 0), x ∈ F ++ L.map fun i => g[i]?.getD 0 := by
  intro x hx
  by_cases hxF : x ∈ F
  ·exact Qh.2 (.inl hxF)
  ·refine Qh.2 (.inr ?_)
   rcases Qh.1 hx with hx | hx
   ·exact hpos x (b.lt x hx).1 (b.lt x hx).2 hxF (b.non x hx)
   ·obtain ⟨i, hi, e⟩ := Zm.1 hx
    obtain ⟨j, h1, _, h2, h3, _, _, h4⟩ := hg i hi
    rw [h1] at e
    simp only [Qq] at e
    subst e
    exact hpos j h2 h3 hxF h4
 have := Qtk hT hsub
 simp only [Qg, Za] at this
 have e1 := a.len
 have e2 := b.len
 omega
end Go.CS
set_option maxRecDepth 8000
namespace Go.CS
open Go.Fam Go.Proofs
def rc65 : RC := (.seq (.reg false [(cQ 10 [] (.mv (kB false)))]) (.keep [0,1,2,3,4] (.seq (.seq (.reg false [(cMv 13 0), (cZ 14 13), (cFa 15 14 9), (cLd 16 15 false 1), (cLn 17 16), (cI 18 0)]) (.keep [0,1,2,3,4,16,17,18] (.block 0 (.loop [0,1,2,3,4,16,17,18] (some 2) (.seq (.reg false [(cB 19 .lss 18 17)]) (.keep [0,1,2,3,4,16,17,18,19] (.seq (.cond (.t 19) .skip (.exit 0)) (.keep [0,1,2,3,4,16,17,18] (.seq (.block 1 (.seq (.reg false [(cMv 20 18), (cA 21 2 16 18), (cLd 22 21 true 2), ⟨(some 12), none, [], none, .w (.alc [(.i 0), (.i 0)])⟩, (cMv 11 20), ⟨none, none, [12,22], none, .w (.st 2 (.t 12) (.t 22))⟩]) (.keep [0,1,2,3,4,11,12,16,17,18] (.seq (.seq (.any true 0 [⟨(cMv 23 4), [], []⟩, ⟨(cMv 24 11), [], []⟩, ⟨(cQ 25 [23,24] (.lkp (.i 0) false 3 false (.t 23) (.t 24))), [], [0,1]⟩, ⟨(cC 26 .gtr 25 0), [], [2,0,1]⟩, ⟨(cMv 27 26), [], [3,2,0,1]⟩, ⟨(gMv 28 27 false 0), [], [4,3,2,0,1]⟩, ⟨(gQ 29 27 false [12] (.ld true 2 (.t 12))), [], [4,3,2,0,1]⟩, ⟨(gMv 30 27 false 2), [], [4,3,2,0,1]⟩, ⟨(gMv 31 27 false 3), [], [4,3,2,0,1]⟩, ⟨(gQ 32 27 false [30,31] (.iad 3 (.t 30) (.t 31))), [], [7,4,3,2,0,1,8]⟩, ⟨(gQ 33 27 false [32] (.ld true 3 (.t 32))), [], [9,7,4,3,2,0,1,8]⟩, ⟨(gQ 34 27 false [28,29,33] (.call (kF 64) [(.t 28), (.t 29), (.t 33)])), [], [5,4,3,2,0,1,6,10,9,7,8]⟩, ⟨(gQ 35 27 false [34] (.not (.t 34))), [], [11,5,4,3,2,0,1,6,10,9,7,8]⟩, ⟨(cQ 36 [27,35] (.pick (.t 27) (kB true) (.t 35))), [], [4,3,2,0,1,12,11,5,6,10,9,7,8]⟩]) (.keep [0,1,2,3,4,11,16,17,18,36] (.cond (.t 36) (.exit 1) .skip))) (.keep [0,1,2,3,4,11,16,17,18] (.seq (.reg false [(cMv 37 4), (cMv 38 11), (cQ 39 [37,38] (.lkp (.i 0) false 3 false (.t 37) (.t 38))), (cC 40 .add 39 1), ⟨none, none, [37,38,40], none, .w (.mup 3 false (.t 37) (.t 38) (.t 40))⟩]) (.keep [0,1,2,3,4,11,16,17,18] (.seq (.drp 2 (.itm [.r (cMv 41 1), .r (cMv 42 11), .r (cA 43 1 41 42), .r (cLd 44 43 false 1), .r (cQ 45 [44] (.bin .eql (.t 44) (.k (.i (-1))))), .r (cMv 46 45), .r (gMv 47 46 false 0), .r (gMv 48 46 false 1), .r (gMv 49 46 false 2), .r (gMv 50 46 false 1), .r (gMv 51 46 false 11), .r (gQ 52 46 false [50,51] (.iad 1 (.t 50) (.t 51))), .r (gQ 53 46 false [52] (.ld false 1 (.t 52))), .r (gMv 54 46 false 4), .h ⟨(some 55), (some (46, false)), [47,48,49,53,54], none, .o (kF 65) [(.t 47), (.t 48), (.t 49), (.t 53), (.t 54)]⟩, .r (cQ 56 [46,55] (.pick (.t 46) (kB true) (.t 55)))])) (.keep [0,1,2,3,4,11,16,17,18,56] (.cond (.t 56) (.seq (.reg false [(cMv 57 1), (cMv 58 11), (cMv 59 3), (cA 60 1 57 58), ⟨none, none, [60,59], none, .w (.st 1 (.t 60) (.t 59))⟩]) (.keep [] (.seq (.reg false [(cQ 10 [] (.mv (kB true)))]) .ret))) .skip)))))))))) (.drp 2 (.keep [0,1,2,3,4,16,17,18] (.reg false [(cC 61 .add 18 1), (cMv 18 61)])))))))))))) (.keep [] (.seq (.reg false [(cQ 10 [] (.mv (kB false)))]) .ret)))))
def rs65 : List RV := [.t 10]
theorem cf65 : CF Tryz.prog Tryz.f65 [] 2 1 rc65 rs65 5 := ⟨by kernel_rfl, by kernel_rfl, by kernel_rfl, by decide⟩
def rc38 : RC := (.seq (.reg false [(cI 4 0)]) (.keep [0,1] (.seq (.reg false [(cQ 8 [] (.bsl 1 1 [(.i 0)] [(0,1, (.k (.i (-1))))])), (cMv 9 0), (cZ 10 9), (cFa 11 10 9), (cLd 12 11 false 1), (cLn 13 12), ⟨(some 14), none, [8,13], none, .o (kF 40) [(.t 8), (.t 13)]⟩, (cMv 5 14)]) (.keep [0,1,5] (.seq (.reg false [(cI 6 0)]) (.keep [0,1,5,6] (.seq (.seq (.reg false [(cMv 15 1), (cLn 16 15), (cI 17 0)]) (.keep [0,1,5,6,16,17] (.block 0 (.loop [0,1,5,6,16,17] (some 1) (.seq (.reg false [(cB 18 .lss 17 16)]) (.keep [0,1,5,6,16,17,18] (.seq (.cond (.t 18) .skip (.exit 0)) (.keep [0,1,5,6,16,17] (.seq (.block 1 (.seq (.reg false [(cMv 19 17), (cMv 7 19)]) (.keep [0,1,5,6,7,16,17] (.seq (.hcl false [(cMv 20 0), (cMv 21 5), (cMv 22 1), (cMv 23 7), ⟨(some 24), none, [], none, .w (.mkm false)⟩] ⟨(some 25), none, [20,21,22,23,24], none, .o (kF 65) [(.t 20), (.t 21), (.t 22), (.t 23), (.t 24)]⟩ [(cN 26 25)]) (.keep [0,1,5,6,16,17,26] (.cond (.t 26) (.reg false [(cMv 27 6), (cC 28 .add 27 1), (cMv 6 28)]) .skip)))))) (.drp 1 (.keep [0,1,5,6,16,17] (.reg false [(cC 29 .add 17 1), (cMv 17 29)])))))))))))) (.keep [6] (.seq (.reg false [(cMv 30 6), (cMv 4 30)]) .ret)))))))))
def rs38 : List RV := [.t 4]
theorem cf38 : CF Tryz.prog Tryz.f38 [1000014,8] 0 1 rc38 rs38 2 := ⟨by kernel_rfl, by kernel_rfl, by kernel_rfl, by decide⟩
def rc41 : RC := (.seq (.reg false [(cQ 4 [] (.mv (kB false)))]) (.keep [0,1] (.seq (.reg false [(cMv 8 0), (cMv 9 1), (cQ 10 [8,9] (.call (kF 36) [(.t 8), (.t 9)])), (cMv 7 10), (cEx 11 7 0), (cEx 12 7 1), (cMv 5 11), (cMv 6 12)]) (.keep [0,5,6] (.seq (.reg true [(cMv 13 6), (cMv 14 13), (gMv 15 14 true 0), (gMv 16 14 true 5), (gQ 17 14 true [15,16] (.call (kF 38) [(.t 15), (.t 16)])), (gQ 18 14 true [17] (.bin .eql (.t 17) (kI 0))), (cQ 19 [14,18] (.pick (.t 14) (.t 18) (kB false))), (cMv 4 19)]) .ret)))))
def rs41 : List RV := [.t 4]
theorem cf41 : CF Tryz.prog Tryz.f41 [] 0 1 rc41 rs41 2 := ⟨by kernel_rfl, by kernel_rfl, by kernel_rfl, by decide⟩
end Go.CS
set_option linter.all false
namespace Go.CS
open Go.Fam Go.Proofs
open Go.C06 (Span eI eIs Qbx gI gR dI Qbl Qcj fnG Qad Qab Qa6 Qa8 idxOf Qas Qaj Qal Qar Qai Qag Qac Qat Qb3 Qc5 vw_I Qay hmix eLI dLI Qca Qan Qa3 Qaa Qau)
variable {Γ : Gam}
def ePl (a : Shop × List Int) : List V := [.pa (Qaz a.1), .sl 1 (a.2.map eI)]
def dPl : List V → Shop × List Int | [.pa s, .sl _ l] => (Qdc s, l.map dI) | _ => (Qdc [], [])
theorem Qzo (a : Shop × List Int) : dPl (ePl a) = a := by obtain ⟨s, l⟩ := a; simp [dPl, ePl, Qg9, Function.comp_def, Qbl]
def eJl (a : Shop × List Job) : List V := [.pa (Qaz a.1), .sl 3 (a.2.map eJob)]
def dJl : List V → Shop × List Job | [.pa s, .sl _ l] => (Qdc s, l.map dJob) | _ => (Qdc [], [])
theorem Zd0 (a : Shop × List Job) : dJl (eJl a) = a := by obtain ⟨s, l⟩ := a; simp [dJl, eJl, Qg9, Function.comp_def, Qyc]
noncomputable def K79 : Gam := K78.ext 36 (fnG ePl dPl (fun a => OkPl a.1 a.2) (fun a => Qdy a.1 a.2) (Qek))
theorem Zic : GOk Tryz.prog K79 := Qx7.ext (f := 36) (fun a w => Tryz.call36 a w) (Qad (e := ePl) (d := dPl) (ok := fun a => OkPl a.1 a.2) (g := fun a => Qdy a.1 a.2) (eb := Qek) fun a h => W36 a.1 a.2 h)
theorem h36 (s : Shop) (plan : List Int) : K79 36 [.pa (Qaz s), .sl 1 (plan.map eI)] = (OkPl s plan, Qek (Qdy s plan)) := (show K79 36 _ = fnG ePl dPl (fun a => OkPl a.1 a.2) (fun a => Qdy a.1 a.2) (Qek) (ePl (s, plan)) from rfl).trans (Qab _ (Qzo (s, plan)))
noncomputable def K80 : Gam := K79.ext 56 (fnG ePl dPl (fun a => OkSt a.1 ∧ a.2.length ≤ a.1.wishes.length) (fun a => takN a.1 a.2) (.i))
theorem Zid : GOk Tryz.prog K80 := Zic.ext (f := 56) (fun a w => Tryz.call56 a w) (Qad (e := ePl) (d := dPl) (ok := fun a => OkSt a.1 ∧ a.2.length ≤ a.1.wishes.length) (g := fun a => takN a.1 a.2) (eb := .i) fun a h => W56 a.1 a.2 h.1 h.2)
theorem h56 (s : Shop) (plan : List Int) : K80 56 [.pa (Qaz s), .sl 1 (plan.map eI)] = (OkSt s ∧ plan.length ≤ s.wishes.length, .i (takN s plan)) := (show K80 56 _ = fnG ePl dPl (fun a => OkSt a.1 ∧ a.2.length ≤ a.1.wishes.length) (fun a => takN a.1 a.2) (.i) (ePl (s, plan)) from rfl).trans (Qab _ (Qzo (s, plan)))
noncomputable def K81 : Gam := K80.ext 37 (fnG eJl dJl (fun a => a.1.stock.length ≤ 1000000 ∧ a.2.length ≤ 1000000) (fun a => canN a.1 a.2) (.b))
theorem Zam : GOk Tryz.prog K81 := Zid.ext (f := 37) (fun a w => Tryz.call37 a w) (Qad (e := eJl) (d := dJl) (ok := fun a => a.1.stock.length ≤ 1000000 ∧ a.2.length ≤ 1000000) (g := fun a => canN a.1 a.2) (eb := .b) fun a h => W37 a.1 a.2 h.1 h.2)
theorem h37 (s : Shop) (l : List Job) : K81 37 [.pa (Qaz s), .sl 3 (l.map eJob)] = (s.stock.length ≤ 1000000 ∧ l.length ≤ 1000000, .b (canN s l)) := (show K81 37 _ = fnG eJl dJl (fun a => a.1.stock.length ≤ 1000000 ∧ a.2.length ≤ 1000000) (fun a => canN a.1 a.2) (.b) (eJl (s, l)) from rfl).trans (Qab _ (Zd0 (s, l)))
def spAt (s : Shop) (i : Nat) : Int × Int := (Qb8 s).getD i (0, 0)
def joAt (l : List Job) (j : Int) : Job := l.getD j.toNat ⟨0, 0, 0⟩
def gdS (s : Shop) (l : List Job) (i : Nat) (j : Int) : Bool := Qgo s (spAt s i) (joAt l j)
def PG (n m : Nat) (g s : List Int) : Prop := g.length = n ∧ (∀ v ∈ g, v = -1 ∨ (0 ≤ v ∧ v < m)) ∧ s.Nodup ∧ ∀ x ∈ s, 0 ≤ x ∧ x < n
theorem PG.snoc {n m : Nat} {g s : List Int} {i : Nat} (h : PG n m g s) (hi : i < n) (hs : (i : Int) ∉ s) : PG n m g (s ++ [(i : Int)]) := by
 obtain ⟨h1, h2, h3, h4⟩ := h
 refine ⟨h1, h2, ?_, fun x hx => ?_⟩
 ·rw [Zn]
  exact ⟨h3, by simp, fun a ha b hb e => by rw [Zw] at hb; subst hb; subst e; exact hs ha⟩
 ·rcases Qh.1 hx with hx | hx
  ·exact h4 x hx
  ·rw [Zw] at hx; omega
theorem PG.set {n m : Nat} {g s : List Int} {i : Nat} {own : Int} (h : PG n m g s) (ho : 0 ≤ own ∧ own < m) : PG n m (g.set i own) s := by
 obtain ⟨h1, h2, h3, h4⟩ := h
 refine ⟨by rw [List.length_set]; exact h1, fun v hv => ?_, h3, h4⟩
 rcases List.mem_or_eq_of_mem_set hv with hv | rfl
 ·exact h2 v hv
 ·exact .inr ho
theorem PG.at {n m : Nat} {g s : List Int} {i : Nat} (h : PG n m g s) (hi : i < n) (h1 : g[i]?.getD 0 ≠ -1) : 0 ≤ g[i]?.getD 0 ∧ g[i]?.getD 0 < m := by
 have : i < g.length := by rw [h.1]; exact hi
 rw [Qc this, Qq] at h1 ⊢
 exact (h.2.1 _ (Z2 this)).resolve_left h1
theorem Qk8 {gd : Nat → Int → Bool} {n m : Nat} {rec : List Int → Int → List Int → Giv} {own : Int} (ho : 0 ≤ own ∧ own < m)
  (hr : ∀ (g : List Int) (j : Int) (s : List Int), PG n m g s → 0 ≤ j ∧ j < m → PG n m (rec g j s).2.1 (rec g j s).2.2) : ∀ (l : List Nat) (g s : List Int), (∀ i ∈ l, i < n) → PG n m g s → PG n m (Qda gd rec own l g s).2.1 (Qda gd rec own l g s).2.2
 | [], g, s, _, h => h
 | i :: l, g, s, hl, h => by
  have hl' : ∀ i ∈ l, i < n := fun k hk => hl k (by simp [hk])
  have hin := hl i (by simp)
  unfold Qda
  by_cases h1 : (i : Int) ∈ s ∨ gd i own = false
  ·rw [if_pos h1]; exact Qk8 ho hr l g s hl' h
  ·rw [if_neg h1]
   have hs : (i : Int) ∉ s := fun e => h1 (.inl e)
   have hp := h.snoc hin hs
   by_cases h2 : g[i]?.getD 0 = -1
   ·rw [if_pos h2]; exact hp.set ho
   ·rw [if_neg h2]
    have hq := hr g (g[i]?.getD 0) (s ++ [(i : Int)]) hp (h.at hin h2)
    split
    ·exact hq.set ho
    ·exact Qk8 ho hr l _ _ hl' hq
theorem Qk9 {gd : Nat → Int → Bool} {n m : Nat} : ∀ (f : Nat) (g : List Int) (own : Int) (s : List Int), 0 ≤ own ∧ own < m → PG n m g s → PG n m (Qcf gd n f g own s).2.1 (Qcf gd n f g own s).2.2
 | 0, _, _, _, _, h => h
 | f + 1, g, own, s, ho, h => Qk8 ho (fun g j s hp hj => Qk9 f g j s hj hp) (Qn n) g s (by simp) h
structure D65 where
 s : Shop
 l : List Job
 g : List Int
 own : Int
 seen : List Int
def nS (s : Shop) : Nat := (Qb8 s).length
def eA65 (x : D65) : List V := [.pa (Qaz x.s), .rf 0 0 0 x.g.length 1, .sl 3 (x.l.map eJob), .i x.own, .mp 1 0]
def eH65 (x : D65) : List Blk := [.cells 0 (x.g.map V.i), cm x.seen]
def Qwo (xs : List V) (hp : List Blk) : D65 := match xs, hp with
 | [.pa s, _, .sl _ l, .i own, _], [.cells _ cs, .map _ ks _] => ⟨Qdc s, l.map dJob, cs.map gI, own, ks.map fun k => k.headD 0⟩
 | _, _ => ⟨Qdc [], [], [], 0, []⟩
theorem Qwh : ∀ l : List Int, l.Nodup → cmKs l = l.map fun x => [x] := by
 refine Qbo (p := fun l : List Int => l.Nodup → cmKs l = l.map fun x => [x]) (fun _ => rfl) fun l x ih h => ?_
 rw [Zn] at h
 rw [Qfu, ih h.1]
 unfold putK
 rw [if_neg]
 ·simp
 ·intro hm
  obtain ⟨y, hy, e⟩ := Zm.1 hm
  cases e
  exact h.2.2 x hy x (by simp) rfl
theorem Qzr (x : D65) (h : x.seen.Nodup) : Qwo (eA65 x) (eH65 x) = x := by
 obtain ⟨s, l, g, own, seen⟩ := x
 have e : (g.map V.i).map gI = g := by rw [Z5]; exact Xi (fun _ => rfl) g
 have e2 : (cmKs seen).map (fun k => k.headD 0) = seen := by
  rw [Qwh seen h, Z5]
  exact Xi (fun _ => rfl) seen
 have e3 : (l.map eJob).map dJob = l := by rw [Z5]; exact Xi (fun _ => rfl) l
 simp only [Qwo, eA65, eH65, cm, Qg9, e, e2, e3]
structure C65 (k : Nat) (x : D65) : Prop where
 st : OkSt x.s
 own : 0 ≤ x.own ∧ x.own < x.l.length
 pg : PG (nS x.s) x.l.length x.g x.seen
 k : uns (nS x.s) x.seen < k
 ln : x.l.length ≤ 1000000
def R65 (k : Nat) (x : D65) (r : V) (hp : List Blk) : Prop :=
 r = .b (Qcf (gdS x.s x.l) (nS x.s) k x.g x.own x.seen).1 ∧ hp = [.cells 0 ((Qcf (gdS x.s x.l) (nS x.s) k x.g x.own x.seen).2.1.map V.i), cm (Qcf (gdS x.s x.l) (nS x.s) k x.g x.own x.seen).2.2]
noncomputable def HG (k : Nat) : Gam := K81.extH 65 (hpG eA65 eH65 Qwo (C65 k) (R65 k))
theorem kG (k : Nat) (x : D65) (h : x.seen.Nodup) : (HG k).h 65 (eA65 x) (eH65 x) = (C65 k x, R65 k x) :=
 (show (HG k).h 65 _ _ = hpG eA65 eH65 Qwo (C65 k) (R65 k) _ _ from rfl).trans (Qo9 x (Qzr x h))
theorem kG64 (k : Nat) (s : Shop) (p : Int × Int) (j : Job) : (HG k) 64 [.pa (Qaz s), .ag (eSp p), .ag (eJob j)] = (True, .b (Qgo s p j)) := h64 s p j
theorem Ze0 {s : Shop} (h : OkSt s) : nS s ≤ 180 := by
 have a1 := Qf5 (fun x hx => (h.s.st x hx).2) s.stock.length
 have a2 := Qmh (l := s.dels) (fun x hx => Qmi (h.s.de x hx))
 have a3 := h.s.nde
 have a4 := h.s.stock
 have a5 := h.w.nsp
 unfold nS Qb8
 rw [Qg]; omega
theorem Qrj {n i : Nat} (h : i < n) : (Qn n).drop i = i :: (Qn n).drop (i + 1) := Qat (List.getElem?_range h)
set_option maxHeartbeats 4000000 in
theorem W65 (k : Nat) (hG : GOk Tryz.prog (HG k)) (x : D65) (h : C65 (k + 1) x) : Qe8 Tryz.prog 65 (eA65 x) (eH65 x) (R65 (k + 1) x) := by
 obtain ⟨s, l, g, own, seen⟩ := x
 obtain ⟨hst, hown, hpg, hk, hln⟩ := h
 simp only at hst hown hpg hk hln
 have hgl := hpg.1
 have hn := Ze0 hst
 refine Qo8 hG hmix Tryz.func65 cf65.b cf65.c cf65.s (by exact cf65.n) (by show 2 ≤ 2; decide) (by decide) ?_
 obtain ⟨RES, hRES⟩ : ∃ RES, RES = Qcf (gdS s l) (nS s) (k + 1) g own seen := ⟨_, rfl⟩
 have hR : ∀ r hp, r = .b RES.1 → hp = [.cells 0 (RES.2.1.map V.i), cm RES.2.2] → R65 (k + 1) ⟨s, l, g, own, seen⟩ r hp := fun r hp e1 e2 => ⟨by rw [e1, hRES], by rw [e2, hRES]⟩
 have hj : l[own.toNat]? = some (joAt l own) := by
  unfold joAt
  rw [Qi, Qc (by omega)]; rfl
 have g1 := fun p => kG64 k s p (joAt l own)
 simp only [eSp, eJob] at g1
 have gR := fun (gi : Int) (s' : List Int) (hs : s'.Nodup) => kG k ⟨s, l, g, gi, s'⟩ hs
 simp only [eA65, eH65, hgl] at gR
 have hst0 : Qaz s = [.sl 4 (s.work.spares.map eSpare), .sl 1 (s.work.makes.map eMake), .i s.work.cut, .sl 4 (s.work.table.map eTrial), .sl 1 (s.stock.map eI), .sl 5 (s.pieces.map ePiece), .sl 6 (s.wishes.map eWish), .sl 3 (s.dels.map eDel), .i s.carve, .sl 2 ((Qb8 s).map eSp), .pm true (aks (Qbn s.work)) (avs .i (Qbn s.work))] := rfl
 simp only [eA65, eH65, hgl]
 generalize aks (Qbn s.work) = ks0 at hst0
 generalize avs V.i (Qbn s.work) = vs0 at hst0
 rw [hst0] at g1 gR ⊢
 have hnS : ((Qb8 s).length : Int) = nS s := rfl
 have hRL : RES = Qda (gdS s l) (Qcf (gdS s l) (nS s) k) own (Qn (nS s)) g seen := hRES
 clear hRES
 obtain ⟨gd, hgd⟩ : ∃ gd, gd = gdS s l := ⟨_, rfl⟩
 obtain ⟨n, hnn⟩ : ∃ n, n = nS s := ⟨_, rfl⟩
 obtain ⟨m, hm⟩ : ∃ m, m = l.length := ⟨_, rfl⟩
 rw [← hgd, ← hnn] at hRL
 rw [← hnn] at hpg hk hgl gR hn
 rw [← hm] at hpg
 simp only [rc65, rs65, hnS, ← hnn, Qa0, ↓reduceIte, Nat.reduceEqDiff, Nat.reduceAdd, Nat.reduceLeDiff, Int.reduceNeg, zipA, Qa, reduceCtorEq, BU1]
 refine Qan n (fun i s' => ⟨lkp [(0, .pa [.sl 4 (s.work.spares.map eSpare), .sl 1 (s.work.makes.map eMake), .i s.work.cut, .sl 4 (s.work.table.map eTrial), .sl 1 (s.stock.map eI), .sl 5 (s.pieces.map ePiece), .sl 6 (s.wishes.map eWish), .sl 3 (s.dels.map eDel), .i s.carve, .sl 2 ((Qb8 s).map eSp), .pm true ks0 vs0]), (1, .rf 0 0 0 n 1), (2, .sl 3 (l.map eJob)), (3, .i own), (4, .mp 1 0), (16, .sl 2 ((Qb8 s).map eSp)), (17, .i n), (18, .i i)], [.cells 0 (g.map V.i), cm s']⟩)
  (fun i s' => PG n m g s' ∧ uns n s' ≤ uns n seen ∧ Qda gd (Qcf gd n k) own ((Qn n).drop i) g s' = RES) seen ?_ ⟨hpg, Qr _, by rw [Xc]; exact hRL.symm⟩ ?_ ?_
 ·simp only [Qm, cm, Qa3 _ _ _ (Qge _), Qa3 _ _ _ (Go.C06.noref_Is _), cutV, cutB, ↓reduceIte, Nat.reduceEqDiff, Nat.reduceLT, reduceCtorEq, BU1]
 ·rintro i s' hi ⟨hp, hu, hL⟩
  have hlt : (i : Int) < n := by omega
  have i1 : inI ((i : Int) + 1) := by unfold inI; omega
  rw [Qrj hi] at hL
  have hsp : (Qb8 s)[i]? = some (spAt s i) := by
   unfold spAt
   rw [Qi, Qc (by rw [hnn] at hi; exact hi)]; rfl
  have hgi : gd i own = Qgo s (spAt s i) (joAt l own) := by rw [hgd]; rfl
  have g2 := g1 (spAt s i)
  have hcm := Zcp s' (i : Int)
  have hin : (i : Int) < (Qb8 s).length := by rw [hnS, ← hnn]; exact hlt
  by_cases hs : (i : Int) ∈ s'
  ·have hc : (0 : Int) < s'.count (i : Int) := by have := Zd.2 hs; omega
   have hL' : Qda gd (Qcf gd n k) own ((Qn n).drop (i + 1)) g s' = RES := by
    rw [← hL]
    conv => rhs; unfold Qda
    rw [if_pos (.inl hs)]
   simp only [hlt, hin, hsp, eSp, cm, Qbq, hcm, hc, i1, Qa3 _ _ _ (Qge _), Qa3 _ _ _ (Go.C06.noref_Is _), Qe, Qd, Qbd, ↓Qam, Qaq, lkpV, keyL, Qbq, Qa0, runX, fpQ, fpV, Qb7, Qah, Qa2, Qa1, cutV, cutB, ↓reduceIte, Nat.reduceEqDiff, Nat.reduceAdd, Nat.reduceLT, Nat.reduceLeDiff, Int.reduceNeg, Qx, Qa, Q9, forall_const, implies_true, reduceCtorEq, Ql, Qk, imp_self, BU1]
   exact ⟨s', ⟨hp, hu, hL'⟩, rfl⟩
  have hc0 : ((s'.count (i : Int) : Nat) : Int) = 0 := by rw [List.count_eq_zero.2 hs]; rfl
  cases hgo : Qgo s (spAt s i) (joAt l own) with
  | false =>
   have hL' : Qda gd (Qcf gd n k) own ((Qn n).drop (i + 1)) g s' = RES := by
    rw [← hL]
    conv => rhs; unfold Qda
    rw [if_pos (.inr (by rw [hgi]; exact hgo))]
   simp only [hlt, hin, hsp, eSp, cm, Qbq, hcm, hc0, hj, hown, eJob, g2, hgo, i1, Qa3 _ _ _ (Qge _), Qa3 _ _ _ (Go.C06.noref_Is _), Qe, Qd, Qbd, ↓Qam, Qaq, lkpV, keyL, Qbq, Qa0, runX, fpQ, fpV, Qah, Qa2, Qa1, flat, cutV, cutB, ↓reduceIte, Nat.reduceEqDiff, Nat.reduceAdd, Nat.reduceLT, Nat.reduceLeDiff, Int.reduceNeg, Zr, beq_self_eq_true, Qa, forall_const, implies_true, reduceCtorEq, Ql, Qk, BU1]
   exact ⟨s', ⟨hp, hu, hL'⟩, rfl⟩
  | true =>
   have hnot : ¬ ((i : Int) ∈ s' ∨ gd i own = false) := by
    rintro (h | h)
    ·exact hs h
    ·rw [hgi, hgo] at h; cases h
   have hput := Qzl s' (i : Int)
   rw [hc0, Xl] at hput
   have i2 : inI (1 : Int) := by unfold inI; omega
   have c1 : i + 1 ≤ n := hi
   have hpn := hp.snoc hi hs
   have hgl2 : i < g.length := by omega
   have hdd   := Go.C06.hdD g i hgl2
   have hun := Qna (n := n) hi hs
   obtain ⟨z, hz⟩ : ∃ z, g[i]?.getD 0 = z := ⟨_, rfl⟩
   rw [Qi, hz] at hdd
   have hgD := hz
   by_cases hf : z = -1
   ·have hL' : RES = (true, g.set i own, s' ++ [(i : Int)]) := by
     rw [← hL]
     unfold Qda
     rw [if_neg hnot, if_pos (by rw [hgD]; exact hf)]
    have hpI   := Go.C06.putI g i own hgl2
    simp only [hlt, hin, hsp, eSp, cm, Qbq, hcm, hc0, hj, hown, eJob, g2, hgo, i2, c1, Xl, Xu, hput, hdd, hf, hpI, Qa3 _ _ _ (Qge _), Qa3 _ _ _ (Go.C06.noref_Is _), hgl, Qbd, Qgu, Qdv, Qgv, Qu9, ↓Qam, Qaq, lkpV, keyL, Qbq, endK, Qa0, runX, fpQ, fpV, Qb7, Qah, Qa2, Qa1, flat, cutV, cutB, ↓reduceIte, Nat.reduceEqDiff, Nat.reduceAdd, Nat.reduceLT, Nat.reduceLeDiff, Int.reduceNeg, rvs, Zr, beq_self_eq_true, Qa, Q9, forall_const, implies_true, reduceCtorEq, Ql, Qk, imp_self, BU1]
    exact hR _ _ (by rw [hL']) (by rw [hL']; rfl)
   ·have hgv := hpn.at hi (by rw [hgD]; exact hf)
    rw [hgD] at hgv
    have g3 := gR z (s' ++ [(i : Int)]) hpn.2.2.1
    simp only [cm] at g3
    have hL' : RES = if (Qcf gd n k g (z) (s' ++ [(i : Int)])).1 = true then (true, (Qcf gd n k g (z) (s' ++ [(i : Int)])).2.1.set i own, (Qcf gd n k g (z) (s' ++ [(i : Int)])).2.2)
      else Qda gd (Qcf gd n k) own ((Qn n).drop (i + 1)) (Qcf gd n k g (z) (s' ++ [(i : Int)])).2.1 (Qcf gd n k g (z) (s' ++ [(i : Int)])).2.2 := by
     rw [← hL]
     conv => lhs; unfold Qda
     rw [if_neg hnot, if_neg (by rw [hgD]; exact hf), hgD]
    simp only [hlt, hin, hsp, eSp, cm, Qbq, hcm, hc0, hj, hown, eJob, g2, hgo, i2, c1, Xl, Xu, hput, hdd, hf, Qa3 _ _ _ (Qge _), Qa3 _ _ _ (Go.C06.noref_Is _), hgl, g3, Qdp, Qbd, Qgu, Qdv, Qgv, Qu9, ↓Qam, Qaq, lkpV, keyL, Qbq, endK, Qa0, runX, fpQ, fpV, Qah, Qa2, Qa1, flat, cutV, cutB, ↓reduceIte, Nat.reduceEqDiff, Nat.reduceAdd, Nat.reduceLT, Nat.reduceLeDiff, Int.reduceNeg, rvs, Zr, beq_self_eq_true, Qa, forall_const, implies_true, reduceCtorEq, Ql, Qk, Xs, BU1]
    obtain ⟨b, g', s'', hr⟩ : ∃ b g' s'', Qcf gd n k g z (s' ++ [(i : Int)]) = (b, g', s'') := ⟨_, _, _, rfl⟩
    refine ⟨⟨hst, by rw [← hm]; exact hgv, by rw [← hnn, ← hm]; exact hpn, by rw [← hnn]; show uns n (s' ++ [(i : Int)]) < k; omega, hln⟩, ?_⟩
    rintro r hp' ⟨e1, e2⟩
    simp only at e1 e2
    rw [← hgd, ← hnn, hr] at e1 e2
    rw [hr] at hL'
    simp only at e1 e2 hL'
    have hpi := Qk9 (gd := gd) k g z (s' ++ [(i : Int)]) hgv hpn
    rw [hr] at hpi
    simp only at hpi
    have hgl3 : i < g'.length := by rw [hpi.1]; exact hi
    have hpI := Go.C06.putI g' i own hgl3
    subst e1 e2
    cases b with
    | true =>
     rw [if_pos rfl] at hL'
     simp only [cm, c1, hpI, hpi.1, cutB, ↓reduceIte, Qa, Q9, forall_const, BU1]
     exact hR _ _ (by rw [hL']) (by rw [hL']; rfl)
    | false =>
     rw [if_neg (by simp)] at hL'
     have hsm := Qga (gd := gd) (n := n) k g z (s' ++ [(i : Int)]) (by rw [hr])
     rw [hr] at hsm
     simp only at hsm
     subst hsm
     simp only [cm, i1, Qa3 _ _ _ (Qge _), Qa3 _ _ _ (Go.C06.noref_Is _), Qe, Qd, cutB, ↓reduceIte, Qa, forall_const, BU1]
     have hsn := Qgb (gd := gd) (n := n) k g' z (s' ++ [(i : Int)])
     rw [hr] at hsn
     simp only at hsn
     exact ⟨s'', ⟨hpi, by have := Qn9 (n := n) hsn; omega, hL'.symm⟩, rfl⟩
 ·rintro s' ⟨hp, hu, hL⟩
  have hlt : ¬ ((n : Int) < n) := by omega
  rw [Z3 (by simp)] at hL
  have e1 : RES = (false, g, s') := hL.symm
  simp only [hlt, endK, Qa0, ↓reduceIte, Nat.reduceEqDiff, Int.reduceNeg, rvs, Qa, reduceCtorEq, BU1]
  exact hR _ _ (by rw [e1]) (by rw [e1])
theorem okHG : ∀ k, GOk Tryz.prog (HG k) := by
 intro k
 induction k with
 | zero =>
  refine Zam.extH (f := 65) (fun a w => Tryz.call65 a w) fun xs hp => Qq9 (fun x hx => ?_) xs hp
  have := hx.k
  omega
 | succ k ih => exact Zam.extH (f := 65) (fun a w => Tryz.call65 a w) fun xs hp => Qq9 (fun x hx => ⟨fun r hp' _ y hy => (by simp [eH65, ghO] at hy), W65 k ih x hx⟩) xs hp
theorem Qt8 {gd : Nat → Int → Bool} {n m : Nat} : ∀ i, i ≤ m → PG n m (Qcp gd n i).2 []
 | 0, _ => ⟨by simp [Qcp], fun v hv => .inl (List.eq_of_mem_replicate hv), Zf, fun _ h => by cases h⟩
 | i + 1, h => by
  have ih := Qt8 (gd := gd) (n := n) (m := m) i (by omega)
  have := Qk9 (gd := gd) (n + 1) (Qcp gd n i).2 i [] (m := m) (by omega) ih
  simp only [Qcp]
  split
  ·exact ⟨this.1, this.2.1, Zf, fun _ h => by cases h⟩
  ·exact ⟨this.1, this.2.1, Zf, fun _ h => by cases h⟩
theorem Qt6 {gd : Nat → Int → Bool} {n : Nat} : ∀ i, (Qcp gd n i).1 ≤ i
 | 0 => Qr _
 | i + 1 => by
  have := Qt6 (gd := gd) (n := n) i
  simp only [Qcp]
  split <;> (simp only; omega)
def Qdz (s : Shop) (l : List Job) : Int := ((Qcp (gdS s l) (nS s) l.length).1 : Nat)
set_option maxHeartbeats 2000000 in
theorem W38 (s : Shop) (l : List Job) (hst : OkSt s) (hl : l.length ≤ 1000000) : Qa5 Tryz.prog 38 [.pa (Qaz s), .sl 3 (l.map eJob)] (.i (Qdz s l)) := by
 refine Qa4 (okHG 200) hmix Tryz.func38 cf38.b cf38.c cf38.s cf38.n ?_
 have hn := Ze0 hst
 have g1 : (HG 200) 1000040 [.sl 1 [[.i (-1)]], .i (nS s)] = (0 ≤ ((nS s : Nat) : Int) ∧ ((nS s : Nat) : Int) ≤ 1000000, .tp [.rf 0 0 0 ((nS s : Nat) : Int).toNat 1, .tp [bV (.cells 0 (Qb ((nS s : Nat) : Int).toNat [V.i (-1)]).flatten)]]) := h40o (-1) (nS s)
 have b1 : 0 ≤ ((nS s : Nat) : Int) ∧ ((nS s : Nat) : Int) ≤ 1000000 := by omega
 have hnS : ((Qb8 s).length : Int) = nS s := rfl
 have gR := fun (i : Nat) (gi : List Int) => kG 200 ⟨s, l, gi, i, []⟩ Zf
 simp only [eA65, eH65, cm] at gR
 have hst0 : Qaz s = [.sl 4 (s.work.spares.map eSpare), .sl 1 (s.work.makes.map eMake), .i s.work.cut, .sl 4 (s.work.table.map eTrial), .sl 1 (s.stock.map eI), .sl 5 (s.pieces.map ePiece), .sl 6 (s.wishes.map eWish), .sl 3 (s.dels.map eDel), .i s.carve, .sl 2 ((Qb8 s).map eSp), .pm true (aks (Qbn s.work)) (avs .i (Qbn s.work))] := rfl
 generalize aks (Qbn s.work) = ks0 at hst0
 generalize avs V.i (Qbn s.work) = vs0 at hst0
 rw [hst0] at gR ⊢
 have hfl : (Qb (nS s) [V.i (-1)]).flatten = (Qb (nS s) (-1 : Int)).map V.i := by simp
 have c0 : cmKs [] = [] := rfl
 have c1 : cmVs [] = [] := rfl
 have hL : Qdz s l = ((Qcp (gdS s l) (nS s) l.length).1 : Nat) := rfl
 obtain ⟨gd, hgd⟩ : ∃ gd, gd = gdS s l := ⟨_, rfl⟩
 obtain ⟨n, hnn⟩ : ∃ n, n = nS s := ⟨_, rfl⟩
 rw [← hgd, ← hnn] at hL
 rw [← hnn] at g1 hn b1 hfl
 simp only [rc38, rs38, hnS, ← hnn, g1, b1, hfl, Qdi _ _ (Go.C06.noref_Is _), Qck, Ql2, ocV, nidQ, plO, plQ, plB, Qdh, Qdm, shV, shB, Qa9, Qa0, Qak, Qaw, Qb2, Qah, Qa2, Qa1, ↓reduceIte, Nat.reduceEqDiff, Nat.reduceAdd, Nat.reduceMul, Nat.reduceLT, Nat.reduceLeDiff, Int.reduceNeg, Qs, zipA, Qu, Qa, reduceCtorEq, not_false_eq_true, ne_eq, BU1]
 refine Qb5 l.length (fun i => ⟨lkp [(0, .pa [.sl 4 (s.work.spares.map eSpare), .sl 1 (s.work.makes.map eMake), .i s.work.cut, .sl 4 (s.work.table.map eTrial), .sl 1 (s.stock.map eI), .sl 5 (s.pieces.map ePiece), .sl 6 (s.wishes.map eWish), .sl 3 (s.dels.map eDel), .i s.carve, .sl 2 ((Qb8 s).map eSp), .pm true ks0 vs0]), (1, .sl 3 (l.map eJob)), (5, .rf 0 0 0 n 1), (6, .i ((Qcp gd n i).1 : Nat)), (16, .i l.length), (17, .i i)], [.cells 0 ((Qcp gd n i).2.map V.i)]⟩) ?_ ?_ ?_
 ·simp only [Qm, Qcp, Qa3 _ _ _ (Go.C06.noref_Is _), cutV, cutB, ↓reduceIte, Nat.reduceEqDiff, Nat.reduceLT, Int.reduceNeg, reduceCtorEq, BU1]
 ·intro i hi
  have hlt : (i : Int) < l.length := by omega
  have i1 : inI ((i : Int) + 1) := by unfold inI; omega
  have hle := Qt6 (gd := gd) (n := n) i
  have i2 : inI (((Qcp gd n i).1 : Nat) + 1 : Int) := by unfold inI; omega
  have hpg := Qt8 (gd := gd) (n := n) (m := l.length) i (by omega)
  have g2 := gR i (Qcp gd n i).2
  rw [hpg.1] at g2
  simp only [c0, c1] at g2
  have hfu := Qls (gd := gd) (n := n) 200 (n + 1) (Qcp gd n i).2 i [] (by have := Qr2 n []; omega) (by have := Qr2 n []; omega)
  have hsu : Qcp gd n (i + 1) = if (Qcf gd n (n + 1) (Qcp gd n i).2 i []).1 = true then ((Qcp gd n i).1, (Qcf gd n (n + 1) (Qcp gd n i).2 i []).2.1) else ((Qcp gd n i).1 + 1, (Qcf gd n (n + 1) (Qcp gd n i).2 i []).2.1) := rfl
  simp only [hlt, g2, Qdp, Qbd, Qu6, ↓Qam, Qa0, binW, cutV, ↓reduceIte, Nat.reduceEqDiff, Nat.reduceLT, forall_const, implies_true, reduceCtorEq, imp_self, Xs, BU1]
  refine ⟨⟨hst, by show 0 ≤ (i : Int) ∧ (i : Int) < l.length; omega, by rw [← hnn]; exact hpg, by rw [← hnn]; show uns n [] < 200; have := Qr2 n []; omega, hl⟩, ?_⟩
  rintro r hp' ⟨e1, e2⟩
  simp only at e1 e2
  rw [← hgd, ← hnn, hfu] at e1 e2
  obtain ⟨b, g', s'', hr⟩ : ∃ b g' s'', Qcf gd n (n + 1) (Qcp gd n i).2 i [] = (b, g', s'') := ⟨_, _, _, rfl⟩
  rw [hr] at e1 e2 hsu
  simp only at e1 e2 hsu
  subst e1 e2
  cases b with
  | true =>
   rw [if_pos rfl] at hsu
   simp only [cm, hsu, i1, Qa3 _ _ _ (Go.C06.noref_Is _), Qe, Qd, cutB, Qa, forall_const, BU1]
  | false =>
   rw [if_neg (by simp)] at hsu
   simp only [cm, hsu, i1, i2, Qa3 _ _ _ (Go.C06.noref_Is _), Qe, Qd, cutB, Q9, forall_const, BU1]
 ·have hlt : ¬ ((l.length : Int) < l.length) := by omega
  simp only [hlt, hL, Qa0, ↓reduceIte, Nat.reduceEqDiff, rvs, Qa, reduceCtorEq, BU1]
end Go.CS
set_option maxRecDepth 8000
namespace Go.CS
open Go.Fam Go.Proofs
def rc62 : RC := (.seq (.reg false [(cQ 8 [] (.mv (kB false)))]) (.keep [0,1,2,3] (.seq (.reg false [(cMv 12 1), (cLn 13 12), (cMv 9 13)]) (.keep [0,1,2,3,9] (.seq (.seq (.reg false [(cMv 14 9), (cMv 15 0), (cZ 16 15), (cFa 17 16 0), (cFa 18 17 6), (cLd 19 18 false 1), (cLn 20 19), (cB 21 .eql 14 20)]) (.keep [0,1,2,3,9,21] (.cond (.t 21) (.seq (.yrh false [(cMv 22 3), (cMv 23 1)] ⟨(some 24), none, [22,23], none, .o (.t 22) [(.t 23)]⟩ [(cMv 8 24)]) .ret) .skip))) (.keep [0,1,2,3,9] (.seq (.seq (.reg false [(cMv 25 0), (cZ 26 25), (cFa 27 26 0), (cFa 28 27 5), (cLd 29 28 false 1), (cLn 30 29), (cI 31 0)]) (.keep [0,1,2,3,9,29,30,31] (.block 0 (.loop [0,1,2,3,9,29,30,31] (some 2) (.seq (.reg false [(cB 32 .lss 31 30)]) (.keep [0,1,2,3,9,29,30,31,32] (.seq (.cond (.t 32) .skip (.exit 0)) (.keep [0,1,2,3,9,29,30,31] (.seq (.block 1 (.seq (.reg false [(cMv 33 31), (cA 34 5 29 31), (cLd 35 34 true 5), ⟨(some 11), none, [], none, .w (.alc [(.i 0), (.i 0), (.i 0), (.i 0), (.z 1)])⟩, (cMv 10 33), ⟨none, none, [11,35], none, .w (.st 5 (.t 11) (.t 35))⟩]) (.keep [0,1,2,3,9,10,11,29,30,31] (.seq (.seq (.any true 0 [⟨(cMv 36 1), [], []⟩, ⟨(cMv 37 10), [], []⟩, ⟨(cQ 38 [36,37] (.call (kF 84) [(.t 36), (.t 37)])), [], [0,1]⟩, ⟨(cMv 39 38), [], [2,0,1]⟩, ⟨(gMv 40 39 false 0), [], [3,2,0,1]⟩, ⟨(gQ 41 39 false [40] (.nilc (.t 40))), [], [4,3,2,0,1]⟩, ⟨(gQ 42 39 false [41] (.fad 0 (.t 41))), [], [5,4,3,2,0,1]⟩, ⟨(gQ 43 39 false [42] (.fad 6 (.t 42))), [], [6,5,4,3,2,0,1]⟩, ⟨(gQ 44 39 false [43] (.ld false 1 (.t 43))), [], [7,6,5,4,3,2,0,1]⟩, ⟨(gMv 45 39 false 9), [], [3,2,0,1]⟩, ⟨(gQ 46 39 false [44,45] (.iad 6 (.t 44) (.t 45))), [], [8,7,6,5,4,3,2,0,1,9]⟩, ⟨(gQ 47 39 false [46] (.ld true 6 (.t 46))), [], [10,8,7,6,5,4,3,2,0,1,9]⟩, ⟨(gQ 48 39 false [11] (.ld true 5 (.t 11))), [], [3,2,0,1]⟩, ⟨(gQ 49 39 false [47,48] (.call (kF 63) [(.t 47), (.t 48)])), [], [11,10,8,7,6,5,4,3,2,0,1,9,12]⟩, ⟨(gQ 50 39 false [49] (.bin .eql (.t 49) (kI 0))), [], [13,11,10,8,7,6,5,4,3,2,0,1,9,12]⟩, ⟨(cQ 51 [39,50] (.pick (.t 39) (kB true) (.t 50))), [], [3,2,0,1,14,13,11,10,8,7,6,5,4,9,12]⟩]) (.keep [0,1,2,3,9,10,29,30,31,51] (.cond (.t 51) (.exit 1) .skip))) (.keep [0,1,2,3,9,10,29,30,31] (.seq (.itm [.r (cMv 52 0), .r (cMv 53 1), .r (cMv 54 9), .r (cMv 55 9), .r (cQ 56 [53,54,55] (.slx 1 (.t 53) (.t 54) (.t 55))), .r (cMv 57 10), .r (cQ 58 [57] (.bsl 1 1 [(.i 0)] [(0,1, (.t 57))])), .r ⟨(some 59), none, [56,58], none, .w (.app 1 (.t 56) (.t 58))⟩, .r (cMv 60 2), .r (cMv 61 3), .y 2 2 ⟨(some 62), none, [52,59,60,61], none, .o (kF 62) [(.t 52), (.t 59), (.t 60), (.t 61)]⟩, .r (cN 63 62)]) (.keep [0,1,2,3,9,29,30,31,63] (.cond (.t 63) (.seq (.reg false [(cQ 8 [] (.mv (kB false)))]) .ret) .skip)))))))) (.drp 2 (.keep [0,1,2,3,9,29,30,31] (.reg false [(cC 64 .add 31 1), (cMv 31 64)])))))))))))) (.keep [0,1,2,3,9] (.seq (.itm [.r (cMv 65 2), .r (cC 66 .eql 65 0), .r (cMv 67 66), .r (gMv 68 67 false 0), .r (gMv 69 67 false 1), .r (gMv 70 67 false 9), .r (gMv 71 67 false 9), .r (gQ 72 67 false [69,70,71] (.slx 1 (.t 69) (.t 70) (.t 71))), .r (gQ 73 67 false [] (.bsl 1 1 [(.i 0)] [(0,1, (.k (.i (-1))))])), .w ⟨(some 74), (some (67, false)), [72,73], none, .w (.app 1 (.t 72) (.t 73))⟩, .r (gMv 75 67 false 2), .r (gMv 76 67 false 3), .y 2 2 ⟨(some 77), (some (67, false)), [68,74,75,76], none, .o (kF 62) [(.t 68), (.t 74), (.t 75), (.t 76)]⟩, .r (cQ 78 [67,77] (.pick (.t 67) (kB true) (.t 77))), .r (cMv 8 78)]) .ret)))))))))
def rs62 : List RV := [.t 8]
theorem cf62 : CF Tryz.prog Tryz.f62 [58,73] 2 3 rc62 rs62 4 := ⟨by kernel_rfl, by kernel_rfl, by kernel_rfl, by decide⟩
def rc77 : RC := (.itm [.r (cMv 4 0), .r (cMv 5 1), .y 2 2 ⟨(some 6), none, [4,5], none, .o (kF 62) [(.t 4), (.k (.z 1)), (kI 1), (.t 5)]⟩])
def rs77 : List RV := []
theorem cf77 : CF Tryz.prog Tryz.f77 [] 2 3 rc77 rs77 2 := ⟨by kernel_rfl, by kernel_rfl, by kernel_rfl, by decide⟩
def rc35 : RC := (.itm [.r (cMv 4 0), .r (cMv 5 1), .y 2 2 ⟨(some 6), none, [4,5], none, .o (kF 62) [(.t 4), (.k (.z 1)), (kI 0), (.t 5)]⟩])
def rs35 : List RV := []
theorem cf35 : CF Tryz.prog Tryz.f35 [] 2 3 rc35 rs35 2 := ⟨by kernel_rfl, by kernel_rfl, by kernel_rfl, by decide⟩
def rc57 : RC := (.dum (.seq (.reg false [(cX 1 0), (cQ 2 [] (.mv (.k (.z 1))))]) (.keep [1,15] (.seq (.reg false [(cQ 5 [] (.bsl 1 1 [(.i 0)] [(0,1, (.k (.i (-1))))])), (cLd 6 1 false 1), (cZ 7 6), (cFa 8 7 0), (cFa 9 8 6), (cLd 10 9 false 1), (cLn 11 10), (cQ 12 [5,11] (.call (kF 40) [(.t 5), (.t 11)])), ⟨(some 3), none, [], none, .w (.alc [(.z 1)])⟩, ⟨none, none, [3,12], none, .w (.st 1 (.t 3) (.t 12))⟩]) (.keep [1,3,15] (.seq (.seq (.reg false [(cLd 13 1 false 1), (cQ 14 [13] (.mkb 77 [(.t 13)]))]) (.keep [1,3,14,15] (.block 0 (.rfh (.t 14) [15] 2 0 (.reg false [(cMv 4 15)]) (.block 1 (.seq (.any true 0 [⟨(cLd 16 1 false 1), [], []⟩, ⟨(cMv 17 4), [], []⟩, ⟨(cQ 18 [16,17] (.call (kF 56) [(.t 16), (.t 17)])), [], [0,1]⟩, ⟨(cLd 19 1 false 1), [], []⟩, ⟨(cLd 20 3 false 1), [], []⟩, ⟨(cQ 21 [19,20] (.call (kF 56) [(.t 19), (.t 20)])), [], [3,4,2,0,1]⟩, ⟨(cB 22 .gtr 18 21), [], [2,0,1,5,3,4]⟩, ⟨(cMv 23 22), [], [6,2,0,1,5,3,4]⟩, ⟨(gQ 24 23 true [1] (.ld false 1 (.t 1))), [], [7,6,2,0,1,5,3,4]⟩, ⟨(gMv 25 23 true 4), [], [7,6,2,0,1,5,3,4]⟩, ⟨(gQ 26 23 true [24,25] (.call (kF 41) [(.t 24), (.t 25)])), [], [8,7,6,2,0,1,5,3,4,9]⟩, ⟨(cQ 27 [23,26] (.pick (.t 23) (.t 26) (kB false))), [], [7,6,2,0,1,5,3,4,10,8,9]⟩]) (.keep [3,4,27] (.cond (.t 27) (.reg false [(cMv 28 4), ⟨none, none, [3,28], none, .w (.st 1 (.t 3) (.t 28))⟩]) .skip)))))))) (.keep [3] (.seq (.reg false [(cLd 29 3 false 1), (cMv 2 29)]) .ret))))))))
def rs57 : List RV := [.t 2]
theorem cf57 : CF Tryz.prog Tryz.f57 [1,5] 0 1 rc57 rs57 1 := ⟨by kernel_rfl, by kernel_rfl, by kernel_rfl, by decide⟩
def rc15 : RC := (.dum (.seq (.reg false [(cX 1 0), (cI 2 0), (cI 3 0)]) (.keep [1,21] (.seq (.reg false [(cLd 12 1 true 9), (cQ 13 [12] (.call (kF 34) [(.t 12), (kB true)])), (cMv 11 13), (cEx 14 11 0), (cEx 15 11 1), ⟨(some 4), none, [], none, .w (.alc [.pn])⟩, ⟨none, none, [4,14], none, .w (.st 1 (.t 4) (.t 14))⟩, (cMv 5 15)]) (.keep [4,5,21] (.seq (.seq (.reg false [(cMv 16 5), (cC 17 .neq 16 0)]) (.keep [4,5,17,21] (.cond (.t 17) (.seq (.reg false [(cMv 18 5), (cI 2 0), (cMv 3 18)]) .ret) .skip))) (.keep [4,21] (.seq (.drp 1 (.reg false [⟨(some 6), none, [], none, .w (.alc [(.i 0)])⟩, ⟨none, none, [6], none, .w (.st 1 (.t 6) (.k (.i (-1))))⟩])) (.keep [4,6,21] (.seq (.seq (.reg false [(cLd 19 4 false 1), (cQ 20 [19] (.mkb 35 [(.t 19)]))]) (.keep [4,6,20,21] (.block 0 (.rfh (.t 20) [21] 2 0 (.reg false [(cMv 7 21)]) (.block 1 (.seq (.reg false [(cLd 23 4 false 1), (cMv 24 7), (cQ 25 [23,24] (.call (kF 36) [(.t 23), (.t 24)])), (cMv 22 25), (cEx 26 22 0), (cEx 27 22 1), (cMv 8 26), (cMv 9 27)]) (.keep [4,6,8,9] (.seq (.seq (.reg true [(cMv 28 9), (cN 29 28), (cMv 30 29), (gQ 31 30 false [4] (.ld false 1 (.t 4))), (gMv 32 30 false 8), (gQ 33 30 false [31,32] (.call (kF 37) [(.t 31), (.t 32)])), (gQ 34 30 false [33] (.not (.t 33))), (cQ 35 [30,34] (.pick (.t 30) (kB true) (.t 34)))]) (.keep [4,6,8,35] (.cond (.t 35) (.exit 1) .skip))) (.keep [4,6,8] (.seq (.reg false [(cLd 36 4 false 1), (cMv 37 8), (cQ 38 [36,37] (.call (kF 38) [(.t 36), (.t 37)])), (cMv 10 38)]) (.keep [6,10] (.seq (.reg true [(cLd 39 6 false 1), (cQ 40 [39] (.bin .eql (.t 39) (.k (.i (-1))))), (cMv 41 40), (gMv 42 41 false 10), (gQ 43 41 false [6] (.ld false 1 (.t 6))), (gQ 44 41 false [42,43] (.bin .lss (.t 42) (.t 43))), (cQ 45 [41,44] (.pick (.t 41) (kB true) (.t 44)))]) (.keep [6,10,45] (.cond (.t 45) (.reg false [(cMv 46 10), ⟨none, none, [6,46], none, .w (.st 1 (.t 6) (.t 46))⟩]) .skip)))))))))))))) (.keep [6] (.seq (.seq (.reg false [(cLd 47 6 false 1), (cQ 48 [47] (.bin .eql (.t 47) (.k (.i (-1)))))]) (.keep [6,48] (.cond (.t 48) (.seq (.reg false [(cI 2 0), (cI 3 3)]) .ret) .skip))) (.keep [6] (.seq (.reg false [(cLd 49 6 false 1), (cMv 2 49), (cI 3 0)]) .ret))))))))))))))
def rs15 : List RV := [.t 2, .t 3]
theorem cf15 : CF Tryz.prog Tryz.f15 [1] 0 1 rc15 rs15 1 := ⟨by kernel_rfl, by kernel_rfl, by kernel_rfl, by decide⟩
def rc16 : RC := (.seq (.reg false [(cX 2 0), (cQ 4 [] (.mv (.k (.z 1)))), (cI 5 0)]) (.keep [1,2] (.seq (.any false 0 [⟨(cLd 12 2 true 9), [], []⟩, ⟨(cLd 13 2 true 9), [], []⟩, ⟨(cMv 14 1), [], []⟩, ⟨(cQ 15 [13,14] (.call (kF 39) [(.t 13), (.t 14)])), [], [1,2]⟩, ⟨(cQ 16 [12,15] (.call (kF 34) [(.t 12), (.t 15)])), [], [0,3,1,2]⟩, ⟨(cMv 11 16), [], [4,0,3,1,2]⟩, ⟨(cEx 17 11 0), [], [5,4,0,3,1,2]⟩, ⟨(cEx 18 11 1), [], [5,4,0,3,1,2]⟩, ⟨(cMv 6 17), [], [6,5,4,0,3,1,2]⟩, ⟨(cMv 7 18), [], [7,5,4,0,3,1,2,8,6]⟩]) (.keep [1,2,6,7] (.seq (.seq (.reg false [(cMv 19 7), (cC 20 .neq 19 0)]) (.keep [1,2,6,7,20] (.cond (.t 20) (.seq (.reg false [(cMv 21 7), (cQ 4 [] (.mv (.k (.z 1)))), (cMv 5 21)]) .ret) .skip))) (.keep [1,2,6] (.seq (.reg false [(cQ 8 [] (.mv (.k (.z 1))))]) (.keep [1,2,6,8] (.seq (.reg false [(cQ 22 [] (.bsl 1 1 [(.i 0)] [(0,1, (.k (.i (-1))))])), (cFa 23 2 6), (cLd 24 23 false 1), (cLn 25 24), ⟨(some 26), none, [22,25], none, .o (kF 40) [(.t 22), (.t 25)]⟩, (cMv 9 26)]) (.keep [1,2,6,8,9] (.seq (.seq (.reg false [(cFa 27 2 5), (cLd 28 27 false 1), (cLn 29 28), (cI 30 0)]) (.keep [1,6,8,9,29,30] (.block 0 (.own 8 1 (.loop [1,6,8,9,29,30] none (.seq (.reg false [(cB 31 .lss 30 29)]) (.keep [1,6,8,9,29,30,31] (.seq (.cond (.t 31) .skip (.exit 0)) (.keep [1,6,8,9,29,30] (.seq (.block 1 (.seq (.reg false [(cMv 32 30), (cMv 10 32)]) (.keep [1,6,8,9,10,29,30] (.seq (.reg false [(cMv 33 9), (cMv 34 1), (cMv 35 10), (cA 36 1 33 34), ⟨none, none, [36,35], none, .w (.st 1 (.t 36) (.t 35))⟩]) (.keep [1,6,8,9,10,29,30] (.seq (.reg false [(cMv 37 6), (cMv 38 9), (cQ 39 [37,38] (.call (kF 41) [(.t 37), (.t 38)]))]) (.keep [1,6,8,9,10,29,30,39] (.cond (.t 39) (.reg false [(cMv 40 8), (cMv 41 10), (cQ 42 [41] (.bsl 1 1 [(.i 0)] [(0,1, (.t 41))])), ⟨(some 43), none, [40,42], none, .w (.app 1 (.t 40) (.t 42))⟩, (cMv 8 43)]) .skip)))))))) (.keep [1,6,8,9,29,30] (.reg false [(cC 44 .add 30 1), (cMv 30 44)])))))))))))) (.keep [8] (.seq (.reg false [(cMv 45 8), (cMv 4 45), (cI 5 0)]) .ret)))))))))))))
def rs16 : List RV := [.t 4, .t 5]
theorem cf16 : CF Tryz.prog Tryz.f16 [1000026,2,22,42] 0 1 rc16 rs16 2 := ⟨by kernel_rfl, by kernel_rfl, by kernel_rfl, by decide⟩
end Go.CS
