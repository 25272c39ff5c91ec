import Derived.Test.YtoeiaekighfifaaG4
import Derived.Test.YtoeiaekighfifaaG3
import Derived.Test.YtoeiaekighfifaaChecked
import Derived.Test.YtoeiaekighfifaaRows
import Derived.Shelf.Sort.Plain
import Derived.Ground.Names2Prog
import Derived.Shelf.Slices.CompactI
import Derived.Test.YtoeiaekighfifaaProg
set_option linter.all false
open List renaming map_cons → Qb, map_nil → Qc, append_nil → Qd, length_cons → Qe, length_nil → Qf, take_succ_cons → Qh, length_map → Qi, drop_succ_cons → Qk, headD_cons → Ql, take_nil → Qm, nil_append → Qn, getD_eq_getElem?_getD → Qo, cons_append → Qp, drop_zero → Qq, getElem?_eq_getElem → Qr, all_cons → Qt, all_nil → Qv, getElem?_map → Qw, flatten_cons → Q0, getElem?_cons_zero → Q5, take_zero → Q7, replicate_zero → Q9, getElem?_nil → Za, length_append → Zb, getElem?_cons_succ → Zd, flatten_nil → Ze, length_mergeSort → Zf, replicate_succ → Zg, set_cons_zero → Zh, length_filter_le → Zj, mem_of_getElem? → Zk, getElem?_of_mem → Zl, take_length → Zo, map_congr_left → Zp, drop_nil → Zr, contains_nil → Zt, isEmpty_nil → Zx, eq_nil_of_length_eq_zero → Zz, set_cons_succ → Z0, mem_cons → Z2, map_map → Z4, any_nil → Z5, map_append → Z6, mem_range → Z9, replicate → Xd, mem_singleton → Xg, append_assoc → Xk, any_eq_true → Xl, length_take → Xm, not_mem_nil → Xn
open Nat renaming zero_add → Qg, le_trans → Zu, mul_one → Zy, le_refl → Z1, add_mul → Xa, one_mul → Xb, mul_le_mul_right → Xc, add_le_add_left → Xe, pow_succ → Xi, mul_comm → Xj
open Bool renaming false_eq_true → Qa, or_false → Qj, and_self → Qs, not_true → Qu, true_eq_false → Qx, and_true → Q2, not_false → Q4, and_false → Zm, false_and → Zn, true_and → Zq, not_eq_false → Zs, and_eq_true → Zv, not_eq_true → Z3, and_eq_false_iff → Z7, or_eq_false_iff → Z8, not_eq_false' → Xf, not_eq_true' → Xh
open Option renaming map_some → Qy, getD_some → Qz, getD_none → Zw
open Int renaming natCast_nonneg → Q1, toNat_natCast → Q3, natCast_one → Q6, natCast_zero → Q8, natCast_add → Zc, lt_irrefl → Zi
set_option linter.unusedSimpArgs false
set_option linter.unusedVariables false
namespace Go.C10
open Go.Fam
def eI (n : Int) : List V := [.i n]
def eCan (l : List Int) : List V := [.sl 1 (l.map eI)]
def gI : V → Int | .i n => n | _ => 0
def gR : V → List (List V) | .sl _ r => r | _ => []
def dI (r : List V) : Int := gI (r.headD .u)
def dCan (r : List V) : List Int := (gR (r.headD .u)).map dI
theorem Qw1 {α : Type} {e : α → List V} {d : List V → α} (h : ∀ x, d (e x) = x) (l : List α) : (l.map e).map d = l := by
 rw [Z4]; conv => rhs; rw [← List.map_id l]
 exact Zp fun x _ => h x
theorem Qd8 (n : Int) : dI (eI n) = n := rfl
theorem Qlb (l : List Int) : dCan (eCan l) = l := by simp [dCan, eCan, gR, Function.comp_def, Qd8]
def fnG {A B : Type} (e : A → List V) (d : List V → A) (ok : A → Prop) (g : A → B) (eb : B → V) : List V → Prop × V := fun vs => (e (d vs) = vs ∧ ok (d vs), eb (g (d vs)))
theorem Qb9 {P : Program} {A B : Type} {e : A → List V} {d : List V → A} {ok : A → Prop} {g : A → B} {eb : B → V} {f : Nat} (h : ∀ a, ok a → Qal P f (e a) (eb (g a))) (vs : List V) (hv : (fnG e d ok g eb vs).1) :
  Qal P f vs (fnG e d ok g eb vs).2 := by
 have := h (d vs) hv.2
 rw [hv.1] at this
 exact this
theorem Qb5 {A B : Type} {e : A → List V} {d : List V → A} {ok : A → Prop} {g : A → B} {eb : B → V} (a : A) (h : d (e a) = a) : fnG e d ok g eb (e a) = (ok a, eb (g a)) := by
 simp [fnG, h]
def Qaz (n lo hi : Int) : Bool := decide (lo ≤ n) && decide (n ≤ hi)
theorem Qbf {α : Type} {l : List α} {i : Nat} {x : α} (h : l[i]? = some x) : l.take (i + 1) = l.take i ++ [x] := by
 rw [List.take_add_one, h]; rfl
def idxOf {α : Type} (p : α → Bool) (l : List α) : Int := if l.any p then (l.findIdx p : Int) else -1
theorem Qgg {α : Type} {p : α → Bool} {l : List α} {i : Nat} {x : α} (hx : l[i]? = some x) (e : p x = true) (hc : ∀ j x, j < i → l[j]? = some x → p x = false) : idxOf p l = i := by
 have h1 : l.any p = true := Xl.2 ⟨x, Zk hx, e⟩
 have hl := Qan hx
 have h2 : l[i] = x := by have := Qr hl; rw [this] at hx; exact Option.some.inj hx
 have h3 : l.findIdx p = i := (List.findIdx_eq hl).2 ⟨by rw [h2]; exact e, fun j hj => hc j _ hj (Qr (by omega))⟩
 simp [idxOf, h1, h3]
theorem Qdu {α : Type} {p : α → Bool} {l : List α} (h : ∀ x ∈ l, p x = false) : idxOf p l = -1 := by
 have : l.any p = false := by simpa using h
 simp [idxOf, this]
theorem Qex {α : Type} (p : α → Bool) (l : List α) : decide (0 ≤ idxOf p l) = l.any p := by
 unfold idxOf
 cases h : l.any p <;> simp
theorem Qi1 {α : Type} {e : α → List V} {k : Nat} (h : ∀ x, (e x).length = k) : ∀ l : List α, ((l.map e).flatten).length = l.length * k
 | [] => by simp
 | x :: l => by rw [Qb, Q0, Zb, h, Qi1 h l, Qe, Nat.succ_mul]; omega
mutual
theorem Qjh (hp : List Blk) (n : Nat) : ∀ v : V, Qab v = false → cutV hp n v = v
 | .u, _ | .b _, _ | .i _, _ | .z _, _ | .sl _ _, _ | .sx _ _, _ | .pa _, _ | .pn, _ | .yl _, _ => by simp [cutV]
 | .ag cs, h | .tp cs, h => by simp only [Qab] at h; simp only [cutV, Qar hp n cs h]
 | .fn f cs, h => by simp only [Qab] at h; simp only [cutV, Qar hp n cs h]
 | .gv q v, h => by simp only [Qab] at h; simp only [cutV, Qjh hp n v h]
 | .ad _ _ _, h | .rf _ _ _ _ _, h | .mp _ _, h | .it _ _, h => by simp [Qab] at h
theorem Qar (hp : List Blk) (n : Nat) : ∀ vs : List V, Qa5 vs = false → cutL hp n vs = vs
 | [], _ => rfl
 | v :: vs, h => by
  simp only [Qa5, Z8] at h
  simp only [cutL, Qjh hp n v h.1, Qar hp n vs h.2]
end
theorem Qbi : ∀ (a b : List V), Qa5 (a ++ b) = (Qa5 a || Qa5 b)
 | [], b => by simp [Qa5]
 | v :: a, b => by simp only [Qp, Qa5, Qbi a b, Bool.or_assoc]
mutual
theorem Qm9 (n : Nat) : ∀ v : V, Qab v = false → upV n v = v
 | .u, _ | .b _, _ | .i _, _ | .z _, _ | .sl _ _, _ | .sx _ _, _ | .pa _, _ | .pn, _ | .yl _, _ => by simp [upV]
 | .ag cs, h | .tp cs, h => by simp only [Qab] at h; simp only [upV, Qe7 n cs h]
 | .fn f cs, h => by simp only [Qab] at h; simp only [upV, Qe7 n cs h]
 | .gv q v, h => by simp only [Qab] at h; simp only [upV, Qm9 n v h]
 | .ad _ _ _, h | .rf _ _ _ _ _, h | .mp _ _, h | .it _ _, h => by simp [Qab] at h
theorem Qe7 (n : Nat) : ∀ vs : List V, Qa5 vs = false → upL n vs = vs
 | [], _ => rfl
 | v :: vs, h => by
  simp only [Qa5, Z8] at h
  simp only [upL, Qm9 n v h.1, Qe7 n vs h.2]
end
theorem Qew {α : Type} {e : α → List V} (h : ∀ x, Qa5 (e x) = false) : ∀ l : List α, Qa5 (l.map e).flatten = false
 | [] => rfl
 | x :: l => by simp only [Qb, Q0, Qbi, h, Qew h l, Qj]
theorem Qds {α : Type} {e : α → List V} {k : Nat} (h : ∀ x, (e x).length = k) : ∀ (l : List α), Qcj k ((l.map e).flatten) 0 l.length = l.map e
 | [] => by simp [Qcj]
 | x :: l => by
  rw [Qe, Qjf, Qb, Q0, Qg, Qq]
  have e1 : (e x ++ (l.map e).flatten).take k = e x := by rw [List.take_append_of_le_length (by rw [h]; exact Z1 _), List.take_of_length_le (by rw [h]; exact Z1 _)]
  rw [e1]
  congr 1
  have ih := Qds h l
  unfold Qcj at ih ⊢
  conv => rhs; rw [← ih]
  apply Zp
  intro j _
  congr 1
  have e2 : k + j * k = (e x).length + j * k := by rw [h]
  rw [e2, List.drop_append, Qg]
  simp
theorem Qg4 {α : Type} {e : α → List V} (hp : List Blk) (n : Nat) (h : ∀ x, (e x).map (vw hp n) = e x) (l : List α) : (l.map e).map (fun r => r.map (vw hp n)) = l.map e := by
 rw [Z4]
 exact Zp fun x _ => h x
def ints (lo hi : Int) : List Int := (List.range (hi + 1 - lo).toNat).map fun (k : Nat) => lo + k
theorem Qec (lo hi : Int) : (ints lo hi).length = (hi + 1 - lo).toNat := by simp [ints]
theorem Qk5 {lo hi : Int} {k : Nat} (h : k < (hi + 1 - lo).toNat) : (ints lo hi)[k]? = some (lo + k) := by simp [ints, h]
theorem Qch {lo hi n : Int} : n ∈ ints lo hi ↔ lo ≤ n ∧ n ≤ hi := by
 simp only [ints, List.mem_map, Z9]
 constructor
 ·rintro ⟨k, hk, rfl⟩; omega
 ·rintro ⟨h1, h2⟩; exact ⟨(n - lo).toNat, by omega, by omega⟩
theorem Qfy (l : List Int) : Qcj 1 ((l.map eI).flatten) 0 l.length = l.map eI := Qds (e := eI) (k := 1) (fun _ => rfl) l
theorem Qgj (l : List Int) : ((l.map eI).flatten).length = l.length * 1 := Qi1 (e := eI) (k := 1) (fun _ => rfl) l
theorem vw_I (hp : List Blk) (n : Nat) (l : List Int) : (l.map eI).map (fun r => r.map (vw hp (n + 1))) = l.map eI := Qg4 (e := eI) hp (n + 1) (fun _ => rfl) l
theorem Qf2 (l : List Int) : Qa5 ((l.map eI).flatten) = false := Qew (e := eI) (fun _ => rfl) l
theorem Qh1 (l : List (List Int)) : Qcj 1 ((l.map eCan).flatten) 0 l.length = l.map eCan := Qds (e := eCan) (k := 1) (fun _ => rfl) l
theorem Qhr (l : List (List Int)) : ((l.map eCan).flatten).length = l.length * 1 := Qi1 (e := eCan) (k := 1) (fun _ => rfl) l
theorem vw_C (hp : List Blk) (n : Nat) (l : List (List Int)) : (l.map eCan).map (fun r => r.map (vw hp (n + 1))) = l.map eCan := Qg4 (e := eCan) hp (n + 1) (fun _ => rfl) l
theorem Qce (l : List (List Int)) : Qa5 ((l.map eCan).flatten) = false := Qew (e := eCan) (fun _ => rfl) l
theorem Qqw {Γ : Gam} {E : TypeId → Nat → Prop} {Q : Exit → St → Prop} {σ : St} {α : Type} {l : List Nat} {d : Option Nat} {a : RC} (n : Nat) (S : Nat → α → St) (C : Nat → α → Prop) (x0 : α) (h0 : kp l d σ = S 0 x0) (c0 : C 0 x0)
  (hs : ∀ i x, i < n → C i x → wpR Γ E a (Qae (fun σ'' => ∃ y, C (i + 1) y ∧ kp l d σ'' = S (i + 1) y) Q) (S i x)) (hn : ∀ x, C n x → wpR Γ E a (Qae (fun _ => False) Q) (S n x)) : wpR Γ E (.loop l d a) Q σ := by
 refine Qhd (fun k σ => ∃ (i : Nat) (x : α), i ≤ n ∧ k = n - i ∧ C i x ∧ σ = S i x) ⟨n, 0, x0, Nat.zero_le _, rfl, c0, h0⟩ ?_
 rintro k _ ⟨i, x, hi, rfl, hc, rfl⟩
 rcases Nat.lt_or_ge i n with h | h
 ·refine Qel _ _ _ _ (fun e σ he => ?_) (hs i x h hc)
  cases e <;> first | exact he | skip
  obtain ⟨y, hc', hk⟩ := he
  exact ⟨n - (i + 1), by omega, i + 1, y, h, rfl, hc', hk⟩
 ·have : i = n := by omega
  subst this
  refine Qel _ _ _ _ (fun e σ he => ?_) (hn x hc)
  cases e <;> first | exact he | exact he.elim
end Go.C10
set_option maxRecDepth 8000
namespace Go.C10
open Go.Fam Go.Proofs
def rc71 : RC := (.seq (.reg false [(cQ 6 [] (.mv (kB false)))]) (.keep [0,1,2] (.seq (.reg true [(cMv 7 1), (cMv 8 0), (cB 9 .leq 7 8), (cMv 10 9), (gMv 11 10 true 0), (gMv 12 10 true 2), (gQ 13 10 true [11,12] (.bin .leq (.t 11) (.t 12))), (cQ 14 [10,13] (.pick (.t 10) (.t 13) (kB false))), (cMv 6 14)]) .ret)))
def pu71 : List Nat := []
def rs71 : List RV := [.t 6]
theorem cc71 : CCx Try.prog Try.f71 pu71 rc71 := by unfold CCx; kernel_rfl
theorem cb71 : CBx Try.f71 := by unfold CBx; kernel_rfl
theorem cs71 : CSx Try.prog Try.f71 rs71 := by unfold CSx; kernel_rfl
theorem cn71 : 3 ≤ Try.f71.ntmps := by decide
def rc83 : RC := (.seq (.reg false [(cX 2 0), (cQ 4 [] (.mv (kB false)))]) (.keep [1,2] (.seq (.reg false [(cMv 5 1), (cFa 6 2 0), (cLd 7 6 false 1), (cC 8 .sub 7 1), (cQ 9 [5,8] (.call (kF 71) [(.t 5), (kI 0), (.t 8)])), (cMv 4 9)]) .ret)))
def pu83 : List Nat := [2]
def rs83 : List RV := [.t 4]
theorem cc83 : CCx Try.prog Try.f83 pu83 rc83 := by unfold CCx; kernel_rfl
theorem cb83 : CBx Try.f83 := by unfold CBx; kernel_rfl
theorem cs83 : CSx Try.prog Try.f83 rs83 := by unfold CSx; kernel_rfl
theorem cn83 : 2 ≤ Try.f83.ntmps := by decide
def rc74 : RC := (.seq (.reg false [(cX 2 0), (cX 3 1), (cQ 4 [] (.mv (kB false)))]) (.keep [2,3] (.seq (.seq (.reg false [(cFa 8 3 3), (cLd 9 8 false 1), (cLn 10 9), (cI 11 0)]) (.keep [2,3,9,10,11] (.block 0 (.loop [2,3,9,10,11] none (.seq (.reg false [(cB 12 .lss 11 10)]) (.keep [2,3,9,10,11,12] (.seq (.cond (.t 12) .skip (.exit 0)) (.keep [2,3,9,10,11] (.seq (.block 1 (.seq (.reg false [(cMv 13 11), (cA 14 1 9 11), (cLd 15 14 false 1), (cMv 5 13), (cMv 6 15)]) (.keep [2,3,5,6,9,10,11] (.seq (.reg true [(cLd 16 2 true 3), (cMv 17 6), (cQ 18 [16,17] (.call (kF 83) [(.t 16), (.t 17)])), (cN 19 18), (cMv 20 19), (gMv 21 20 false 5), (gQ 22 20 false [21] (.bin .gtr (.t 21) (kI 0))), (gMv 23 20 false 22), (gMv 24 23 true 6), (gQ 25 23 true [3] (.fad 3 (.t 3))), (gQ 26 23 true [25] (.ld false 1 (.t 25))), (gMv 27 23 true 5), (gQ 28 23 true [27] (.bin .sub (.t 27) (kI 1))), (gQ 29 23 true [26,28] (.iad 1 (.t 26) (.t 28))), (gQ 30 23 true [29] (.ld false 1 (.t 29))), (gQ 31 23 true [24,30] (.bin .leq (.t 24) (.t 30))), (gQ 32 20 false [23,31] (.pick (.t 23) (.t 31) (kB false))), (cQ 33 [20,32] (.pick (.t 20) (kB true) (.t 32)))]) (.keep [2,3,9,10,11,33] (.cond (.t 33) (.seq (.reg false [(cQ 4 [] (.mv (kB false)))]) .ret) .skip)))))) (.keep [2,3,9,10,11] (.reg false [(cC 34 .add 11 1), (cMv 11 34)]))))))))))) (.keep [2,3] (.seq (.reg false [(cQ 7 [] (.mv (kB false)))]) (.keep [2,3,7] (.seq (.seq (.reg false [(cFa 35 3 0), (cLd 36 35 false 1)]) (.keep [2,3,7,36] (.block 2 (.seq (.seq (.reg false [(cC 38 .eql 36 1), (cMv 37 38)]) (.keep [2,3,7,36,37] (.cond (.t 37) .skip (.reg false [(cC 39 .eql 36 2), (cMv 37 39)])))) (.keep [2,3,7,36,37] (.cond (.t 37) (.reg true [(cFa 40 3 3), (cLd 41 40 false 1), (cLn 42 41), (cC 43 .gtr 42 0), (cMv 44 43), (gQ 45 44 true [3] (.fad 2 (.t 3))), (gQ 46 44 true [45] (.ld false 1 (.t 45))), (gQ 47 44 true [46] (.bin .eql (.t 46) (kI 0))), (cQ 48 [44,47] (.pick (.t 44) (.t 47) (kB false))), (cMv 7 48)]) (.seq (.seq (.reg false [(cC 50 .eql 36 3), (cMv 49 50)]) (.keep [2,3,7,36,49] (.cond (.t 49) .skip (.reg false [(cC 51 .eql 36 4), (cMv 49 51)])))) (.keep [2,3,7,49] (.cond (.t 49) (.reg true [(cFa 52 3 3), (cLd 53 52 false 1), (cLn 54 53), (cC 55 .eql 54 0), (cMv 56 55), (gQ 57 56 true [2] (.ld true 3 (.t 2))), (gQ 58 56 true [3] (.fad 2 (.t 3))), (gQ 59 56 true [58] (.ld false 1 (.t 58))), (gQ 60 56 true [57,59] (.call (kF 83) [(.t 57), (.t 59)])), (cQ 61 [56,60] (.pick (.t 56) (.t 60) (kB false))), (cMv 62 61), (gQ 63 62 true [3] (.fad 2 (.t 3))), (gQ 64 62 true [63] (.ld false 1 (.t 63))), (gQ 65 62 true [3] (.fad 1 (.t 3))), (gQ 66 62 true [65] (.ld false 1 (.t 65))), (gQ 67 62 true [64,66] (.bin .neq (.t 64) (.t 66))), (cQ 68 [62,67] (.pick (.t 62) (.t 67) (kB false))), (cMv 7 68)]) .skip))))))))) (.keep [2,3,7] (.seq (.reg true [(cMv 69 7), (cMv 70 69), (gQ 71 70 true [2] (.ld true 3 (.t 2))), (gQ 72 70 true [3] (.fad 1 (.t 3))), (gQ 73 70 true [72] (.ld false 1 (.t 72))), (gQ 74 70 true [71,73] (.call (kF 83) [(.t 71), (.t 73)])), (cQ 75 [70,74] (.pick (.t 70) (.t 74) (kB false))), (cMv 4 75)]) .ret)))))))))
def pu74 : List Nat := [2,3]
def rs74 : List RV := [.t 4]
theorem cc74 : CCx Try.prog Try.f74 pu74 rc74 := by unfold CCx; kernel_rfl
theorem cb74 : CBx Try.f74 := by unfold CBx; kernel_rfl
theorem cs74 : CSx Try.prog Try.f74 rs74 := by unfold CSx; kernel_rfl
theorem cn74 : 2 ≤ Try.f74.ntmps := by decide
def rc73 : RC := (.seq (.reg false [(cX 2 0), (cQ 3 [] (.mv (kB false)))]) (.keep [1,2] (.seq (.reg false [(cLd 4 1 true 3), (cLd 5 2 true 4), (cQ 6 [4,5] (.call (kF 74) [(.t 4), (.t 5)])), (cN 7 6), (cMv 3 7)]) .ret)))
def pu73 : List Nat := [2]
def rs73 : List RV := [.t 3]
theorem cc73 : CCx Try.prog Try.f73 pu73 rc73 := by unfold CCx; kernel_rfl
theorem cb73 : CBx Try.f73 := by unfold CBx; kernel_rfl
theorem cs73 : CSx Try.prog Try.f73 rs73 := by unfold CSx; kernel_rfl
theorem cn73 : 2 ≤ Try.f73.ntmps := by decide
def rc87 : RC := (.seq (.reg false [(cI 4 0)]) (.keep [0,1] (.seq (.seq (.reg false [(cMv 6 0), (cLn 7 6), (cI 8 0)]) (.keep [0,1,7,8] (.block 0 (.loop [0,1,7,8] none (.seq (.reg false [(cB 9 .lss 8 7)]) (.keep [0,1,7,8,9] (.seq (.cond (.t 9) .skip (.exit 0)) (.keep [0,1,7,8] (.seq (.block 1 (.seq (.reg false [(cMv 10 8), (cMv 5 10)]) (.keep [0,1,5,7,8] (.seq (.reg false [(cMv 11 1), (cMv 12 0), (cMv 13 5), (cA 14 4 12 13), (cLd 15 14 true 4), (cQ 16 [11,15] (.call (.t 11) [(.t 15)]))]) (.keep [0,1,5,7,8,16] (.cond (.t 16) (.seq (.reg false [(cMv 17 5), (cMv 4 17)]) .ret) .skip)))))) (.keep [0,1,7,8] (.reg false [(cC 18 .add 8 1), (cMv 8 18)]))))))))))) (.keep [] (.seq (.reg false [(cQ 4 [] (.mv (.k (.i (-1)))))]) .ret)))))
def pu87 : List Nat := []
def rs87 : List RV := [.t 4]
theorem cc87 : CCx Try.prog Try.f87 pu87 rc87 := by unfold CCx; kernel_rfl
theorem cb87 : CBx Try.f87 := by unfold CBx; kernel_rfl
theorem cs87 : CSx Try.prog Try.f87 rs87 := by unfold CSx; kernel_rfl
theorem cn87 : 2 ≤ Try.f87.ntmps := by decide
def rc72 : RC := (.seq (.reg false [(cQ 4 [] (.mv (kB false)))]) (.keep [0,1] (.seq (.reg false [(cMv 5 0), (cMv 6 1), (cQ 7 [5,6] (.call (kF 87) [(.t 5), (.t 6)])), (cC 8 .geq 7 0), (cMv 4 8)]) .ret)))
def pu72 : List Nat := []
def rs72 : List RV := [.t 4]
theorem cc72 : CCx Try.prog Try.f72 pu72 rc72 := by unfold CCx; kernel_rfl
theorem cb72 : CBx Try.f72 := by unfold CBx; kernel_rfl
theorem cs72 : CSx Try.prog Try.f72 rs72 := by unfold CSx; kernel_rfl
theorem cn72 : 2 ≤ Try.f72.ntmps := by decide
def rc44 : RC := (.seq (.reg false [(cX 1 0), (cI 2 0)]) (.keep [1] (.seq (.seq (.reg true [(cFa 3 1 0), (cLd 4 3 false 1), (cQ 5 [4] (.call (kF 71) [(.t 4), (kI 0), (kI 7)])), (cN 6 5), (cMv 7 6), (gQ 8 7 false [1] (.fad 2 (.t 1))), (gQ 9 7 false [8] (.ld false 1 (.t 8))), (gQ 10 7 false [9] (.call (kF 71) [(.t 9), (kI 0), (kI 7)])), (gQ 11 7 false [10] (.not (.t 10))), (cQ 12 [7,11] (.pick (.t 7) (kB true) (.t 11)))]) (.keep [1,12] (.cond (.t 12) (.seq (.reg false [(cI 2 100)]) .ret) .skip))) (.keep [1] (.seq (.seq (.reg true [(cFa 13 1 1), (cLd 14 13 false 1), (cLn 15 14), (cC 16 .gtr 15 20), (cMv 17 16), (gQ 18 17 false [1] (.fad 1 (.t 1))), (gQ 19 17 false [18] (.ld false 1 (.t 18))), (gQ 20 17 false [1] (.mkf 73 [(.t 1)])), (gQ 21 17 false [19,20] (.call (kF 72) [(.t 19), (.t 20)])), (cQ 22 [17,21] (.pick (.t 17) (kB true) (.t 21)))]) (.keep [22] (.cond (.t 22) (.seq (.reg false [(cI 2 101)]) .ret) .skip))) (.keep [] (.seq (.reg false [(cI 2 0)]) .ret)))))))
def pu44 : List Nat := [1]
def rs44 : List RV := [.t 2]
theorem cc44 : CCx Try.prog Try.f44 pu44 rc44 := by unfold CCx; kernel_rfl
theorem cb44 : CBx Try.f44 := by unfold CBx; kernel_rfl
theorem cs44 : CSx Try.prog Try.f44 rs44 := by unfold CSx; kernel_rfl
theorem cn44 : 1 ≤ Try.f44.ntmps := by decide
def rc70 : RC := (.seq (.reg false [(cX 3 1), (cQ 4 [] (.mv (kB false)))]) (.keep [0,3] (.seq (.seq (.reg false [(cFa 5 3 0), (cLd 6 5 false 1)]) (.keep [0,3,6] (.block 0 (.seq (.reg false [(cC 8 .eql 6 1), (cMv 7 8)]) (.keep [0,3,6,7] (.cond (.t 7) (.seq (.any false 0 [⟨(cFa 9 3 3), [], []⟩, ⟨(cLd 10 9 false 1), [], [0]⟩, ⟨(cMv 11 0), [], []⟩, ⟨(cFa 12 3 1), [], []⟩, ⟨(cLd 13 12 false 1), [], [3]⟩, ⟨(cA 14 1 11 13), [], [2,4,3]⟩, ⟨(cLd 15 14 false 1), [], [5,2,4,3]⟩, ⟨(cQ 16 [10,15] (.call (kF 79) [(.t 10), (.t 15)])), [], [1,0,6,5,2,4,3]⟩, ⟨(cMv 4 16), [], [7,1,0,6,5,2,4,3]⟩]) .ret) (.seq (.reg false [(cC 18 .eql 6 2), (cMv 17 18)]) (.keep [0,3,6,17] (.cond (.t 17) (.seq (.any false 0 [⟨(cFa 19 3 3), [], []⟩, ⟨(cLd 20 19 false 1), [], [0]⟩, ⟨(cMv 21 0), [], []⟩, ⟨(cFa 22 3 1), [], []⟩, ⟨(cLd 23 22 false 1), [], [3]⟩, ⟨(cA 24 1 21 23), [], [2,4,3]⟩, ⟨(cLd 25 24 false 1), [], [5,2,4,3]⟩, ⟨(cQ 26 [20,25] (.call (kF 79) [(.t 20), (.t 25)])), [], [1,0,6,5,2,4,3]⟩, ⟨(cN 27 26), [], [7,1,0,6,5,2,4,3]⟩, ⟨(cMv 4 27), [], [8,7,1,0,6,5,2,4,3]⟩]) .ret) (.seq (.reg false [(cC 29 .eql 6 3), (cMv 28 29)]) (.keep [0,3,28] (.cond (.t 28) (.seq (.any true 0 [⟨(cMv 30 0), [], []⟩, ⟨(cFa 31 3 1), [], []⟩, ⟨(cLd 32 31 false 1), [], [1]⟩, ⟨(cA 33 1 30 32), [], [0,2,1]⟩, ⟨(cLd 34 33 false 1), [], [3,0,2,1]⟩, ⟨(cFa 35 3 2), [], []⟩, ⟨(cLd 36 35 false 1), [], [5]⟩, ⟨(cB 37 .eql 34 36), [], [4,3,0,2,1,6,5]⟩, ⟨(cMv 38 37), [], [7,4,3,0,2,1,6,5]⟩, ⟨(gMv 39 38 true 0), [], [8,7,4,3,0,2,1,6,5]⟩, ⟨(gQ 40 38 true [3] (.fad 2 (.t 3))), [], [8,7,4,3,0,2,1,6,5]⟩, ⟨(gQ 41 38 true [40] (.ld false 1 (.t 40))), [], [10,8,7,4,3,0,2,1,6,5]⟩, ⟨(gQ 42 38 true [39,41] (.iad 1 (.t 39) (.t 41))), [], [9,8,7,4,3,0,2,1,6,5,11,10]⟩, ⟨(gQ 43 38 true [42] (.ld false 1 (.t 42))), [], [12,9,8,7,4,3,0,2,1,6,5,11,10]⟩, ⟨(gQ 44 38 true [3] (.fad 1 (.t 3))), [], [8,7,4,3,0,2,1,6,5]⟩, ⟨(gQ 45 38 true [44] (.ld false 1 (.t 44))), [], [14,8,7,4,3,0,2,1,6,5]⟩, ⟨(gQ 46 38 true [43,45] (.bin .eql (.t 43) (.t 45))), [], [13,12,9,8,7,4,3,0,2,1,6,5,11,10,15,14]⟩, ⟨(cQ 47 [38,46] (.pick (.t 38) (.t 46) (kB false))), [], [8,7,4,3,0,2,1,6,5,16,13,12,9,11,10,15,14]⟩, ⟨(cMv 4 47), [], [17,8,7,4,3,0,2,1,6,5,16,13,12,9,11,10,15,14]⟩]) .ret) .skip)))))))))))) (.keep [0,3] (.seq (.any true 0 [⟨(cMv 48 0), [], []⟩, ⟨(cFa 49 3 1), [], []⟩, ⟨(cLd 50 49 false 1), [], [1]⟩, ⟨(cA 51 1 48 50), [], [0,2,1]⟩, ⟨(cLd 52 51 false 1), [], [3,0,2,1]⟩, ⟨(cFa 53 3 1), [], []⟩, ⟨(cLd 54 53 false 1), [], [5]⟩, ⟨(cB 55 .eql 52 54), [], [4,3,0,2,1,6,5]⟩, ⟨(cMv 56 55), [], [7,4,3,0,2,1,6,5]⟩, ⟨(gMv 57 56 false 0), [], [8,7,4,3,0,2,1,6,5]⟩, ⟨(gQ 58 56 false [3] (.fad 2 (.t 3))), [], [8,7,4,3,0,2,1,6,5]⟩, ⟨(gQ 59 56 false [58] (.ld false 1 (.t 58))), [], [10,8,7,4,3,0,2,1,6,5]⟩, ⟨(gQ 60 56 false [57,59] (.iad 1 (.t 57) (.t 59))), [], [9,8,7,4,3,0,2,1,6,5,11,10]⟩, ⟨(gQ 61 56 false [60] (.ld false 1 (.t 60))), [], [12,9,8,7,4,3,0,2,1,6,5,11,10]⟩, ⟨(gQ 62 56 false [3] (.fad 2 (.t 3))), [], [8,7,4,3,0,2,1,6,5]⟩, ⟨(gQ 63 56 false [62] (.ld false 1 (.t 62))), [], [14,8,7,4,3,0,2,1,6,5]⟩, ⟨(gQ 64 56 false [61,63] (.bin .eql (.t 61) (.t 63))), [], [13,12,9,8,7,4,3,0,2,1,6,5,11,10,15,14]⟩, ⟨(cQ 65 [56,64] (.pick (.t 56) (kB true) (.t 64))), [], [8,7,4,3,0,2,1,6,5,16,13,12,9,11,10,15,14]⟩, ⟨(cMv 4 65), [], [17,8,7,4,3,0,2,1,6,5,16,13,12,9,11,10,15,14]⟩]) .ret)))))
def pu70 : List Nat := [3]
def rs70 : List RV := [.t 4]
theorem cc70 : CCx Try.prog Try.f70 pu70 rc70 := by unfold CCx; kernel_rfl
theorem cb70 : CBx Try.f70 := by unfold CBx; kernel_rfl
theorem cs70 : CSx Try.prog Try.f70 rs70 := by unfold CSx; kernel_rfl
theorem cn70 : 2 ≤ Try.f70.ntmps := by decide
def rc93 : RC := (.seq (.reg false [(cI 4 0)]) (.keep [0,1] (.seq (.seq (.reg false [(cMv 6 0), (cLn 7 6), (cI 8 0)]) (.keep [0,1,7,8] (.block 0 (.loop [0,1,7,8] none (.seq (.reg false [(cB 9 .lss 8 7)]) (.keep [0,1,7,8,9] (.seq (.cond (.t 9) .skip (.exit 0)) (.keep [0,1,7,8] (.seq (.block 1 (.seq (.reg false [(cMv 10 8), (cMv 5 10)]) (.keep [0,1,5,7,8] (.seq (.reg false [(cMv 11 1), (cMv 12 0), (cMv 13 5), (cA 14 1 12 13), (cLd 15 14 false 1), (cB 16 .eql 11 15)]) (.keep [0,1,5,7,8,16] (.cond (.t 16) (.seq (.reg false [(cMv 17 5), (cMv 4 17)]) .ret) .skip)))))) (.keep [0,1,7,8] (.reg false [(cC 18 .add 8 1), (cMv 8 18)]))))))))))) (.keep [] (.seq (.reg false [(cQ 4 [] (.mv (.k (.i (-1)))))]) .ret)))))
def pu93 : List Nat := []
def rs93 : List RV := [.t 4]
theorem cc93 : CCx Try.prog Try.f93 pu93 rc93 := by unfold CCx; kernel_rfl
theorem cb93 : CBx Try.f93 := by unfold CBx; kernel_rfl
theorem cs93 : CSx Try.prog Try.f93 rs93 := by unfold CSx; kernel_rfl
theorem cn93 : 2 ≤ Try.f93.ntmps := by decide
def rc88 : RC := (.seq (.reg false [(cQ 4 [] (.mv (kB false)))]) (.keep [0,1] (.seq (.reg false [(cMv 5 0), (cMv 6 1), (cQ 7 [5,6] (.call (kF 93) [(.t 5), (.t 6)])), (cC 8 .geq 7 0), (cMv 4 8)]) .ret)))
def pu88 : List Nat := []
def rs88 : List RV := [.t 4]
theorem cc88 : CCx Try.prog Try.f88 pu88 rc88 := by unfold CCx; kernel_rfl
theorem cb88 : CBx Try.f88 := by unfold CBx; kernel_rfl
theorem cs88 : CSx Try.prog Try.f88 rs88 := by unfold CSx; kernel_rfl
theorem cn88 : 2 ≤ Try.f88.ntmps := by decide
def rc89 : RC := (.seq (.reg false [(cI 4 0)]) (.keep [0,1] (.seq (.seq (.reg false [(cMv 6 0), (cLn 7 6), (cI 8 0)]) (.keep [0,1,7,8] (.block 0 (.loop [0,1,7,8] none (.seq (.reg false [(cB 9 .lss 8 7)]) (.keep [0,1,7,8,9] (.seq (.cond (.t 9) .skip (.exit 0)) (.keep [0,1,7,8] (.seq (.block 1 (.seq (.reg false [(cMv 10 8), (cMv 5 10)]) (.keep [0,1,5,7,8] (.seq (.reg false [(cMv 11 1), (cMv 12 0), (cMv 13 5), (cA 14 1 12 13), (cLd 15 14 false 1), (cB 16 .eql 11 15)]) (.keep [0,1,5,7,8,16] (.cond (.t 16) (.seq (.reg false [(cMv 17 5), (cMv 4 17)]) .ret) .skip)))))) (.keep [0,1,7,8] (.reg false [(cC 18 .add 8 1), (cMv 8 18)]))))))))))) (.keep [] (.seq (.reg false [(cQ 4 [] (.mv (.k (.i (-1)))))]) .ret)))))
def pu89 : List Nat := []
def rs89 : List RV := [.t 4]
theorem cc89 : CCx Try.prog Try.f89 pu89 rc89 := by unfold CCx; kernel_rfl
theorem cb89 : CBx Try.f89 := by unfold CBx; kernel_rfl
theorem cs89 : CSx Try.prog Try.f89 rs89 := by unfold CSx; kernel_rfl
theorem cn89 : 2 ≤ Try.f89.ntmps := by decide
def rc79 : RC := (.seq (.reg false [(cQ 4 [] (.mv (kB false)))]) (.keep [0,1] (.seq (.reg false [(cMv 5 0), (cMv 6 1), (cQ 7 [5,6] (.call (kF 89) [(.t 5), (.t 6)])), (cC 8 .geq 7 0), (cMv 4 8)]) .ret)))
def pu79 : List Nat := []
def rs79 : List RV := [.t 4]
theorem cc79 : CCx Try.prog Try.f79 pu79 rc79 := by unfold CCx; kernel_rfl
theorem cb79 : CBx Try.f79 := by unfold CBx; kernel_rfl
theorem cs79 : CSx Try.prog Try.f79 rs79 := by unfold CSx; kernel_rfl
theorem cn79 : 2 ≤ Try.f79.ntmps := by decide
def rc66 : RC := (.seq (.reg false [(cX 2 0), (cQ 4 [] (.mv (.k (.z 1)))), (cI 5 0)]) (.keep [1,2] (.seq (.seq (.reg false [(cLd 8 2 true 3), (cQ 9 [8] (.call (kF 44) [(.t 8)])), (cMv 6 9)]) (.keep [1,2,6] (.seq (.reg false [(cMv 10 6), (cC 11 .neq 10 0)]) (.keep [1,2,6,11] (.cond (.t 11) (.seq (.reg false [(cMv 12 6), (cQ 4 [] (.mv (.k (.z 1)))), (cMv 5 12)]) .ret) .skip))))) (.keep [1,2] (.seq (.seq (.reg false [(cMv 13 1), (cQ 14 [2] (.mkf 82 [(.t 2)])), (cQ 15 [13,14] (.call (kF 81) [(.t 13), (.t 14)]))]) (.keep [2,15] (.cond (.t 15) (.seq (.reg false [(cQ 4 [] (.mv (.k (.z 1)))), (cI 5 1)]) .ret) .skip))) (.keep [2] (.seq (.reg false [(cLd 16 2 true 3), (cQ 17 [16] (.call (kF 50) [(.t 16)])), (cMv 7 17)]) (.keep [7] (.seq (.seq (.reg false [(cMv 18 7), (cLn 19 18), (cC 20 .eql 19 0)]) (.keep [7,20] (.cond (.t 20) (.seq (.reg false [(cQ 4 [] (.mv (.k (.z 1)))), (cI 5 3)]) .ret) .skip))) (.keep [7] (.seq (.reg false [(cMv 21 7), (cMv 4 21), (cI 5 0)]) .ret)))))))))))
def pu66 : List Nat := [2]
def rs66 : List RV := [.t 4, .t 5]
theorem cc66 : CCx Try.prog Try.f66 pu66 rc66 := by unfold CCx; kernel_rfl
theorem cb66 : CBx Try.f66 := by unfold CBx; kernel_rfl
theorem cs66 : CSx Try.prog Try.f66 rs66 := by unfold CSx; kernel_rfl
theorem cn66 : 2 ≤ Try.f66.ntmps := by decide
def rc82 : RC := (.seq (.reg false [(cQ 3 [] (.mv (kB false)))]) (.keep [0,1] (.seq (.reg false [(cLd 4 1 true 3), (cMv 5 0), (cQ 6 [4,5] (.call (kF 83) [(.t 4), (.t 5)])), (cN 7 6), (cMv 3 7)]) .ret)))
def pu82 : List Nat := []
def rs82 : List RV := [.t 3]
theorem cc82 : CCx Try.prog Try.f82 pu82 rc82 := by unfold CCx; kernel_rfl
theorem cb82 : CBx Try.f82 := by unfold CBx; kernel_rfl
theorem cs82 : CSx Try.prog Try.f82 rs82 := by unfold CSx; kernel_rfl
theorem cn82 : 2 ≤ Try.f82.ntmps := by decide
def rc90 : RC := (.seq (.reg false [(cI 4 0)]) (.keep [0,1] (.seq (.seq (.reg false [(cMv 6 0), (cLn 7 6), (cI 8 0)]) (.keep [0,1,7,8] (.block 0 (.loop [0,1,7,8] none (.seq (.reg false [(cB 9 .lss 8 7)]) (.keep [0,1,7,8,9] (.seq (.cond (.t 9) .skip (.exit 0)) (.keep [0,1,7,8] (.seq (.block 1 (.seq (.reg false [(cMv 10 8), (cMv 5 10)]) (.keep [0,1,5,7,8] (.seq (.reg false [(cMv 11 1), (cMv 12 0), (cMv 13 5), (cA 14 1 12 13), (cLd 15 14 false 1), (cQ 16 [11,15] (.call (.t 11) [(.t 15)]))]) (.keep [0,1,5,7,8,16] (.cond (.t 16) (.seq (.reg false [(cMv 17 5), (cMv 4 17)]) .ret) .skip)))))) (.keep [0,1,7,8] (.reg false [(cC 18 .add 8 1), (cMv 8 18)]))))))))))) (.keep [] (.seq (.reg false [(cQ 4 [] (.mv (.k (.i (-1)))))]) .ret)))))
def pu90 : List Nat := []
def rs90 : List RV := [.t 4]
theorem cc90 : CCx Try.prog Try.f90 pu90 rc90 := by unfold CCx; kernel_rfl
theorem cb90 : CBx Try.f90 := by unfold CBx; kernel_rfl
theorem cs90 : CSx Try.prog Try.f90 rs90 := by unfold CSx; kernel_rfl
theorem cn90 : 2 ≤ Try.f90.ntmps := by decide
def rc81 : RC := (.seq (.reg false [(cQ 4 [] (.mv (kB false)))]) (.keep [0,1] (.seq (.reg false [(cMv 5 0), (cMv 6 1), (cQ 7 [5,6] (.call (kF 90) [(.t 5), (.t 6)])), (cC 8 .geq 7 0), (cMv 4 8)]) .ret)))
def pu81 : List Nat := []
def rs81 : List RV := [.t 4]
theorem cc81 : CCx Try.prog Try.f81 pu81 rc81 := by unfold CCx; kernel_rfl
theorem cb81 : CBx Try.f81 := by unfold CBx; kernel_rfl
theorem cs81 : CSx Try.prog Try.f81 rs81 := by unfold CSx; kernel_rfl
theorem cn81 : 2 ≤ Try.f81.ntmps := by decide
def rc16 : RC := (.seq (.reg false [(cX 1 0), (cI 2 0), (cI 3 0)]) (.keep [1] (.seq (.seq (.reg false [(cLd 5 1 true 3), (cQ 6 [5] (.call (kF 44) [(.t 5)])), (cMv 4 6)]) (.keep [1,4] (.seq (.reg false [(cMv 7 4), (cC 8 .neq 7 0)]) (.keep [1,4,8] (.cond (.t 8) (.seq (.reg false [(cMv 9 4), (cI 2 0), (cMv 3 9)]) .ret) .skip))))) (.keep [1] (.seq (.reg false [(cLd 10 1 true 3), (cQ 11 [10] (.call (kF 50) [(.t 10)])), (cLn 12 11), (cMv 2 12), (cI 3 0)]) .ret)))))
def pu16 : List Nat := [1]
def rs16 : List RV := [.t 2, .t 3]
theorem cc16 : CCx Try.prog Try.f16 pu16 rc16 := by unfold CCx; kernel_rfl
theorem cb16 : CBx Try.f16 := by unfold CBx; kernel_rfl
theorem cs16 : CSx Try.prog Try.f16 rs16 := by unfold CSx; kernel_rfl
theorem cn16 : 1 ≤ Try.f16.ntmps := by decide
end Go.C10
set_option linter.unusedSimpArgs false
set_option linter.unusedVariables false
namespace Go.C10
open Go.Fam Go.Proofs
theorem hmix : Try.prog.follows .mixedOrders = true := by kernel_rfl
structure Word where
 kind : Int
 guest : Int
 other : Int
 among : List Int
 deriving DecidableEq
structure Stand where
 guests : Int
 words : List Word
 wrong : Int
 deriving DecidableEq
def eWord (w : Word) : List V := [.i w.kind, .i w.guest, .i w.other, .sl 1 (w.among.map eI)]
def Qa4 (s : Stand) : List V := [.i s.guests, .sl 4 (s.words.map eWord), .i s.wrong]
def Qep : List V → Word | [a, b, c, d] => ⟨gI a, gI b, gI c, (gR d).map dI⟩ | _ => ⟨0, 0, 0, []⟩
def Qb2 : List V → Stand | [a, b, c] => ⟨gI a, (gR b).map Qep, gI c⟩ | _ => ⟨0, [], 0⟩
theorem Qet (w : Word) : Qep (eWord w) = w := by simp [Qep, eWord, gI, gR, Function.comp_def, Qd8]
theorem Qbc (s : Stand) : Qb2 (Qa4 s) = s := by simp [Qb2, Qa4, gI, gR, Function.comp_def, Qet]
def eT : List Int → V
 | [] => .z 1
 | l => .sl 1 (l.map eI)
def dT : V → List Int | .sl _ l => l.map dI | _ => []
theorem dT_e (l : List Int) : dT (eT l) = l := by cases l <;> simp [dT, eT, Function.comp_def, Qd8]
end Go.C10
set_option linter.unusedSimpArgs false
set_option linter.unusedVariables false
namespace Go.C10
open Go.Fam Go.Proofs Go.ChangeAt
variable {H : Type} {enc : TypeId × Value → H} {W : World}
theorem uInt : Try.prog.underlying 3 = some (.int .i64) := by kernel_rfl
theorem Qmr : Rd enc Try.prog W 3 eI inI := Qx4 uInt
theorem Qsw : Rd enc Try.prog W 30 (fun l : List Int => [.sl 1 (l.map eI)]) (fun l => ∀ x ∈ l, inI x) :=
 (Qnw (el := 3) (es := 1) (by kernel_rfl) (by kernel_rfl) (by decide) Qmr).map id (fun _ => rfl) fun _ h => h.1
theorem Qx3 : Rd enc Try.prog W 51 eWord (fun _ => True) :=
 (RdP.rd (fs := Try.prog.fieldsOf 51) (n := 4) (ps := [(3, 0), (3, 1), (3, 2), (30, 3)]) (by kernel_rfl) (by kernel_rfl) (by kernel_rfl)
  (Qeh (k := 1) (by kernel_rfl) Qmr (Qeh (k := 1) (by kernel_rfl) Qmr (Qeh (k := 1) (by kernel_rfl) Qmr (Qeh (k := 1) (by kernel_rfl) Qsw (Qql (by decide))))))).map
  (fun p => ⟨p.1, p.2.1, p.2.2.1, p.2.2.2.1⟩) (fun _ => rfl) fun _ _ => trivial
theorem Qu4 : Rd enc Try.prog W 22 (fun l : List Word => [.sl 4 (l.map eWord)]) (fun _ => True) :=
 (Qnw (el := 51) (es := 4) (by kernel_rfl) (by kernel_rfl) (by decide) Qx3).map id (fun _ => rfl) fun _ _ => trivial
theorem Qu3 : Rd enc Try.prog W 24 Qa4 (fun s => inI s.guests ∧ inI s.wrong) :=
 (RdP.rd (fs := Try.prog.fieldsOf 24) (n := 3) (ps := [(3, 0), (22, 1), (3, 2)]) (by kernel_rfl) (by kernel_rfl) (by kernel_rfl)
  (Qeh (k := 1) (by kernel_rfl) Qmr (Qeh (k := 1) (by kernel_rfl) Qu4 (Qeh (k := 1) (by kernel_rfl) Qmr (Qql (by decide)))))).map
  (fun p => ⟨p.1, p.2.1, p.2.2.1⟩) (fun _ => rfl) fun _ h => ⟨h.1, h.2.2.1⟩
theorem aStand : RdV enc Try.prog W 24 (fun d => .ag (Qa4 d)) (fun s => inI s.guests ∧ inI s.wrong) := Qu3.agg (fs := Try.prog.fieldsOf 24) (by kernel_rfl)
theorem aInt : RdV enc Try.prog W 3 (fun n => .i n) inI := Rd.one (Qu0 uInt) Qmr
theorem aInts : RdV enc Try.prog W 30 (fun l : List Int => .sl 1 (l.map eI)) (fun l => ∀ x ∈ l, inI x) := Rd.one (Qqc (el := 3) (by kernel_rfl)) Qsw
theorem own : ownKnob Try.prog.godebug = none := by kernel_rfl
theorem laid : laidOutB Try.prog = true := by kernel_rfl
end Go.C10
set_option linter.unusedSimpArgs false
set_option linter.unusedVariables false
namespace Go.C10
open Go.Fam Go.Proofs
variable {Γ : Gam}
theorem Qp7 (l : List Int) (n : Int) : (l.any fun x => decide (n = x)) = decide (n ∈ l) := by
 rw [Bool.eq_iff_iff, Xl, decide_eq_true_eq]
 constructor
 ·rintro ⟨x, hx, e⟩
  rw [decide_eq_true_eq] at e
  exact e ▸ hx
 ·intro h
  exact ⟨n, h, by simp⟩
theorem W71 (n lo hi : Int) : Qal Try.prog 71 [.i n, .i lo, .i hi] (.b (Qaz n lo hi)) := by
 refine Qak Qvy hmix Try.func71 cb71 cc71 cs71 cn71 ?_
 simp only [rc71, rs71, Qa9, Qa8, Qah, Qa6, Qae, Qa7, Qa2, Fam.step, Qaf, Qay, Qat, ug, evO, opv, qv, Qai, binV, Qa1, Qa0, Qa3, ↓reduceIte, Nat.reduceEqDiff, Nat.reduceAdd, Qb, Qc, Qt, Qv, endQ, rvs, rv1, resV, vw_b, zipA, Qg, V.b.injEq, Qs, Q2, decide_eq_true_eq, decide_eq_false_iff_not, true_and, and_true, and_self, implies_true, reduceCtorEq, beq_true, Qol, imp_self]
 by_cases h : lo ≤ n <;> simp [h, Qaz]
theorem okΓ0 : GOk Try.prog Γ0 := Qvy
def e71 (a : Int × Int × Int) : List V := [.i a.1, .i a.2.1, .i a.2.2]
def d71 : List V → Int × Int × Int | [.i x0, .i x1, .i x2] => (x0, x1, x2) | _ => (0, 0, 0)
theorem Qyb (a : Int × Int × Int) : d71 (e71 a) = a := by simp [d71, e71]
noncomputable def HA1 : Gam := Γ0.ext 71 (fnG e71 d71 (fun a => (fun (n : Int) (lo : Int) (hi : Int) => True) a.1 a.2.1 a.2.2) (fun a => (fun (n : Int) (lo : Int) (hi : Int) => Qaz n lo hi) a.1 a.2.1 a.2.2) .b)
theorem Qtt : GOk Try.prog HA1 := okΓ0.ext (f := 71) (fun a w => Try.call71 a w) (Qb9 (e := e71) (d := d71) (ok := (fun a => (fun (n : Int) (lo : Int) (hi : Int) => True) a.1 a.2.1 a.2.2)) (g := (fun a => (fun (n : Int) (lo : Int) (hi : Int) => Qaz n lo hi) a.1 a.2.1 a.2.2)) (eb := .b) fun a h => W71 a.1 a.2.1 a.2.2)
theorem h71 (n : Int) (lo : Int) (hi : Int) : HA1 71 [.i n, .i lo, .i hi] = (True, .b (Qaz n lo hi)) :=
 (show HA1 71 _ = fnG e71 d71 (fun a => (fun (n : Int) (lo : Int) (hi : Int) => True) a.1 a.2.1 a.2.2) (fun a => (fun (n : Int) (lo : Int) (hi : Int) => Qaz n lo hi) a.1 a.2.1 a.2.2) .b (e71 (n, lo, hi)) from rfl).trans (Qb5 _ (Qyb _))
theorem W89 (l : List Int) (n : Int) (h : l.length ≤ 1000000) : Qal Try.prog 89 [.sl 1 (l.map eI), .i n] (.i (idxOf (fun x => decide (n = x)) l)) := by
 refine Qak Qtt hmix Try.func89 cb89 cc89 cs89 cn89 ?_
 simp only [rc89, rs89, Qa9, Qa8, Qad, Qa6, Qae, Qa7, Qa2, Fam.step, Qaf, evO, opv, qv, lenV, Qa1, Qa0, Qa3, ↓reduceIte, Nat.reduceEqDiff, Int.reduceNeg, Qb, Qc, zipA, Qg, true_and, reduceCtorEq, Qi]
 refine Qbs l.length (fun i => ⟨lkp [(0, .sl 1 (l.map eI)), (1, .i n), (7, .i l.length), (8, .i i)], []⟩) (fun i => ∀ j x, j < i → l[j]? = some x → decide (n = x) = false) ?_ ?_ ?_ ?_
 ·simp only [Q8, kp, Qa0, Qa3, ↓reduceIte, Nat.reduceEqDiff, Qb, Qc, reduceCtorEq]
 ·intro j x h; omega
 ·intro i hi hc
  obtain ⟨x, hx⟩ : ∃ x, l[i]? = some x := ⟨_, Qr hi⟩
  have hlt : (i : Int) < l.length := by omega
  have h3 : inI ((i : Int) + 1) := by unfold inI; omega
  simp only [hx, hlt, Zc, Q6, h3, Qag, Qa9, Qa8, Qac, Qj9, Qad, Qah, Qa6, Qae, Qaj, Qa7, Qa2, Fam.step, Qaf, evO, opv, qv, binV, ldV, iadV, kp, Qa1, Qa0, Qa3, ↓reduceIte, Nat.reduceEqDiff, Nat.reduceLeDiff, Int.reduceNeg, Qb, Qc, Qe, Qf, Ql, Qz, endQ, rvs, rv1, resV, vw_i, Q1, Qg, V.i.injEq, Qa, decide_true, decide_eq_true_eq, decide_eq_false_iff_not, true_and, and_true, and_self, reduceCtorEq, Qy, Qi, Q3, Qo, Qw, eI]
  refine ⟨fun e => ?_, fun e => ?_⟩
  ·rw [Qgg hx (by simp [e]) hc]
  ·intro j y hj hy
   by_cases hji : j < i
   ·simpa using hc j y hji hy
   ·have : j = i := by omega
    subst this
    rw [hx] at hy; cases hy; simpa using e
 ·intro hc
  simp only [Qa9, Qa8, Qac, Qb1, Qah, Qa6, Qae, Qaj, Qa7, Qa2, Fam.step, Qaf, evO, opv, qv, binV, Qa1, Qa0, Qa3, ↓reduceIte, Nat.reduceEqDiff, Int.reduceNeg, Qb, Qc, endQ, rvs, rv1, resV, vw_i, Zi, V.i.injEq, Qa, decide_false, true_and, and_self, reduceCtorEq]
  exact (Qdu fun x hx => by
   obtain ⟨j, hj⟩ := Zl hx
   exact hc j x (by have := Qan hj; exact this) hj).symm
theorem W93 (l : List Int) (n : Int) (h : l.length ≤ 1000000) : Qal Try.prog 93 [.sl 1 (l.map eI), .i n] (.i (idxOf (fun x => decide (n = x)) l)) := by
 refine Qak Qtt hmix Try.func93 cb93 cc93 cs93 cn93 ?_
 simp only [rc93, rs93, Qa9, Qa8, Qad, Qa6, Qae, Qa7, Qa2, Fam.step, Qaf, evO, opv, qv, lenV, Qa1, Qa0, Qa3, ↓reduceIte, Nat.reduceEqDiff, Int.reduceNeg, Qb, Qc, zipA, Qg, true_and, reduceCtorEq, Qi]
 refine Qbs l.length (fun i => ⟨lkp [(0, .sl 1 (l.map eI)), (1, .i n), (7, .i l.length), (8, .i i)], []⟩) (fun i => ∀ j x, j < i → l[j]? = some x → decide (n = x) = false) ?_ ?_ ?_ ?_
 ·simp only [Q8, kp, Qa0, Qa3, ↓reduceIte, Nat.reduceEqDiff, Qb, Qc, reduceCtorEq]
 ·intro j x h; omega
 ·intro i hi hc
  obtain ⟨x, hx⟩ : ∃ x, l[i]? = some x := ⟨_, Qr hi⟩
  have hlt : (i : Int) < l.length := by omega
  have h3 : inI ((i : Int) + 1) := by unfold inI; omega
  simp only [hx, hlt, Zc, Q6, h3, Qag, Qa9, Qa8, Qac, Qj9, Qad, Qah, Qa6, Qae, Qaj, Qa7, Qa2, Fam.step, Qaf, evO, opv, qv, binV, ldV, iadV, kp, Qa1, Qa0, Qa3, ↓reduceIte, Nat.reduceEqDiff, Nat.reduceLeDiff, Int.reduceNeg, Qb, Qc, Qe, Qf, Ql, Qz, endQ, rvs, rv1, resV, vw_i, Q1, Qg, V.i.injEq, Qa, decide_true, decide_eq_true_eq, decide_eq_false_iff_not, true_and, and_true, and_self, reduceCtorEq, Qy, Qi, Q3, Qo, Qw, eI]
  refine ⟨fun e => ?_, fun e => ?_⟩
  ·rw [Qgg hx (by simp [e]) hc]
  ·intro j y hj hy
   by_cases hji : j < i
   ·simpa using hc j y hji hy
   ·have : j = i := by omega
    subst this
    rw [hx] at hy; cases hy; simpa using e
 ·intro hc
  simp only [Qa9, Qa8, Qac, Qb1, Qah, Qa6, Qae, Qaj, Qa7, Qa2, Fam.step, Qaf, evO, opv, qv, binV, Qa1, Qa0, Qa3, ↓reduceIte, Nat.reduceEqDiff, Int.reduceNeg, Qb, Qc, endQ, rvs, rv1, resV, vw_i, Zi, V.i.injEq, Qa, decide_false, true_and, and_self, reduceCtorEq]
  exact (Qdu fun x hx => by
   obtain ⟨j, hj⟩ := Zl hx
   exact hc j x (by have := Qan hj; exact this) hj).symm
def e89 (a : List Int × Int) : List V := [.sl 1 (a.1.map eI), .i a.2]
def d89 : List V → List Int × Int | [.sl _ x0, .i x1] => (x0.map dI, x1) | _ => ([], 0)
theorem Qyi (a : List Int × Int) : d89 (e89 a) = a := by simp [d89, e89, Function.comp_def, Qd8]
noncomputable def HA2 : Gam := HA1.ext 89 (fnG e89 d89 (fun a => (fun (l : List Int) (n : Int) => l.length ≤ 1000000) a.1 a.2) (fun a => (fun (l : List Int) (n : Int) => idxOf (fun x => decide (n = x)) l) a.1 a.2) .i)
theorem Qyl : GOk Try.prog HA2 := Qtt.ext (f := 89) (fun a w => Try.call89 a w) (Qb9 (e := e89) (d := d89) (ok := (fun a => (fun (l : List Int) (n : Int) => l.length ≤ 1000000) a.1 a.2)) (g := (fun a => (fun (l : List Int) (n : Int) => idxOf (fun x => decide (n = x)) l) a.1 a.2)) (eb := .i) fun a h => W89 a.1 a.2 h)
theorem h89 (l : List Int) (n : Int) : HA2 89 [.sl 1 (l.map eI), .i n] = (l.length ≤ 1000000, .i (idxOf (fun x => decide (n = x)) l)) :=
 (show HA2 89 _ = fnG e89 d89 (fun a => (fun (l : List Int) (n : Int) => l.length ≤ 1000000) a.1 a.2) (fun a => (fun (l : List Int) (n : Int) => idxOf (fun x => decide (n = x)) l) a.1 a.2) .i (e89 (l, n)) from rfl).trans (Qb5 _ (Qyi _))
def e93 (a : List Int × Int) : List V := [.sl 1 (a.1.map eI), .i a.2]
def d93 : List V → List Int × Int | [.sl _ x0, .i x1] => (x0.map dI, x1) | _ => ([], 0)
theorem Qyj (a : List Int × Int) : d93 (e93 a) = a := by simp [d93, e93, Function.comp_def, Qd8]
noncomputable def HA3 : Gam := HA2.ext 93 (fnG e93 d93 (fun a => (fun (l : List Int) (n : Int) => l.length ≤ 1000000) a.1 a.2) (fun a => (fun (l : List Int) (n : Int) => idxOf (fun x => decide (n = x)) l) a.1 a.2) .i)
theorem Qtu : GOk Try.prog HA3 := Qyl.ext (f := 93) (fun a w => Try.call93 a w) (Qb9 (e := e93) (d := d93) (ok := (fun a => (fun (l : List Int) (n : Int) => l.length ≤ 1000000) a.1 a.2)) (g := (fun a => (fun (l : List Int) (n : Int) => idxOf (fun x => decide (n = x)) l) a.1 a.2)) (eb := .i) fun a h => W93 a.1 a.2 h)
theorem h93 (l : List Int) (n : Int) : HA3 93 [.sl 1 (l.map eI), .i n] = (l.length ≤ 1000000, .i (idxOf (fun x => decide (n = x)) l)) :=
 (show HA3 93 _ = fnG e93 d93 (fun a => (fun (l : List Int) (n : Int) => l.length ≤ 1000000) a.1 a.2) (fun a => (fun (l : List Int) (n : Int) => idxOf (fun x => decide (n = x)) l) a.1 a.2) .i (e93 (l, n)) from rfl).trans (Qb5 _ (Qyj _))
theorem Quk (l : List Int) (n : Int)  : HA3 89 [.sl 1 (l.map eI), .i n] = (l.length ≤ 1000000, .i (idxOf (fun x => decide (n = x)) l)) := h89 l n
theorem W79 (l : List Int) (n : Int) (h : l.length ≤ 1000000) : Qal Try.prog 79 [.sl 1 (l.map eI), .i n] (.b (decide (n ∈ l))) := by
 refine Qak Qtu hmix Try.func79 cb79 cc79 cs79 cn79 ?_
 simp only [rc79, rs79, Quk, Qa9, Qa8, Qah, Qa6, Qae, Qa7, Qa2, Fam.step, Qaf, evO, opv, qv, binV, Qap, Qab, Qa5, flat, Qa1, Qa0, Qa3, ↓reduceIte, Nat.reduceEqDiff, Nat.reduceLT, Qb, Qc, Qd, endQ, rvs, rv1, resV, vw_i, vw_b, Qam, zipA, Qg, V.b.injEq, Qj, Qa, true_and, and_true, and_self, implies_true, reduceCtorEq]
 exact ⟨h, by rw [Qex, Qp7]⟩
theorem W88 (l : List Int) (n : Int) (h : l.length ≤ 1000000) : Qal Try.prog 88 [.sl 1 (l.map eI), .i n] (.b (decide (n ∈ l))) := by
 refine Qak Qtu hmix Try.func88 cb88 cc88 cs88 cn88 ?_
 simp only [rc88, rs88, h93, Qa9, Qa8, Qah, Qa6, Qae, Qa7, Qa2, Fam.step, Qaf, evO, opv, qv, binV, Qap, Qab, Qa5, flat, Qa1, Qa0, Qa3, ↓reduceIte, Nat.reduceEqDiff, Nat.reduceLT, Qb, Qc, Qd, endQ, rvs, rv1, resV, vw_i, vw_b, Qam, zipA, Qg, V.b.injEq, Qj, Qa, true_and, and_true, and_self, implies_true, reduceCtorEq]
 exact ⟨h, by rw [Qex, Qp7]⟩
def e79 (a : List Int × Int) : List V := [.sl 1 (a.1.map eI), .i a.2]
def d79 : List V → List Int × Int | [.sl _ x0, .i x1] => (x0.map dI, x1) | _ => ([], 0)
theorem Qye (a : List Int × Int) : d79 (e79 a) = a := by simp [d79, e79, Function.comp_def, Qd8]
noncomputable def HA4 : Gam := HA3.ext 79 (fnG e79 d79 (fun a => (fun (l : List Int) (n : Int) => l.length ≤ 1000000) a.1 a.2) (fun a => (fun (l : List Int) (n : Int) => decide (n ∈ l)) a.1 a.2) .b)
theorem Qym : GOk Try.prog HA4 := Qtu.ext (f := 79) (fun a w => Try.call79 a w) (Qb9 (e := e79) (d := d79) (ok := (fun a => (fun (l : List Int) (n : Int) => l.length ≤ 1000000) a.1 a.2)) (g := (fun a => (fun (l : List Int) (n : Int) => decide (n ∈ l)) a.1 a.2)) (eb := .b) fun a h => W79 a.1 a.2 h)
theorem h79 (l : List Int) (n : Int) : HA4 79 [.sl 1 (l.map eI), .i n] = (l.length ≤ 1000000, .b (decide (n ∈ l))) :=
 (show HA4 79 _ = fnG e79 d79 (fun a => (fun (l : List Int) (n : Int) => l.length ≤ 1000000) a.1 a.2) (fun a => (fun (l : List Int) (n : Int) => decide (n ∈ l)) a.1 a.2) .b (e79 (l, n)) from rfl).trans (Qb5 _ (Qye _))
def e88 (a : List Int × Int) : List V := [.sl 1 (a.1.map eI), .i a.2]
def d88 : List V → List Int × Int | [.sl _ x0, .i x1] => (x0.map dI, x1) | _ => ([], 0)
theorem Qyh (a : List Int × Int) : d88 (e88 a) = a := by simp [d88, e88, Function.comp_def, Qd8]
noncomputable def HA5 : Gam := HA4.ext 88 (fnG e88 d88 (fun a => (fun (l : List Int) (n : Int) => l.length ≤ 1000000) a.1 a.2) (fun a => (fun (l : List Int) (n : Int) => decide (n ∈ l)) a.1 a.2) .b)
theorem Qw5 : GOk Try.prog HA5 := Qym.ext (f := 88) (fun a w => Try.call88 a w) (Qb9 (e := e88) (d := d88) (ok := (fun a => (fun (l : List Int) (n : Int) => l.length ≤ 1000000) a.1 a.2)) (g := (fun a => (fun (l : List Int) (n : Int) => decide (n ∈ l)) a.1 a.2)) (eb := .b) fun a h => W88 a.1 a.2 h)
theorem h88 (l : List Int) (n : Int) : HA5 88 [.sl 1 (l.map eI), .i n] = (l.length ≤ 1000000, .b (decide (n ∈ l))) :=
 (show HA5 88 _ = fnG e88 d88 (fun a => (fun (l : List Int) (n : Int) => l.length ≤ 1000000) a.1 a.2) (fun a => (fun (l : List Int) (n : Int) => decide (n ∈ l)) a.1 a.2) .b (e88 (l, n)) from rfl).trans (Qb5 _ (Qyh _))
theorem Qul (n : Int) (lo : Int) (hi : Int)  : HA5 71 [.i n, .i lo, .i hi] = (True, .b (Qaz n lo hi)) := h71 n lo hi
def Qao (g n : Int) : Bool := Qaz n 0 (g - 1)
def OkG (g : Int) : Prop := 0 ≤ g ∧ g ≤ 7
theorem W83 (s : Stand) (n : Int) (h : OkG s.guests) : Qal Try.prog 83 [.ag (Qa4 s), .i n] (.b (Qao s.guests n)) := by
 refine Qak Qw5 hmix Try.func83 cb83 cc83 cs83 cn83 ?_
 have i1 : inI (s.guests - 1) := by unfold OkG at h; unfold inI; omega
 simp only [rc83, rs83, Qul, i1, Qao, Qa9, Qa8, Qah, Qa6, Qae, Qa7, Qa2, Fam.step, Qaf, evO, opv, qv, binV, ldV, Qap, V.cells, Qav, Qab, Qa5, flat, Qa1, Qa0, Qa3, ↓reduceIte, Nat.reduceEqDiff, Nat.reduceAdd, Nat.reduceLT, Nat.reduceLeDiff, Qb, Qc, Qe, Qf, Qq, Ql, Qd, endQ, rvs, rv1, resV, vw_i, vw_b, Qam, Qau, zipA, Qg, Qj, Qa, and_self, implies_true, reduceCtorEq, Qa4]
def e83 (a : Stand × Int) : List V := [.ag (Qa4 a.1), .i a.2]
def d83 : List V → Stand × Int | [.ag x0, .i x1] => (Qb2 x0, x1) | _ => (Qb2 [], 0)
theorem Qyg (a : Stand × Int) : d83 (e83 a) = a := by simp [d83, e83, Qbc]
noncomputable def HA6 : Gam := HA5.ext 83 (fnG e83 d83 (fun a => (fun (s : Stand) (n : Int) => OkG s.guests) a.1 a.2) (fun a => (fun (s : Stand) (n : Int) => Qao s.guests n) a.1 a.2) .b)
theorem Qw6 : GOk Try.prog HA6 := Qw5.ext (f := 83) (fun a w => Try.call83 a w) (Qb9 (e := e83) (d := d83) (ok := (fun a => (fun (s : Stand) (n : Int) => OkG s.guests) a.1 a.2)) (g := (fun a => (fun (s : Stand) (n : Int) => Qao s.guests n) a.1 a.2)) (eb := .b) fun a h => W83 a.1 a.2 h)
theorem h83 (s : Stand) (n : Int) : HA6 83 [.ag (Qa4 s), .i n] = (OkG s.guests, .b (Qao s.guests n)) :=
 (show HA6 83 _ = fnG e83 d83 (fun a => (fun (s : Stand) (n : Int) => OkG s.guests) a.1 a.2) (fun a => (fun (s : Stand) (n : Int) => Qao s.guests n) a.1 a.2) .b (e83 (s, n)) from rfl).trans (Qb5 _ (Qyg _))
def Qd7 (g : Int) (l : List Int) : Bool := (List.range l.length).all fun i => Qao g (l[i]?.getD 0) && (decide (i = 0) || decide (l[i - 1]?.getD 0 < l[i]?.getD 0))
def Qfn (g : Int) (w : Word) : Bool :=
 if w.kind = 1 ∨ w.kind = 2 then decide (0 < w.among.length) && decide (w.other = 0)
 else if w.kind = 3 ∨ w.kind = 4 then decide (w.among.length = 0) && (Qao g w.other && decide (w.other ≠ w.guest)) else false
def Qbe (g : Int) (w : Word) : Bool := Qd7 g w.among && (Qfn g w && Qao g w.guest)
set_option maxHeartbeats 2000000 in
theorem W74 (s : Stand) (w : Word) (h : OkG s.guests ∧ w.among.length ≤ 1000000) : Qal Try.prog 74 [.ag (Qa4 s), .ag (eWord w)] (.b (Qbe s.guests w)) := by
 refine Qak Qw6 hmix Try.func74 cb74 cc74 cs74 cn74 ?_
 obtain ⟨h, hl⟩ := h
 have g1 := fun n => h83 s n
 unfold Qa4 at g1
 simp only [rc74, rs74, Qa9, Qa8, Qad, Qa6, Qae, Qa7, Qa2, Fam.step, Qaf, evO, opv, qv, ldV, lenV, V.cells, Qav, Qab, Qa5, Qa1, Qa0, Qa3, ↓reduceIte, Nat.reduceEqDiff, Nat.reduceLeDiff, Qb, Qc, Qe, Qf, Qk, Qq, Ql, vw_i, Qam, Qau, zipA, Qg, Qj, Qa, true_and, and_self, reduceCtorEq, Qi, eWord, Qa4]
 refine Qbs w.among.length (fun i => ⟨lkp [(2, .pa (Qa4 s)), (3, .pa (eWord w)), (9, .sl 1 (w.among.map eI)), (10, .i w.among.length), (11, .i i)], []⟩) (fun i => ∀ j : Nat, j < i → (Qao s.guests (w.among[j]?.getD 0) && (decide (j = 0) || decide (w.among[j - 1]?.getD 0 < w.among[j]?.getD 0))) = true) ?_ ?_ ?_ ?_
 ·simp only [Q8, kp, Qa0, Qa3, ↓reduceIte, Nat.reduceEqDiff, Qb, Qc, eWord, Qa4]
 ·intro j hj; omega
 ·intro i hi hc
  obtain ⟨x, hx⟩ : ∃ x, w.among[i]? = some x := ⟨_, Qr hi⟩
  have hlt : (i : Int) < w.among.length := by omega
  have h3 : inI ((i : Int) + 1) ∧ inI ((i : Int) - 1) := by unfold inI; omega
  have hgd : w.among[i]?.getD 0 = x := by rw [hx]; rfl
  have fin : (Qao s.guests x && (decide (i = 0) || decide (w.among[i - 1]?.getD 0 < x))) = false → Qbe s.guests w = false := fun e => by
   unfold Qbe Qd7
   rw [Z7]; left
   rw [List.all_eq_false]
   exact ⟨i, Z9.2 hi, by rw [hgd, e]; simp⟩
  have con : (Qao s.guests x && (decide (i = 0) || decide (w.among[i - 1]?.getD 0 < x))) = true → ∀ j : Nat, j < i + 1 → (Qao s.guests (w.among[j]?.getD 0) && (decide (j = 0) || decide (w.among[j - 1]?.getD 0 < w.among[j]?.getD 0))) = true := fun e j hj => by
   by_cases hji : j < i
   ·exact hc j hji
   ·have : j = i := by omega
    subst this
    rw [hgd]; exact e
  by_cases hg : Qao s.guests x = true
  ·by_cases hi0 : i = 0
   ·subst hi0
    have hlt0 : (0 : Int) < w.among.length := by omega
    have i10 : inI 1 := by unfold inI; omega
    have hcon := con (by simp [hg])
    rw [Qg] at hcon
    simp only [hx, hlt0, g1, h, hg, Q8, i10, Q6, Qag, Qa9, Qa8, Qac, Qad, Qa6, Qae, Qaj, Qa7, Qa2, Fam.step, Qaf, Qay, Qat, ug, evO, opv, qv, Qai, binV, ldV, iadV, Qap, Qab, Qa5, flat, kp, Qa1, Qa0, Qa3, ↓reduceIte, Nat.reduceEqDiff, Nat.reduceAdd, Nat.reduceLT, Nat.reduceLeDiff, Int.reduceNeg, Int.reduceToNat, Int.toNat_zero, Int.reduceLE, Int.reduceAdd, Int.reduceSub, Qb, Qc, Qt, Qv, Qe, Qf, Qk, Qq, Qh, Qm, Ql, Qd, Qz, vw_i, Qam, Qau, Zi, beq_self_eq_true, Qg, Qs, Q2, Zm, Qj, Qu, Qa, decide_true, decide_false, true_and, and_true, and_self, false_and, and_false, forall_const, implies_true, Qy, beq_true, imp_self, Qi, Qo, Qw, eWord, Qa4, eI]
    exact hcon
   ·have hpos : (0 : Int) < i := by omega
    obtain ⟨y, hy⟩ : ∃ y, w.among[i - 1]? = some y := ⟨_, Qr (by omega)⟩
    have hyd : w.among[i - 1]?.getD 0 = y := by rw [hy]; rfl
    have e1 : ((i : Int) - 1).toNat = i - 1 := by omega
    have e2 : (0 : Int) ≤ (i : Int) - 1 ∧ (i : Int) - 1 < w.among.length := by omega
    rw [hyd] at fin con
    by_cases hxy : x ≤ y
    ·simp only [hx, hlt, h3, g1, h, hg, hpos, e1, e2, hy, hxy, Qag, Qa9, Qa8, Qac, Qad, Qah, Qa6, Qae, Qaj, Qa7, Qa2, Fam.step, Qaf, Qay, Qat, ug, evO, opv, qv, Qai, binV, ldV, iadV, Qap, Qab, Qa5, flat, kp, Qa1, Qa0, Qa3, ↓reduceIte, Nat.reduceEqDiff, Nat.reduceAdd, Nat.reduceLT, Nat.reduceLeDiff, Qb, Qc, Qt, Qv, Qe, Qf, Qk, Qq, Qh, Qm, Ql, Qd, Qz, endQ, rvs, rv1, resV, vw_i, vw_b, Qam, Qau, Q1, beq_self_eq_true, Qg, V.b.injEq, Qs, Qj, Qu, Qa, Qx, decide_true, true_and, and_self, forall_const, implies_true, Qy, Qi, Q3, Qo, Qw, eWord, Qa4, eI]
     exact (fin (by simp [hi0]; intro _; omega)).symm
    ·simp only [hx, hlt, h3, g1, h, hg, hpos, e1, e2, hy, hxy, Zc, Q6, Qag, Qa9, Qa8, Qac, Qad, Qa6, Qae, Qaj, Qa7, Qa2, Fam.step, Qaf, Qay, Qat, ug, evO, opv, qv, Qai, binV, ldV, iadV, Qap, Qab, Qa5, flat, kp, Qa1, Qa0, Qa3, ↓reduceIte, Nat.reduceEqDiff, Nat.reduceAdd, Nat.reduceLT, Nat.reduceLeDiff, Qb, Qc, Qt, Qv, Qe, Qf, Qk, Qq, Qh, Qm, Ql, Qd, Qz, vw_i, Qam, Qau, Q1, beq_self_eq_true, Qg, Qs, Qj, Qu, Qa, Qx, decide_true, decide_false, true_and, and_true, and_self, forall_const, implies_true, Qy, Qi, Q3, Qo, Qw, eWord, Qa4, eI]
     exact con (by simp [hg]; right; omega)
  ·simp only [hx, hlt, h3, g1, h, hg, Qag, Qa9, Qa8, Qac, Qad, Qah, Qa6, Qae, Qaj, Qa7, Qa2, Fam.step, Qaf, Qay, Qat, ug, evO, opv, qv, Qdp, binV, ldV, iadV, Qap, Qab, Qa5, flat, kp, Qa1, Qa0, Qa3, ↓reduceIte, Nat.reduceEqDiff, Nat.reduceAdd, Nat.reduceLT, Nat.reduceLeDiff, Qb, Qc, Qt, Qv, Qe, Qf, Qk, Qq, Qh, Qm, Ql, Qd, Qz, endQ, rvs, rv1, resV, vw_i, vw_b, Qam, Qau, Q1, Qg, V.b.injEq, Qs, Q2, Zn, Qj, Qu, Q4, Qa, Qx, decide_true, decide_eq_true_eq, decide_eq_false_iff_not, true_and, and_true, and_self, false_and, forall_const, implies_true, Qy, beq_true, beq_false, imp_self, Qi, Q3, Qo, Qw, eWord, Qa4, eI]
   exact (fin (by simp [hg])).symm
 ·intro hc
  have ha : Qd7 s.guests w.among = true := by
   unfold Qd7
   rw [List.all_eq_true]
   intro i hi
   exact hc i (Z9.1 hi)
  have hlt : ¬ ((w.among.length : Int) < w.among.length) := by omega
  by_cases k1 : w.kind = 1
  ·by_cases hl0 : (0 : Int) < w.among.length <;> by_cases ho : w.other = 0 <;> by_cases hg : Qao s.guests w.guest = true <;> simp only [hlt, k1, hl0, ho, hg, g1, h, Qbe, ha, Qfn, true_or, Qag, Qa9, Qa8, Qac, Qad, Qb1, Qah, Qa6, Qae, Qaj, Qa7, Qa2, Fam.step, Qaf, Qay, Qat, ug, evO, opv, qv, Qai, binV, ldV, lenV, Qap, Qab, Qa5, flat, Qa1, Qa0, Qa3, ↓reduceIte, Nat.reduceEqDiff, Nat.reduceAdd, Nat.reduceLT, Nat.reduceLeDiff, Int.reduceEq, Qb, Qc, Qt, Qv, Qe, Qf, Qk, Qq, Qh, Qm, Ql, Qd, endQ, rvs, rv1, resV, vw_i, vw_b, Qam, Qau, beq_self_eq_true, Qg, V.b.injEq, Qs, Q2, Zq, Zm, Qj, Qa, Qx, decide_true, decide_false, true_and, and_true, and_self, forall_const, implies_true, beq_true, imp_self, Qi, eWord, Qa4] <;> simp_all
  ·by_cases k2 : w.kind = 2
   ·by_cases hl0 : (0 : Int) < w.among.length <;> by_cases ho : w.other = 0 <;> by_cases hg : Qao s.guests w.guest = true <;> simp only [hlt, k2, hl0, ho, hg, g1, h, Qbe, ha, Qfn, or_true, Qa9, Qa8, Qac, Qad, Qb1, Qah, Qa6, Qae, Qaj, Qa7, Qa2, Fam.step, Qaf, Qay, Qat, ug, evO, opv, qv, Qai, binV, ldV, lenV, Qap, Qab, Qa5, flat, Qa1, Qa0, Qa3, ↓reduceIte, Nat.reduceEqDiff, Nat.reduceAdd, Nat.reduceLT, Nat.reduceLeDiff, Int.reduceEq, Qb, Qc, Qt, Qv, Qe, Qf, Qk, Qq, Qh, Qm, Ql, Qd, endQ, rvs, rv1, resV, vw_i, vw_b, Qam, Qau, beq_self_eq_true, Qg, V.b.injEq, Qs, Q2, Zq, Zm, Qj, Qa, Qx, decide_true, decide_false, true_and, and_true, and_self, forall_const, implies_true, beq_true, imp_self, Qi, eWord, Qa4] <;> simp_all
   ·have k12 : ¬ (w.kind = 1 ∨ w.kind = 2) := by omega
    by_cases k34 : w.kind = 3 ∨ w.kind = 4
    ·by_cases k3 : w.kind = 3
     ·by_cases hl0 : (w.among.length : Int) = 0 <;> by_cases ho : Qao s.guests w.other = true <;> by_cases hn : w.other = w.guest <;> by_cases hg : Qao s.guests w.guest = true <;> simp only [hlt, k3, hl0, ho, hn, hg, g1, h, Qbe, ha, Qfn, true_or, Qag, Qa9, Qa8, Qac, Qad, Qb1, Qah, Qa6, Qae, Qaj, Qa7, Qa2, Fam.step, Qaf, Qay, Qat, ug, evO, opv, qv, Qai, binV, ldV, lenV, Qap, Qab, Qa5, flat, Qa1, Qa0, Qa3, ↓reduceIte, Nat.reduceEqDiff, Nat.reduceAdd, Nat.reduceLT, Nat.reduceLeDiff, Int.reduceEq, Qb, Qc, Qt, Qv, Qe, Qf, Qk, Qq, Qh, Qm, Ql, Qd, endQ, rvs, rv1, resV, vw_i, vw_b, Qam, Qau, Zi, beq_self_eq_true, Qg, V.b.injEq, Qs, Q2, Zq, Zm, Qj, Qu, Q4, Qa, Qx, decide_true, decide_false, true_and, and_true, and_self, forall_const, implies_true, not_true_eq_false, not_false_eq_true, ne_eq, beq_true, Qol, imp_self, Qi, eWord, Qa4] <;> simp_all
     ·have k4 : w.kind = 4 := by omega
      by_cases hl0 : (w.among.length : Int) = 0 <;> by_cases ho : Qao s.guests w.other = true <;> by_cases hn : w.other = w.guest <;> by_cases hg : Qao s.guests w.guest = true <;> simp only [hlt, k4, hl0, ho, hn, hg, g1, h, Qbe, ha, Qfn, or_true, Qa9, Qa8, Qac, Qad, Qb1, Qah, Qa6, Qae, Qaj, Qa7, Qa2, Fam.step, Qaf, Qay, Qat, ug, evO, opv, qv, Qai, binV, ldV, lenV, Qap, Qab, Qa5, flat, Qa1, Qa0, Qa3, ↓reduceIte, Nat.reduceEqDiff, Nat.reduceAdd, Nat.reduceLT, Nat.reduceLeDiff, Int.reduceEq, Qb, Qc, Qt, Qv, Qe, Qf, Qk, Qq, Qh, Qm, Ql, Qd, endQ, rvs, rv1, resV, vw_i, vw_b, Qam, Qau, Zi, beq_self_eq_true, Qg, V.b.injEq, Qs, Q2, Zq, Zm, Qj, Qu, Q4, Qa, Qx, decide_true, decide_false, true_and, and_true, and_self, forall_const, implies_true, not_true_eq_false, not_false_eq_true, ne_eq, beq_true, Qol, imp_self, Qi, eWord, Qa4] <;> simp_all
    ·have k3 : ¬ w.kind = 3 := by omega
     have k4 : ¬ w.kind = 4 := by omega
     simp only [hlt, k1, k2, k3, k4, g1, h, Qbe, ha, Qfn, Qag, Qa9, Qa8, Qac, Qad, Qb1, Qah, Qa6, Qae, Qaj, Qa7, Qa2, Fam.step, Qaf, Qay, Qat, ug, evO, opv, qv, Qai, binV, ldV, Qap, Qab, Qa5, flat, Qa1, Qa0, Qa3, ↓reduceIte, Nat.reduceEqDiff, Nat.reduceAdd, Nat.reduceLT, Nat.reduceLeDiff, Qb, Qc, Qt, Qv, Qe, Qf, Qk, Qq, Qh, Qm, Ql, Qd, endQ, rvs, rv1, resV, vw_i, vw_b, Qam, Qau, Qg, V.b.injEq, Qs, Q2, Zq, Qj, Qa, decide_false, true_and, and_true, and_self, forall_const, implies_true, ne_eq, beq_true, Qol, imp_self, eWord, Qa4]
     simp
def e74 (a : Stand × Word) : List V := [.ag (Qa4 a.1), .ag (eWord a.2)]
def d74 : List V → Stand × Word | [.ag x0, .ag x1] => (Qb2 x0, Qep x1) | _ => (Qb2 [], Qep [])
theorem Qyd (a : Stand × Word) : d74 (e74 a) = a := by simp [d74, e74, Qbc, Qet]
noncomputable def HA7 : Gam := HA6.ext 74 (fnG e74 d74 (fun a => (fun (s : Stand) (w : Word) => OkG s.guests ∧ w.among.length ≤ 1000000) a.1 a.2) (fun a => (fun (s : Stand) (w : Word) => Qbe s.guests w) a.1 a.2) .b)
theorem Qw7 : GOk Try.prog HA7 := Qw6.ext (f := 74) (fun a w => Try.call74 a w) (Qb9 (e := e74) (d := d74) (ok := (fun a => (fun (s : Stand) (w : Word) => OkG s.guests ∧ w.among.length ≤ 1000000) a.1 a.2)) (g := (fun a => (fun (s : Stand) (w : Word) => Qbe s.guests w) a.1 a.2)) (eb := .b) fun a h => W74 a.1 a.2 h)
theorem h74 (s : Stand) (w : Word) : HA7 74 [.ag (Qa4 s), .ag (eWord w)] = (OkG s.guests ∧ w.among.length ≤ 1000000, .b (Qbe s.guests w)) :=
 (show HA7 74 _ = fnG e74 d74 (fun a => (fun (s : Stand) (w : Word) => OkG s.guests ∧ w.among.length ≤ 1000000) a.1 a.2) (fun a => (fun (s : Stand) (w : Word) => Qbe s.guests w) a.1 a.2) .b (e74 (s, w)) from rfl).trans (Qb5 _ (Qyd _))
theorem W73 (w : Word) (s : Stand) (h : OkG s.guests ∧ w.among.length ≤ 1000000) : Qal Try.prog 73 [.ag (eWord w), .pa (Qa4 s)] (.b (!Qbe s.guests w)) := by
 refine Qak Qw7 hmix Try.func73 cb73 cc73 cs73 cn73 ?_
 have g1 := h74 s w
 simp only [Qa4, eWord] at g1
 simp only [rc73, rs73, g1, Qa9, Qa8, Qah, Qa6, Qae, Qa7, Qa2, Fam.step, Qaf, evO, opv, qv, ldV, Qap, V.cells, Qav, Qab, Qa5, flat, Qa1, Qa0, Qa3, ↓reduceIte, Nat.reduceEqDiff, Nat.reduceAdd, Nat.reduceLT, Nat.reduceLeDiff, Qb, Qc, Qe, Qf, Qh, Qm, Qd, endQ, rvs, rv1, resV, vw_i, vw_b, Qam, Qau, zipA, Qg, Qj, Qa, true_and, and_true, and_self, implies_true, reduceCtorEq, eWord, Qa4]
 exact h
def e73 (a : Word × Stand) : List V := [.ag (eWord a.1), .pa (Qa4 a.2)]
def d73 : List V → Word × Stand | [.ag w, .pa s] => (Qep w, Qb2 s) | _ => (Qep [], Qb2 [])
theorem Qyc (a : Word × Stand) : d73 (e73 a) = a := by simp [d73, e73, Qet, Qbc]
noncomputable def HA8 : Gam := HA7.ext 73 (fnG e73 d73 (fun a => OkG a.2.guests ∧ a.1.among.length ≤ 1000000) (fun a => !Qbe a.2.guests a.1) .b)
theorem Qw8 : GOk Try.prog HA8 := Qw7.ext (f := 73) (fun a w => Try.call73 a w) (Qb9 (e := e73) (d := d73) (ok := fun a => OkG a.2.guests ∧ a.1.among.length ≤ 1000000) (g := fun a => !Qbe a.2.guests a.1) (eb := .b) fun a h => W73 a.1 a.2 h)
theorem h73 (w : Word) (s : Stand) : HA8 73 [.ag (eWord w), .pa (Qa4 s)] = (OkG s.guests ∧ w.among.length ≤ 1000000, .b (!Qbe s.guests w)) :=
 (show HA8 73 _ = fnG e73 d73 (fun a => OkG a.2.guests ∧ a.1.among.length ≤ 1000000) (fun a => !Qbe a.2.guests a.1) .b (e73 (w, s)) from rfl).trans (Qb5 _ (Qyc _))
def Qf4 (l : List Word) : Prop := l.length ≤ 1000000 ∧ ∀ w ∈ l, w.among.length ≤ 1000000
theorem W87 (l : List Word) (s : Stand) (h : OkG s.guests ∧ Qf4 l) : Qal Try.prog 87 [.sl 4 (l.map eWord), .fn 73 [.pa (Qa4 s)]] (.i (idxOf (fun w => !Qbe s.guests w) l)) := by
 refine Qak Qw8 hmix Try.func87 cb87 cc87 cs87 cn87 ?_
 obtain ⟨hg, hl, hs⟩ := h
 simp only [rc87, rs87, Qa9, Qa8, Qad, Qa6, Qae, Qa7, Qa2, Fam.step, Qaf, evO, opv, qv, lenV, Qa1, Qa0, Qa3, ↓reduceIte, Nat.reduceEqDiff, Int.reduceNeg, Qb, Qc, zipA, Qg, true_and, reduceCtorEq, Qi, Qa4]
 refine Qbs l.length (fun i => ⟨lkp [(0, .sl 4 (l.map eWord)), (1, .fn 73 [.pa (Qa4 s)]), (7, .i l.length), (8, .i i)], []⟩) (fun i => ∀ j x, j < i → l[j]? = some x → (!Qbe s.guests x) = false) ?_ ?_ ?_ ?_
 ·simp only [Q8, kp, Qa0, Qa3, ↓reduceIte, Nat.reduceEqDiff, Qb, Qc, reduceCtorEq, Qa4]
 ·intro j x h; omega
 ·intro i hi hc
  obtain ⟨x, hx⟩ : ∃ x, l[i]? = some x := ⟨_, Qr hi⟩
  have hlt : (i : Int) < l.length := by omega
  have h3 : inI ((i : Int) + 1) := by unfold inI; omega
  have hp := h73 x s
  simp only [Qa4, eWord] at hp
  have hxl := hs x (Zk hx)
  simp only [hx, hlt, Zc, Q6, h3, hp, hg, hxl, Qag, Qa9, Qa8, Qac, Qj9, Qad, Qah, Qa6, Qae, Qaj, Qa7, Qa2, Fam.step, Qaf, evO, opv, qv, binV, ldV, iadV, Qap, Qab, Qa5, flat, kp, Qa1, Qa0, Qa3, ↓reduceIte, Nat.reduceEqDiff, Nat.reduceAdd, Nat.reduceLT, Nat.reduceLeDiff, Int.reduceNeg, Qb, Qc, Qe, Qf, Qh, Qm, Qp, Qn, Qz, endQ, rvs, rv1, resV, vw_i, Qam, Qhu, Qau, Q1, Qg, V.i.injEq, Qj, Qa, decide_true, true_and, and_true, and_self, implies_true, reduceCtorEq, Qy, Xf, Xh, Qi, Q3, Qo, Qw, Zs, eWord, Qa4]
  refine ⟨fun e => ?_, fun e => ?_⟩
  ·rw [Qgg hx (by simp [e]) hc]
  ·intro j y hj hy
   by_cases hji : j < i
   ·simpa using hc j y hji hy
   ·have : j = i := by omega
    subst this
    rw [hx] at hy; cases hy; simpa using e
 ·intro hc
  simp only [Qa9, Qa8, Qac, Qb1, Qah, Qa6, Qae, Qaj, Qa7, Qa2, Fam.step, Qaf, evO, opv, qv, binV, Qa1, Qa0, Qa3, ↓reduceIte, Nat.reduceEqDiff, Int.reduceNeg, Qb, Qc, endQ, rvs, rv1, resV, vw_i, Zi, V.i.injEq, Qa, decide_false, true_and, and_self, reduceCtorEq, Qa4]
  exact (Qdu fun x hx => by
   obtain ⟨j, hj⟩ := Zl hx
   exact hc j x (by have := Qan hj; exact this) hj).symm
def e87 (a : List Word × Stand) : List V := [.sl 4 (a.1.map eWord), .fn 73 [.pa (Qa4 a.2)]]
def d87 : List V → List Word × Stand | [.sl _ l, .fn _ [.pa s]] => (l.map Qep, Qb2 s) | _ => ([], Qb2 [])
theorem Qvr (a : List Word × Stand) : d87 (e87 a) = a := by simp [d87, e87, Function.comp_def, Qet, Qbc]
noncomputable def HA9 : Gam := HA8.ext 87 (fnG e87 d87 (fun a => OkG a.2.guests ∧ Qf4 a.1) (fun a => idxOf (fun w => !Qbe a.2.guests w) a.1) .i)
theorem Qw9 : GOk Try.prog HA9 := Qw8.ext (f := 87) (fun a w => Try.call87 a w) (Qb9 (e := e87) (d := d87) (ok := fun a => OkG a.2.guests ∧ Qf4 a.1) (g := fun a => idxOf (fun w => !Qbe a.2.guests w) a.1) (eb := .i) fun a h => W87 a.1 a.2 h)
theorem h87 (l : List Word) (s : Stand) : HA9 87 [.sl 4 (l.map eWord), .fn 73 [.pa (Qa4 s)]] = (OkG s.guests ∧ Qf4 l, .i (idxOf (fun w => !Qbe s.guests w) l)) :=
 (show HA9 87 _ = fnG e87 d87 (fun a => OkG a.2.guests ∧ Qf4 a.1) (fun a => idxOf (fun w => !Qbe a.2.guests w) a.1) .i (e87 (l, s)) from rfl).trans (Qb5 _ (Qvr _))
theorem W72 (l : List Word) (s : Stand) (h : OkG s.guests ∧ Qf4 l) : Qal Try.prog 72 [.sl 4 (l.map eWord), .fn 73 [.pa (Qa4 s)]] (.b (l.any fun w => !Qbe s.guests w)) := by
 refine Qak Qw9 hmix Try.func72 cb72 cc72 cs72 cn72 ?_
 have g1 := h87 l s
 unfold Qa4 at g1
 simp only [rc72, rs72, g1, Qa9, Qa8, Qah, Qa6, Qae, Qa7, Qa2, Fam.step, Qaf, evO, opv, qv, binV, Qap, Qab, Qa5, flat, Qa1, Qa0, Qa3, ↓reduceIte, Nat.reduceEqDiff, Nat.reduceLT, Qb, Qc, Qd, endQ, rvs, rv1, resV, vw_b, Qam, Qhu, Qj5, zipA, Qg, V.b.injEq, Qj, Qa, true_and, and_true, and_self, implies_true, reduceCtorEq, Qa4]
 exact ⟨h, by rw [Qex]⟩
noncomputable def HA10 : Gam := HA9.ext 72 (fnG e87 d87 (fun a => OkG a.2.guests ∧ Qf4 a.1) (fun a => a.1.any fun w => !Qbe a.2.guests w) .b)
theorem Qss : GOk Try.prog HA10 := Qw9.ext (f := 72) (fun a w => Try.call72 a w) (Qb9 (e := e87) (d := d87) (ok := fun a => OkG a.2.guests ∧ Qf4 a.1) (g := fun a => a.1.any fun w => !Qbe a.2.guests w) (eb := .b) fun a h => W72 a.1 a.2 h)
theorem h72 (l : List Word) (s : Stand) : HA10 72 [.sl 4 (l.map eWord), .fn 73 [.pa (Qa4 s)]] = (OkG s.guests ∧ Qf4 l, .b (l.any fun w => !Qbe s.guests w)) :=
 (show HA10 72 _ = fnG e87 d87 (fun a => OkG a.2.guests ∧ Qf4 a.1) (fun a => a.1.any fun w => !Qbe a.2.guests w) .b (e87 (l, s)) from rfl).trans (Qb5 _ (Qvr _))
theorem Qi7 (n : Int) (lo : Int) (hi : Int)  : HA10 71 [.i n, .i lo, .i hi] = (True, .b (Qaz n lo hi)) := h71 n lo hi
def Qaw (s : Stand) : Int := if (Qaz s.guests 0 7 && Qaz s.wrong 0 7) = false then 100 else if (20 < s.words.length) ∨ (s.words.any fun w => !Qbe s.guests w) = true then 101 else 0
def Qaq (s : Stand) : Prop := ∀ w ∈ s.words, w.among.length ≤ 1000000
theorem W44 (s : Stand) (h : Qaq s) : Qal Try.prog 44 [.ag (Qa4 s)] (.i (Qaw s)) := by
 refine Qak Qss hmix Try.func44 cb44 cc44 cs44 cn44 ?_
 have g1 := h72 s.words s
 unfold Qa4 at g1
 by_cases h1 : Qaz s.guests 0 7 = true
 ·by_cases h2 : Qaz s.wrong 0 7 = true
  ·have hG : OkG s.guests := by simpa [Qaz, OkG] using h1
   by_cases h3 : (20 : Int) < s.words.length
   ·have h3' : 20 < s.words.length := by omega
    simp only [rc44, rs44, Qi7, h1, h2, h3, h3', Qaw, true_or, Qag, Qa9, Qa8, Qac, Qah, Qa6, Qae, Qa7, Qa2, Fam.step, Qaf, Qay, Qat, ug, evO, opv, qv, Qai, Qdp, binV, ldV, lenV, Qap, V.cells, Qav, Qab, Qa5, flat, Qa1, Qa0, Qa3, ↓reduceIte, Nat.reduceEqDiff, Nat.reduceAdd, Nat.reduceLT, Nat.reduceLeDiff, Qb, Qc, Qt, Qv, Qe, Qf, Qk, Qq, Ql, Qd, endQ, rvs, rv1, resV, vw_i, Qam, Qhu, Qau, Qj5, zipA, beq_self_eq_true, Qg, Qs, Q2, Qj, Qu, Qa, Qx, decide_true, true_and, and_true, and_self, false_and, forall_const, false_implies, implies_true, beq_false, imp_self, Qi, Qa4]
   ·have h3' : ¬ 20 < s.words.length := by omega
    have hs : Qf4 s.words := ⟨by omega, h⟩
    by_cases h4 : (s.words.any fun w => !Qbe s.guests w) = true
    ·simp only [rc44, rs44, Qi7, h1, h2, h3, h3', g1, hG, hs, h4, Qaw, or_true, Qag, Qa9, Qa8, Qac, Qah, Qa6, Qae, Qa7, Qa2, Fam.step, Qaf, Qay, Qat, ug, evO, opv, qv, Qai, binV, ldV, lenV, Qap, V.cells, Qav, Qab, Qa5, flat, Qa1, Qa0, Qa3, ↓reduceIte, Nat.reduceEqDiff, Nat.reduceAdd, Nat.reduceLT, Nat.reduceLeDiff, Qb, Qc, Qt, Qv, Qe, Qf, Qk, Qq, Ql, Qd, endQ, rvs, rv1, resV, vw_i, Qam, Qhu, Qau, Qj5, zipA, beq_self_eq_true, Qg, Qs, Qj, Qu, Qa, Qx, decide_false, and_self, forall_const, implies_true, Qi, Qa4]
    ·simp only [rc44, rs44, Qi7, h1, h2, h3, h3', g1, hG, hs, h4, Qaw, or_false, Qag, Qa9, Qa8, Qac, Qah, Qa6, Qae, Qa7, Qa2, Fam.step, Qaf, Qay, Qat, ug, evO, opv, qv, Qai, binV, ldV, lenV, Qap, V.cells, Qav, Qab, Qa5, flat, Qa1, Qa0, Qa3, ↓reduceIte, Nat.reduceEqDiff, Nat.reduceAdd, Nat.reduceLT, Nat.reduceLeDiff, Qb, Qc, Qt, Qv, Qe, Qf, Qk, Qq, Ql, Qd, endQ, rvs, rv1, resV, vw_i, Qam, Qhu, Qau, Qj5, zipA, beq_self_eq_true, Qg, Qs, Qj, Qu, Qa, Qx, decide_false, and_self, forall_const, implies_true, Qi, Qa4]
  ·simp only [rc44, rs44, Qi7, h1, h2, Qaw, Qa9, Qa8, Qac, Qah, Qa6, Qae, Qa7, Qa2, Fam.step, Qaf, Qay, Qat, ug, evO, opv, qv, Qai, ldV, Qap, V.cells, Qav, Qab, Qa5, flat, Qa1, Qa0, Qa3, ↓reduceIte, Nat.reduceEqDiff, Nat.reduceAdd, Nat.reduceLT, Nat.reduceLeDiff, Qb, Qc, Qt, Qv, Qe, Qf, Qk, Qq, Ql, Qd, endQ, rvs, rv1, resV, vw_i, Qam, Qau, zipA, beq_self_eq_true, Qg, Qs, Zm, Qj, Qu, Q4, Qa, and_self, forall_const, implies_true, Qa4]
 ·simp only [rc44, rs44, Qi7, h1, Qaw, Qa9, Qa8, Qac, Qah, Qa6, Qae, Qa7, Qa2, Fam.step, Qaf, Qay, Qat, ug, evO, opv, qv, Qai, ldV, Qap, V.cells, Qav, Qab, Qa5, flat, Qa1, Qa0, Qa3, ↓reduceIte, Nat.reduceEqDiff, Nat.reduceAdd, Nat.reduceLT, Nat.reduceLeDiff, Qb, Qc, Qt, Qv, Qe, Qf, Qk, Qq, Ql, Qd, endQ, rvs, rv1, resV, vw_i, Qam, Qau, zipA, Qg, Qs, Q2, Zn, Qj, Qu, Q4, Qa, Qx, and_true, and_self, forall_const, implies_true, beq_false, imp_self, Qa4]
def e44 (a : Stand) : List V := [.ag (Qa4 a)]
def d44 : List V → Stand | [.ag x0] => (Qb2 x0) | _ => (Qb2 [])
theorem Qxw (a : Stand) : d44 (e44 a) = a := by simp [d44, e44, Qbc]
noncomputable def HA11 : Gam := HA10.ext 44 (fnG e44 d44 (fun a => (fun (s : Stand) => Qaq s) a) (fun a => (fun (s : Stand) => Qaw s) a) .i)
theorem Qst : GOk Try.prog HA11 := Qss.ext (f := 44) (fun a w => Try.call44 a w) (Qb9 (e := e44) (d := d44) (ok := (fun a => (fun (s : Stand) => Qaq s) a)) (g := (fun a => (fun (s : Stand) => Qaw s) a)) (eb := .i) fun a h => W44 a h)
theorem h44 (s : Stand) : HA11 44 [.ag (Qa4 s)] = (Qaq s, .i (Qaw s)) :=
 (show HA11 44 _ = fnG e44 d44 (fun a => (fun (s : Stand) => Qaq s) a) (fun a => (fun (s : Stand) => Qaw s) a) .i (e44 (s)) from rfl).trans (Qb5 _ (Qxw _))
theorem Qt0 (l : List Int) (n : Int)  : HA11 79 [.sl 1 (l.map eI), .i n] = (l.length ≤ 1000000, .b (decide (n ∈ l))) := h79 l n
end Go.C10
set_option maxRecDepth 8000
namespace Go.C10
open Go.Fam Go.Proofs
def rc76 : RC := (.seq (.reg false [(cQ 6 [] (.mv (kB false)))]) (.keep [0,1,2] (.seq (.seq (.reg false [(cMv 8 0), (cLn 9 8), (cMv 10 1), (cB 11 .eql 9 10)]) (.keep [0,1,2,11] (.cond (.t 11) (.seq (.hcl false [(cMv 12 2), (cMv 13 0)] ⟨(some 14), none, [12,13], none, .o (.t 12) [(.t 13)]⟩ [(cMv 6 14)]) .ret) .skip))) (.keep [0,1,2] (.seq (.seq (.reg false [(cMv 15 1), (cI 16 0)]) (.keep [0,1,2,15,16] (.block 0 (.loop [0,1,2,15,16] (some 2) (.seq (.reg false [(cB 17 .lss 16 15)]) (.keep [0,1,2,15,16,17] (.seq (.cond (.t 17) .skip (.exit 0)) (.keep [0,1,2,15,16] (.seq (.block 1 (.seq (.reg false [(cMv 18 16), (cMv 7 18)]) (.keep [0,1,2,7,15,16] (.seq (.itm [.r (cMv 19 0), .r (cMv 20 7), .r (cQ 21 [19,20] (.call (kF 88) [(.t 19), (.t 20)])), .r (cN 22 21), .r (cMv 23 22), .r (gMv 24 23 true 0), .r (gMv 25 23 true 0), .r (gQ 26 23 true [25] (.len (.t 25))), .r (gMv 27 23 true 0), .r (gQ 28 23 true [27] (.len (.t 27))), .r (gQ 29 23 true [24,26,28] (.slx 1 (.t 24) (.t 26) (.t 28))), .r (gMv 30 23 true 7), .r (gQ 31 23 true [30] (.bsl 1 1 [(.i 0)] [(0,1, (.t 30))])), .w ⟨(some 32), (some (23, true)), [29,31], none, .w (.app 1 (.t 29) (.t 31))⟩, .r (gMv 33 23 true 1), .r (gMv 34 23 true 2), .h ⟨(some 35), (some (23, true)), [32,33,34], none, .o (kF 76) [(.t 32), (.t 33), (.t 34)]⟩, .r (gQ 36 23 true [35] (.not (.t 35))), .r (cQ 37 [23,36] (.pick (.t 23) (.t 36) (kB false)))]) (.keep [0,1,2,15,16,37] (.cond (.t 37) (.seq (.reg false [(cQ 6 [] (.mv (kB false)))]) .ret) .skip)))))) (.drp 2 (.keep [0,1,2,15,16] (.reg false [(cC 38 .add 16 1), (cMv 16 38)])))))))))))) (.keep [] (.seq (.reg false [(cQ 6 [] (.mv (kB true)))]) .ret)))))))
def pu76 : List Nat := [31]
def rs76 : List RV := [.t 6]
theorem cc76 : comp Try.prog pu76 (Try.f76.ntmps, 0) 2 1 rc76 (Try.f76.body.getD .skip) = some rc76 := by kernel_rfl
theorem cb76 : CBx Try.f76 := by unfold CBx; kernel_rfl
theorem cs76 : CSx Try.prog Try.f76 rs76 := by unfold CSx; kernel_rfl
theorem cn76 : 3 ≤ Try.f76.ntmps := by decide
def rc77 : RC := (.seq (.reg false [(cQ 4 [] (.mv (kB false)))]) (.keep [0,1,2] (.seq (.reg false [(cI 5 0)]) (.keep [0,1,2,5] (.seq (.seq (.reg false [(cFa 8 1 1), (cLd 9 8 false 1), (cLn 10 9), (cI 11 0)]) (.keep [0,1,2,5,9,10,11] (.block 0 (.loop [0,1,2,5,9,10,11] (some 2) (.seq (.reg false [(cB 12 .lss 11 10)]) (.keep [0,1,2,5,9,10,11,12] (.seq (.cond (.t 12) .skip (.exit 0)) (.keep [0,1,2,5,9,10,11] (.seq (.block 1 (.seq (.reg false [(cA 13 4 9 11), (cLd 14 13 true 4), ⟨(some 7), none, [], none, .w (.alc [(.i 0), (.i 0), (.i 0), (.z 1)])⟩, ⟨none, none, [7,14], none, .w (.st 4 (.t 7) (.t 14))⟩]) (.keep [0,1,2,5,7,9,10,11] (.seq (.reg false [(cMv 15 0), (cLd 16 7 true 4), (cQ 17 [15,16] (.call (kF 70) [(.t 15), (.t 16)])), (cN 18 17)]) (.keep [0,1,2,5,9,10,11,18] (.cond (.t 18) (.reg false [(cMv 19 5), (cC 20 .add 19 1), (cMv 5 20)]) .skip)))))) (.drp 2 (.keep [0,1,2,5,9,10,11] (.reg false [(cC 21 .add 11 1), (cMv 11 21)])))))))))))) (.keep [0,1,2,5] (.seq (.seq (.reg false [(cMv 22 5), (cFa 23 1 2), (cLd 24 23 false 1), (cB 25 .leq 22 24)]) (.keep [0,2,25] (.cond (.t 25) (.reg false [(cLd 26 2 false 1), (cMv 27 0), (cQ 28 [27] (.bsl 1 1 [(.z 1)] [(0,1, (.t 27))])), ⟨(some 29), none, [26,28], none, .w (.app 1 (.t 26) (.t 28))⟩, ⟨none, none, [2,29], none, .w (.st 1 (.t 2) (.t 29))⟩]) .skip))) (.keep [] (.seq (.reg false [(cQ 4 [] (.mv (kB true)))]) .ret)))))))))
def pu77 : List Nat := [28]
def rs77 : List RV := [.t 4]
theorem cc77 : comp Try.prog pu77 (Try.f77.ntmps, 0) 2 1 rc77 (Try.f77.body.getD .skip) = some rc77 := by kernel_rfl
theorem cb77 : CBx Try.f77 := by unfold CBx; kernel_rfl
theorem cs77 : CSx Try.prog Try.f77 rs77 := by unfold CSx; kernel_rfl
theorem cn77 : 3 ≤ Try.f77.ntmps := by decide
def rc50 : RC := (.seq (.reg false [(cX 1 0), (cQ 2 [] (.mv (.k (.z 1))))]) (.keep [1] (.seq (.reg false [⟨(some 3), none, [], none, .w (.alc [(.z 1)])⟩]) (.keep [1,3] (.seq (.ownc 3 0 1 (.hcl false [(cFa 4 1 0), (cLd 5 4 false 1), (cQ 6 [1,3] (.mkf 77 [(.t 1), (.t 3)]))] ⟨(some 7), none, [5,6], none, .o (kF 76) [(.k (.z 1)), (.t 5), (.t 6)]⟩ [])) (.keep [3] (.seq (.reg false [(cLd 8 3 false 1), (cMv 2 8)]) .ret)))))))
def pu50 : List Nat := [1]
def rs50 : List RV := [.t 2]
theorem cc50 : CCx Try.prog Try.f50 pu50 rc50 := by unfold CCx; kernel_rfl
theorem cb50 : CBx Try.f50 := by unfold CBx; kernel_rfl
theorem cs50 : CSx Try.prog Try.f50 rs50 := by unfold CSx; kernel_rfl
theorem cn50 : 1 ≤ Try.f50.ntmps := by decide
end Go.C10
set_option linter.unusedSimpArgs false
set_option linter.unusedVariables false
namespace Go.C10
open Go.Fam Go.Proofs
variable {Γ : Gam}
def atN (t : List Int) (n : Int) : Int := t[n.toNat]?.getD 0
def soB (w : Word) (t : List Int) : Bool :=
 if w.kind = 1 then decide (atN t w.guest ∈ w.among) else if w.kind = 2 then !decide (atN t w.guest ∈ w.among)
 else if w.kind = 3 then decide (atN t w.guest = w.other) && decide (atN t w.other = w.guest) else decide (atN t w.guest = w.guest) || decide (atN t w.other = w.other)
structure OkSo (w : Word) (n : Nat) : Prop where
 guest : 0 ≤ w.guest ∧ w.guest < n
 other : 0 ≤ w.other ∧ w.other < n
 len : w.among.length ≤ 1000000
theorem Qkl {g : Int} {w : Word} (h : Qbe g w = true) (hl : w.among.length ≤ 1000000) : OkSo w g.toNat := by
 unfold Qbe Qfn Qao Qaz at h
 simp only [Zv, decide_eq_true_eq] at h
 obtain ⟨_, h2, h3⟩ := h
 split at h2
 ·simp only [Zv, decide_eq_true_eq] at h2
  exact ⟨by omega, by omega, hl⟩
 ·split at h2
  ·simp only [Zv, decide_eq_true_eq] at h2
   exact ⟨by omega, by omega, hl⟩
  ·cases h2
theorem W70 (t : List Int) (w : Word) (h : OkSo w t.length) : Qal Try.prog 70 [.sl 1 (t.map eI), .ag (eWord w)] (.b (soB w t)) := by
 refine Qak Qst hmix Try.func70 cb70 cc70 cs70 cn70 ?_
 have g1 := fun n => Qt0 w.among n
 simp only [rc70, rs70, Qa9, Qa8, Qad, Qa6, Qae, Qa7, Qa2, Fam.step, Qaf, evO, opv, qv, binV, ldV, V.cells, Qav, Qab, Qa5, Qa1, Qa0, Qa3, ↓reduceIte, Nat.reduceEqDiff, Nat.reduceAdd, Nat.reduceLeDiff, Qb, Qc, Qe, Qf, Qq, Ql, vw_i, Qam, Qau, zipA, Qg, Qj, Qa, true_and, and_self, reduceCtorEq, eWord]
 obtain ⟨⟨a1, a2⟩, ⟨b1, b2⟩, hl⟩ := h
 obtain ⟨x, hx⟩ : ∃ x, t[w.guest.toNat]? = some x := ⟨_, Qr (by omega)⟩
 obtain ⟨y, hy⟩ : ∃ x, t[w.other.toNat]? = some x := ⟨_, Qr (by omega)⟩
 have ex : atN t w.guest = x := by unfold atN; rw [hx]; rfl
 have ey : atN t w.other = y := by unfold atN; rw [hy]; rfl
 by_cases k1 : w.kind = 1
 ·simp only [k1, a1, a2, hx, g1, hl, soB, ex, Qbo, Qa8, Qac, Qah, Qba, Qae, Qaj, Qaf, runX, eff, Qb8, fpR, fpQ, fpV, Qc3, hits, evO, opv, qv, ldV, iadV, Qap, Qab, Qa5, flat, Qa1, Qa0, ↓reduceIte, Nat.reduceEqDiff, Nat.reduceAdd, Nat.reduceLT, Nat.reduceLeDiff, Qb, Qc, Qv, Qe, Qf, Qk, Qq, Ql, Qp, Qn, Qd, Za, Qz, Zw, Q9, Zx, endQ, rvs, rv1, resV, vw_i, vw_b, Qam, Qg, Qs, Q2, Zn, Qj, Qu, Q4, Qa, decide_true, and_self, implies_true, reduceCtorEq, Qy, Z5, Zt, Qi, Qo, Qw, eI]
 by_cases k2 : w.kind = 2
 ·simp only [k2, a1, a2, hx, g1, hl, soB, ex, Qa9, Qbo, Qa8, Qac, Qah, Qa6, Qba, Qae, Qaj, Qa7, Qa2, Fam.step, Qaf, runX, eff, Qb8, fpR, fpQ, fpV, Qc3, hits, evO, opv, qv, binV, ldV, iadV, Qap, Qab, Qa5, flat, Qa1, Qa0, Qa3, ↓reduceIte, Nat.reduceEqDiff, Nat.reduceAdd, Nat.reduceLT, Nat.reduceLeDiff, Int.reduceEq, Qb, Qc, Qv, Qe, Qf, Qk, Qq, Ql, Qp, Qn, Qd, Za, Qz, Zw, Q9, Zx, endQ, rvs, rv1, resV, vw_i, vw_b, Qam, Qg, Qs, Q2, Zn, Qj, Qu, Q4, Qa, decide_true, decide_false, and_self, implies_true, reduceCtorEq, Qy, Z5, Zt, Qi, Qo, Qw, eI]
 by_cases k3 : w.kind = 3
 ·by_cases e : x = w.other <;> simp only [k3, a1, a2, b1, b2, hx, hy, soB, ex, ey, e, Qa9, Qbo, Qa8, Qac, Qah, Qa6, Qba, Qae, Qaj, Qa7, Qa2, Fam.step, Qaf, Qay, Qat, ug, runX, eff, Qb8, fpR, fpQ, fpV, Qc3, hits, evO, opv, qv, Qai, binV, ldV, iadV, Qa1, Qa0, Qa3, ↓reduceIte, Nat.reduceEqDiff, Nat.reduceAdd, Nat.reduceLeDiff, Int.reduceEq, Qb, Qc, Qt, Qv, Qe, Qf, Qk, Qq, Ql, Qp, Qn, Qd, Za, Qz, Zw, Q9, Zx, endQ, rvs, rv1, resV, vw_b, beq_self_eq_true, Qg, Qs, Q2, Zq, Zn, Qj, Qu, Q4, Qa, Qx, decide_true, decide_false, and_true, and_self, forall_const, implies_true, reduceCtorEq, Qy, Z5, Zt, beq_true, imp_self, Qi, Qo, Qw, eI]
 ·by_cases e : x = w.guest <;> simp only [k1, k2, k3, a1, a2, b1, b2, hx, hy, soB, ex, ey, e, Qag, Qa9, Qbo, Qa8, Qac, Qah, Qa6, Qba, Qae, Qaj, Qa7, Qa2, Fam.step, Qaf, Qay, Qat, ug, runX, eff, Qb8, fpR, fpQ, fpV, Qc3, hits, evO, opv, qv, Qai, binV, ldV, iadV, Qa1, Qa0, Qa3, ↓reduceIte, Nat.reduceEqDiff, Nat.reduceAdd, Nat.reduceLeDiff, Qb, Qc, Qt, Qv, Qe, Qf, Qk, Qq, Ql, Qp, Qn, Qd, Za, Qz, Zw, Q9, Zx, endQ, rvs, rv1, resV, vw_b, beq_self_eq_true, Qg, Qs, Q2, Zn, Qj, Bool.false_or, Bool.true_or, Qu, Q4, Qa, Qx, decide_true, decide_false, and_true, and_self, forall_const, implies_true, reduceCtorEq, Qy, Z5, Zt, beq_false, imp_self, Qi, Qo, Qw, eI]
def e70 (a : List Int × Word) : List V := [.sl 1 (a.1.map eI), .ag (eWord a.2)]
def d70 : List V → List Int × Word | [.sl _ x0, .ag x1] => (x0.map dI, Qep x1) | _ => ([], Qep [])
theorem Qya (a : List Int × Word) : d70 (e70 a) = a := by simp [d70, e70, Qet, Function.comp_def, Qd8]
noncomputable def HB1 : Gam := HA11.ext 70 (fnG e70 d70 (fun a => (fun (t : List Int) (w : Word) => OkSo w t.length) a.1 a.2) (fun a => (fun (t : List Int) (w : Word) => soB w t) a.1 a.2) .b)
theorem Qwa : GOk Try.prog HB1 := Qst.ext (f := 70) (fun a w => Try.call70 a w) (Qb9 (e := e70) (d := d70) (ok := (fun a => (fun (t : List Int) (w : Word) => OkSo w t.length) a.1 a.2)) (g := (fun a => (fun (t : List Int) (w : Word) => soB w t) a.1 a.2)) (eb := .b) fun a h => W70 a.1 a.2 h)
theorem h70 (t : List Int) (w : Word) : HB1 70 [.sl 1 (t.map eI), .ag (eWord w)] = (OkSo w t.length, .b (soB w t)) :=
 (show HB1 70 _ = fnG e70 d70 (fun a => (fun (t : List Int) (w : Word) => OkSo w t.length) a.1 a.2) (fun a => (fun (t : List Int) (w : Word) => soB w t) a.1 a.2) .b (e70 (t, w)) from rfl).trans (Qb5 _ (Qya _))
def Qc6 (ws : List Word) (t : List Int) : Nat := ws.countP fun w => !soB w t
def Qci (s : Stand) (t : List Int) : Bool := decide ((Qc6 s.words t : Int) ≤ s.wrong)
def outH (l : List (List Int)) : List Blk := [.cells 0 [.rf 1 l.length 0 l.length 1], .cells l.length (l.map eCan).flatten]
structure OkS (s : Stand) : Prop where
 guests : 0 ≤ s.guests ∧ s.guests ≤ 7
 wrong : 0 ≤ s.wrong ∧ s.wrong ≤ 7
 words : s.words.length ≤ 20
 word : ∀ w ∈ s.words, Qbe s.guests w = true
 short : ∀ w ∈ s.words, w.among.length ≤ 1000000
theorem Quj (hp : List Blk) (n : Nat) (t : List Int) : vw hp (n + 1) (eT t) = .sl 1 (t.map eI) := by cases t <;> rfl
theorem Qx5 (t : List Int) : Qab (eT t) = false := by cases t <;> rfl
theorem Qpj (hp : List Blk) (n : Nat) (t : List Int) : cutV hp n (eT t) = eT t := by cases t <;> rfl
structure D77 where
 t : List Int
 s : Stand
 l : List (List Int)
def eA77 (x : D77) : List V := [eT x.t, .pa (Qa4 x.s), .ad 0 0 0]
def eH77 (x : D77) : List Blk := outH x.l
def Qte : List V → List Blk → D77
 | [t, .pa s, _], [_, .cells _ l] => ⟨dT t, Qb2 s, l.map fun v => dCan [v]⟩
 | _, _ => ⟨[], Qb2 [], []⟩
theorem Qtf (x : D77) : Qte (eA77 x) (eH77 x) = x := by
 obtain ⟨t, s, l⟩ := x
 have h : ∀ l : List (List Int), ((l.map eCan).flatten.map fun v => dCan [v]) = l := fun l => by induction l with | nil => rfl | cons t l ih => simp only [Qb, Q0, eCan, Qp, Qn, ih]; rw [show dCan [V.sl 1 (t.map eI)] = t from Qlb t]
 simp only [Qte, eA77, eH77, outH, dT_e, Qbc, h]
structure C77 (x : D77) : Prop where
 s : OkS x.s
 len : (x.t.length : Int) = x.s.guests
 l : x.l.length ≤ 1000000
def R77 (x : D77) (r : V) (hp : List Blk) : Prop := r = .b true ∧ hp = outH (if Qci x.s x.t then x.l ++ [x.t] else x.l)
set_option maxHeartbeats 1000000 in
theorem W77 (x : D77) (h : C77 x) : HeapCall Try.prog 77 (eA77 x) (eH77 x) (R77 x) := by
 refine Qh6 Qwa hmix Try.func77 cb77 cc77 cs77 (args := eA77 x) (hp := eH77 x) (by exact cn77) (by simp [eH77, outH]) (by decide) ?_
 obtain ⟨t, s, l⟩ := x
 obtain ⟨hS, hlen, hl⟩ := h
 simp only at hS hlen hl
 have hw20 := hS.words
 simp only [rc77, rs77, eA77, eH77, outH, Qa9, Qa8, Qad, Qa6, cutH, Qae, Qa7, Qa2, Fam.step, Qaf, evO, opv, qv, ldV, lenV, Qa1, Qa0, Qa3, ↓reduceIte, Nat.reduceEqDiff, Nat.reduceAdd, Nat.reduceLeDiff, Qb, Qc, Qe, Qf, Qk, Qq, Ql, rv1, resV, zipA, Qg, Qa, true_and, reduceCtorEq, Qi, Qa4]
 refine Qc2 s.words.length (fun i => ⟨lkp [(0, eT t), (1, .pa (Qa4 s)), (2, .ad 0 0 0), (5, .i (Qc6 (s.words.take i) t)), (9, .sl 4 (s.words.map eWord)), (10, .i s.words.length), (11, .i i)], outH l⟩) ?_ ?_ ?_
 ·simp only [outH, Qpj, Qar _ _ _ (Qce l), Q8, Q7, Qc6, List.countP_nil, cutH, kp, cutV, cutL, cutB, Qa0, Qa3, ↓reduceIte, Nat.reduceEqDiff, Nat.reduceLT, Qb, Qc, Qh, Q7, Qm, reduceCtorEq, Qa4]
 ·intro i hi
  obtain ⟨w, hw⟩ : ∃ x, s.words[i]? = some x := ⟨_, Qr hi⟩
  have hlt : (i : Int) < s.words.length := by omega
  have hm := Zk hw
  have hok : OkSo w t.length := by
   have := Qkl (hS.word w hm) (hS.short w hm)
   rwa [show s.guests.toNat = t.length by omega] at this
  have g1 := h70 t w
  simp only [eWord] at g1
  have h3 : inI ((i : Int) + 1) := by unfold inI; omega
  have hcp : Qc6 (s.words.take i) t ≤ i := by
   unfold Qc6
   refine Zu List.countP_le_length ?_
   rw [Xm]; omega
  have h4 : inI ((Qc6 (s.words.take i) t : Int) + 1) := by unfold inI; omega
  have hst : Qc6 (s.words.take (i + 1)) t = Qc6 (s.words.take i) t + if soB w t then 0 else 1 := by
   unfold Qc6
   rw [Qbf hw, List.countP_append]
   cases h : soB w t <;> simp [h]
  by_cases hs : soB w t = true
  ·simp only [outH, hw, hlt, g1, hok, hs, Quj, h3, hst, Qpj, Qar _ _ _ (Qce l), Zc, Q6, Qag, Qa9, Qa8, Qac, Qad, Qa6, Qcb, ↓Qbq, cutH, putB, Qae, Qaj, Qa7, Qa2, Fam.step, Qaf, Qcf, Qb6, putB, nv, sv, evO, opv, qv, binV, ldV, iadV, Qap, putAt, V.cells, Qav, Qbm, Qab, Qa5, flat, kp, cutV, cutL, cutB, Qa1, Qbn, Qa0, Qa3, ↓reduceIte, Nat.reduceEqDiff, Nat.reduceAdd, Nat.reduceLT, Nat.reduceLeDiff, Qb, Qc, Qt, Qv, Qe, Qf, Qk, Qq, Zr, Qh, Q7, Qm, Qp, Qn, Qd, Q5, Zd, Qz, Zh, Z0, vw_i, Qam, Qau, Q1, Qg, Nat.add_zero, Qs, Qj, Qu, Qa, decide_true, and_self, implies_true, reduceCtorEq, Qy, Qi, Q3, Qo, Qw, eWord, Qa4]
  ·simp only [outH, hw, hlt, g1, hok, hs, Quj, h3, h4, hst, Qpj, Qar _ _ _ (Qce l), Zc, Q6, Qag, Qa9, Qa8, Qac, Qad, Qa6, Qcb, ↓Qbq, cutH, putB, Qae, Qaj, Qa7, Qa2, Fam.step, Qaf, Qcf, Qb6, putB, nv, sv, evO, opv, qv, binV, ldV, iadV, Qap, putAt, V.cells, Qav, Qbm, Qab, Qa5, flat, kp, cutV, cutL, cutB, Qa1, Qbn, Qa0, Qa3, ↓reduceIte, Nat.reduceEqDiff, Nat.reduceAdd, Nat.reduceLT, Nat.reduceLeDiff, Qb, Qc, Qt, Qv, Qe, Qf, Qk, Qq, Zr, Qh, Q7, Qm, Qp, Qn, Qd, Q5, Zd, Qz, Zh, Z0, vw_i, Qam, Qau, Q1, Qg, Qs, Qj, Q4, Qa, decide_true, and_self, implies_true, reduceCtorEq, Qy, Qi, Q3, Qo, Qw, eWord, Qa4]
 ·have hlt : ¬ ((s.words.length : Int) < s.words.length) := by omega
  have hfl : Qax (l.length + 1) := by unfold Qax; omega
  by_cases ht : Qci s t = true
  ·have ht' : (Qc6 s.words t : Int) ≤ s.wrong := by simpa [Qci] using ht
   have hsn : (l.map eCan).flatten ++ [V.sl 1 (t.map eI)] = ((l ++ [t]).map eCan).flatten := by simp [eCan]
   have hnc := Qce (l ++ [t])
   simp only [outH, hlt, ht, ht', R77, Zo, Qx5, Quj, Qhr, Zy, hfl, Q0, Ze, hsn, Qar _ _ _ hnc, Zb, Qa9, Qa8, Qac, Qb1, Qah, Qa6, Qck, putB, endK, Qae, Qaj, Qa7, Qa2, Fam.step, Qaf, Qcf, Qb6, putB, nv, sv, Qc8, evO, opv, qv, binV, ldV, Qas, putAt, Qb7, Qb4, V.cells, Qav, Qbm, Qa5, cutV, cutL, cutB, Qa1, Qbn, Qa0, Qa3, ↓reduceIte, Nat.reduceEqDiff, Nat.reduceLT, Nat.reduceLeDiff, Qb, Qc, Qt, Qv, Qe, Qf, Qk, Qq, Zr, Qh, Q7, Qm, Ql, Qn, Qd, Q5, Zd, Zh, Z0, Q9, Zg, rvs, rv1, Qg, Qs, Qj, Qa, decide_true, decide_false, and_self, reduceCtorEq, not_false_eq_true, ne_eq, Qa4]
  ·have ht' : ¬ (Qc6 s.words t : Int) ≤ s.wrong := by simpa [Qci] using ht
   simp only [outH, hlt, ht, ht', R77, Zo, Qar _ _ _ (Qce l), Qag, Qa9, Qa8, Qac, Qb1, Qah, Qa6, endK, Qae, Qaj, Qa7, Qa2, Fam.step, Qaf, evO, opv, qv, binV, ldV, cutV, cutL, cutB, Qa1, Qa0, Qa3, ↓reduceIte, Nat.reduceEqDiff, Nat.reduceLT, Nat.reduceLeDiff, Qb, Qc, Qe, Qf, Qk, Qq, Qh, Qm, Ql, rvs, rv1, Qg, Qa, decide_false, and_self, reduceCtorEq, Qa4]
end Go.C10
set_option linter.unusedSimpArgs false
set_option linter.unusedVariables false
namespace Go.C10
open Go.Fam Go.Proofs
variable {Γ : Gam}
noncomputable def HC1 : Gam := HB1.extH 77 (hpG eA77 eH77 Qte C77 R77)
theorem Qtv : GOk Try.prog HC1 := Qwa.extH (f := 77) (fun a w => Try.call77 a w) (Qnl fun x hx => ⟨fun r hp' _ y hy => (by cases hy), W77 x hx⟩)
theorem h77 (t : List Int) (s : Stand) (l : List (List Int)) : HC1.h 77 [eT t, .pa (Qa4 s), .ad 0 0 0] (outH l) = (C77 ⟨t, s, l⟩, R77 ⟨t, s, l⟩) := Qnk (⟨t, s, l⟩ : D77) (Qtf _)
def extN (g : Int) : Nat → List Int → List (List Int)
 | 0, F => [F]
 | r + 1, F => ((ints 0 (g - 1)).filter fun u => decide (u ∉ F)).flatMap fun u => extN g r (F ++ [u])
def Qcg (s : Stand) (r : Nat) (F : List Int) : List (List Int) := (extN s.guests r F).filter (Qci s)
structure D76 where
 F : List Int
 s : Stand
 l : List (List Int)
 rf : Bool
def eA76 (x : D76) : List V := [if x.rf then .rf 2 0 0 x.F.length 1 else eT x.F, .i x.s.guests, .fn 77 [.pa (Qa4 x.s), .ad 0 0 0]]
def eH76 (x : D76) : List Blk := outH x.l ++ if x.rf then [.cells 0 (x.F.map eI).flatten] else []
def Qpk : List V → List Blk → D76
 | [.rf _ _ _ _ _, _, .fn _ [.pa s, _]], [_, .cells _ l, .cells _ F] => ⟨F.map gI, Qb2 s, l.map fun v => dCan [v], true⟩
 | [t, _, .fn _ [.pa s, _]], [_, .cells _ l] => ⟨dT t, Qb2 s, l.map fun v => dCan [v], false⟩
 | _, _ => ⟨[], Qb2 [], [], false⟩
theorem Qpm : ∀ l : List (List Int), ((l.map eCan).flatten.map fun v => dCan [v]) = l
 | [] => rfl
 | t :: l => by simp only [Qb, Q0, eCan, Qp, Qn]; rw [show dCan [V.sl 1 (t.map eI)] = t from Qlb t, Qpm l]
theorem Qvt : ∀ l : List Int, ((l.map eI).flatten.map gI) = l
 | [] => rfl
 | t :: l => by simp only [Qb, Q0, eI, Qp, Qn, Qvt l]; rfl
theorem Qtd (x : D76) : Qpk (eA76 x) (eH76 x) = x := by
 obtain ⟨F, s, l, rf⟩ := x
 have h1 := Qpm l
 have h2 := Qvt F
 cases rf
 ·cases F with
  | nil => simp only [Qpk, eA76, eH76, outH, if_false, Qa, Qd, Qbc, h1, eT, dT]
  | cons a F => simp only [Qpk, eA76, eH76, outH, if_false, Qa, Qd, Qbc, h1, eT, dT, Qw1 Qd8]
 ·simp only [Qpk, eA76, eH76, outH, if_true, Qp, Qn, Qbc, h1, h2]
theorem Qw0 (n : Nat) : ∀ l : List (List Int), lowL n (l.map eCan).flatten = true
 | [] => rfl
 | t :: l => by simp only [Qb, Q0, eCan, Qp, Qn, lowL, lowV, Qw0 n l, Qs]
structure C76 (r : Nat) (x : D76) : Prop where
 s : OkS x.s
 len : (x.F.length : Int) + r = x.s.guests
 l : x.l.length + x.s.guests.toNat ^ r ≤ 1000000
 ne : x.rf = true → x.F ≠ []
def R76 (r : Nat) (x : D76) (v : V) (hp : List Blk) : Prop := v = .b true ∧ hp = outH (x.l ++ Qcg x.s r x.F) ++ if x.rf then [.dead 1] else []
noncomputable def G76 (k : Nat) : Gam := HC1.extH 76 (hpG eA76 eH76 Qpk (C76 k) (R76 k))
theorem Qw3 {k : Nat} (h : ∀ x, C76 k x → HeapCall Try.prog 76 (eA76 x) (eH76 x) (R76 k x)) : GOk Try.prog (G76 k) :=
 Qtv.extH (f := 76) (fun a w => Try.call76 a w) (Qnl fun x hx => ⟨fun r hp' hr y hy => (by
  obtain ⟨F, s, l, rf⟩ := x
  cases rf <;> cases hy), h x hx⟩)
theorem q76 (k : Nat) (x : D76) : (G76 k).h 76 (eA76 x) (eH76 x) = (C76 k x, R76 k x) := Qnk x (Qtd x)
theorem _root_.Go.Fam.HeapCall.imp {P : Program} {f : FuncId} {args : List V} {hp : List Blk} {R R' : V → List Blk → Prop} (h : HeapCall P f args hp R) (hi : ∀ r hp', R r hp' → R' r hp') : HeapCall P f args hp R' := by
 intro S w O cargs hm hs hr
 refine (h S w O cargs hm hs hr).mono ?_
 rintro e w' ⟨c, S', O', r, hp', he, hR, h⟩
 exact ⟨c, S', O', r, hp', he, hi _ _ hR, h⟩
theorem Qvx {k : Nat} (h : ∀ x, x.rf = false → C76 k x → HeapCall Try.prog 76 (eA76 x) (eH76 x) (R76 k x)) (x : D76) (hx : C76 k x) : HeapCall Try.prog 76 (eA76 x) (eH76 x) (R76 k x) := by
 obtain ⟨F, s, l, rf⟩ := x
 cases rf with
 | false => exact h _ rfl hx
 | true =>
  have hb := h ⟨F, s, l, false⟩ rfl ⟨hx.s, hx.len, hx.l, fun h => by cases h⟩
  have hne : F ≠ [] := hx.ne rfl
  have e1 : eT F = .sl 1 (F.map eI) := by cases F with | nil => exact absurd rfl hne | cons a F => rfl
  have hfr := hb.frame (fun r hp' hr => by obtain ⟨_, rfl⟩ := hr; rfl) (by simp [eA76, eH76, outH, lowL, lowV, e1]) (fun b hb => by
   simp only [eH76, outH, Qa, if_false, Qd, Z2, Xn, or_false] at hb
   rcases hb with rfl | rfl
   ·simp [lowB, lowL, lowV, eH76, outH]
   ·simp only [lowB, Qw0]) [.dead 1]
  refine HeapCall.frz [2] ?_ ?_ ?_
  ·simp [Qhq, eH76, outH, Qf2]
  ·intro v hv
   simp [eA76] at hv
   rcases hv with rfl | rfl | rfl <;> simp [rids, Qdg]
  ·have e2 : (eA76 ⟨F, s, l, true⟩).map (fzV (eH76 ⟨F, s, l, true⟩) [2]) = eA76 ⟨F, s, l, false⟩ := by
    have hc := Qfy F
    have hv1 : vw (eH76 ⟨F, s, l, true⟩) 8 (.rf 2 0 0 F.length 1) = .sl 1 (F.map eI) := by
     simp only [eH76, outH, Qgj, Zy, Z1, hc, vw_I, ↓reduceIte, Qp, Qn, Q5, Zd, Qe8, Qg, and_self]
    have k1 : fzV (eH76 ⟨F, s, l, true⟩) [2] (.rf 2 0 0 F.length 1) = .sl 1 (F.map eI) := by
     unfold fzV
     rw [if_pos (by simp [rids]), hv1]
    have k2 : fzV (eH76 ⟨F, s, l, true⟩) [2] (.i s.guests) = .i s.guests := rfl
    have k3 : fzV (eH76 ⟨F, s, l, true⟩) [2] (.fn 77 [.pa (Qa4 s), .ad 0 0 0]) = .fn 77 [.pa (Qa4 s), .ad 0 0 0] := by
     unfold fzV
     rw [if_neg (by simp [rids, Qdg])]
    simp only [eA76, if_true, Qa, if_false, Qb, Qc, k1, k2, k3, e1]
   have e3 : [2].foldl Qg2 (eH76 ⟨F, s, l, true⟩) = eH76 ⟨F, s, l, false⟩ ++ [.dead 1] := rfl
   rw [e2, e3]
   refine hfr.imp ?_
   rintro r hp2 ⟨hp', ⟨rfl, rfl⟩, rfl⟩
   exact ⟨rfl, by simp⟩
theorem Qn2 (k : Nat) (l : List Int) (n : Int)  : (G76 k) 88 [.sl 1 (l.map eI), .i n] = (l.length ≤ 1000000, .b (decide (n ∈ l))) := h88 l n
def accN (s : Stand) (r : Nat) (F : List Int) (i : Nat) : List (List Int) := (((ints 0 (s.guests - 1)).take i).filter fun u => decide (u ∉ F)).flatMap fun u => Qcg s r (F ++ [u])
theorem Qjv {s : Stand} {r : Nat} {F : List Int} {i : Nat} (h : (i : Int) < s.guests) : accN s r F (i + 1) = accN s r F i ++ if (i : Int) ∈ F then [] else Qcg s r (F ++ [(i : Int)]) := by
 unfold accN
 have hx : (ints 0 (s.guests - 1))[i]? = some (i : Int) := by rw [Qk5 (by omega)]; simp
 rw [Qbf hx, List.filter_append, List.flatMap_append]
 by_cases hF : (i : Int) ∈ F <;> simp [hF]
theorem Qp4 {s : Stand} {r : Nat} {F : List Int} : accN s r F s.guests.toNat = Qcg s (r + 1) F := by
 unfold accN Qcg
 have hl : (ints 0 (s.guests - 1)).length = s.guests.toNat := by rw [Qec]; omega
 rw [← hl, Zo, extN, List.filter_flatMap]
theorem Qk2 (g : Int) : ∀ (r : Nat) (F : List Int), (extN g r F).length ≤ g.toNat ^ r
 | 0, F => by simp [extN]
 | r + 1, F => by
  rw [extN, List.length_flatMap]
  have h1 : ∀ l : List Int, (l.map fun u => (extN g r (F ++ [u])).length).sum ≤ l.length * g.toNat ^ r := fun l => by
   induction l with
   | nil => simp
   | cons a l ih =>
    rw [Qb, List.sum_cons, Qe, Xa, Xb]
    have := Qk2 g r (F ++ [a])
    omega
  refine Zu (h1 _) ?_
  rw [Xi, Xj]
  refine Nat.mul_le_mul_left _ (Zu (Zj _ _) ?_)
  rw [Qec]; omega
theorem Qmd {s : Stand} {r : Nat} {F : List Int} : ∀ {i : Nat}, (i : Int) ≤ s.guests → (accN s r F i).length ≤ i * s.guests.toNat ^ r
 | 0, _ => by simp [accN]
 | i + 1, h => by
  rw [Qjv (by omega), Zb, Xa, Xb]
  have h1 := Qmd (s := s) (r := r) (F := F) (i := i) (by omega)
  have h2 := Qk2 s.guests r (F ++ [(i : Int)])
  have h3 : (Qcg s r (F ++ [(i : Int)])).length ≤ (extN s.guests r (F ++ [(i : Int)])).length := Zj _ _
  split
  ·simp; omega
  ·omega
theorem Qvu (F : List Int) : (eT F = .z 1 ∧ F = []) ∨ eT F = .sl 1 (F.map eI) := by cases F with | nil => exact .inl ⟨rfl, rfl⟩ | cons a F => exact .inr rfl
set_option maxHeartbeats 2000000 in
theorem W76 : ∀ (r : Nat) (x : D76), x.rf = false → C76 r x → HeapCall Try.prog 76 (eA76 x) (eH76 x) (R76 r x) := by
 intro r
 induction r with
 | zero =>
  rintro ⟨F, s, l, rf⟩ hrf h
  simp only at hrf
  subst hrf
  refine Qh6 Qtv hmix Try.func76 cb76 cc76 cs76 (args := eA76 ⟨F, s, l, false⟩) (hp := eH76 ⟨F, s, l, false⟩) (by exact cn76) (by simp [eH76, outH]) (by decide) ?_
  have hl := h.l
  have hlen := h.len
  simp only [Nat.pow_zero] at hl hlen
  have g1 := h77 F s l
  have hC : C77 ⟨F, s, l⟩ := ⟨h.s, by show (F.length : Int) = s.guests; omega, by show l.length ≤ 1000000; omega⟩
  simp only [Qa4, outH] at g1
  have fin : ∀ (v : V) (hp' : List Blk), R77 ⟨F, s, l⟩ v hp' → v = .b true ∧ hp' = outH (l ++ Qcg s 0 F) := by
   rintro v hp' ⟨rfl, rfl⟩
   refine ⟨rfl, ?_⟩
   by_cases ht : Qci s F = true <;> simp [ht, Qcg, extN]
  have hg : (F.length : Int) = s.guests := by omega
  have hr : ∀ L : List (List Int), [Blk.cells 0 [.rf 1 L.length 0 L.length 1], .cells L.length (cutL [.cells 0 [.rf 1 L.length 0 L.length 1], .cells L.length (L.map eCan).flatten] 2 (L.map eCan).flatten)] = outH L := fun L => by rw [Qar _ _ _ (Qce L)]; rfl
  rcases Qvu F with ⟨e, e0⟩ | e
  ·subst e0
   rw [e] at g1
   have hg0 : ((0 : Int) = s.guests) = True := eq_true (by rw [← hg]; rfl)
   simp only [rc76, rs76, eA76, eH76, outH, g1, hC, e, hg0, Qa9, Qa8, Qac, Qah, Qa6, Qo4, cutH, endK, Qae, Qa7, Qa2, Fam.step, Qaf, Qb6, evO, opv, qv, binV, lenV, Qa1, Qa0, Qa3, ↓reduceIte, Nat.reduceEqDiff, Nat.reduceAdd, Qb, Qc, Qp, Qn, Qd, rvs, rv1, resV, zipA, Qg, Qa, decide_true, true_and, and_self, reduceCtorEq, Qa4]
   intro v hp' hv
   obtain ⟨rfl, rfl⟩ := fin v hp' hv
   simp only [R76, outH, hr, cutV, cutL, cutB, ↓reduceIte, Nat.reduceLT, Qb, Qc, Qh, Qm, Qd, Qa, and_self]
  ·rw [e] at g1
   simp only [rc76, rs76, eA76, eH76, outH, g1, hC, e, hg, Qa9, Qa8, Qac, Qah, Qa6, Qo4, cutH, endK, Qae, Qa7, Qa2, Fam.step, Qaf, Qb6, evO, opv, qv, binV, lenV, Qa1, Qa0, Qa3, ↓reduceIte, Nat.reduceEqDiff, Nat.reduceAdd, Qb, Qc, Qp, Qn, Qd, rvs, rv1, resV, zipA, Qg, Qa, decide_true, true_and, and_self, reduceCtorEq, Qi, Qa4]
   intro v hp' hv
   obtain ⟨rfl, rfl⟩ := fin v hp' hv
   simp only [R76, outH, hr, cutV, cutL, cutB, ↓reduceIte, Nat.reduceLT, Qb, Qc, Qh, Qm, Qd, Qa, and_self]
 | succ r ih =>
  rintro ⟨F, s, l, rf⟩ hrf h
  simp only at hrf
  subst hrf
  have hok := Qw3 (k := r) (fun x hx => Qvx (fun x h1 h2 => ih x h1 h2) x hx)
  refine Qh6 hok hmix Try.func76 cb76 cc76 cs76 (args := eA76 ⟨F, s, l, false⟩) (hp := eH76 ⟨F, s, l, false⟩) (by exact cn76) (by simp [eH76, outH]) (by decide) ?_
  have hS := h.s
  have hgs := hS.guests
  have hl := h.l
  have hlen := h.len
  simp only at hl hlen hS hgs
  have hg : ¬ (F.length : Int) = s.guests := by omega
  have hFl : F.length ≤ 7 := by omega
  rcases Qvu F with ⟨e, e0⟩ | e
  ·subst e0
   have hlen' : ((0 : Nat) : Int) + ((r + 1 : Nat) : Int) = s.guests := hlen
   have hg : ((0 : Int) = s.guests) = False := eq_false hg
   have e3 : Qax 1 := by unfold Qax; omega
   simp only [rc76, rs76, eA76, eH76, outH, e, hg, Qag, Qa9, Qa8, Qac, Qad, Qa6, cutH, Qae, Qa7, Qa2, Fam.step, Qaf, evO, opv, qv, binV, lenV, Qa1, Qa0, Qa3, ↓reduceIte, Nat.reduceEqDiff, Nat.reduceAdd, Qb, Qc, Qd, rv1, resV, zipA, Qg, Qa, decide_false, true_and, reduceCtorEq, Qa4]
   refine Qc2 s.guests.toNat (fun i => ⟨lkp [(0, .z 1), (1, .i s.guests), (2, .fn 77 [.pa (Qa4 s), .ad 0 0 0]), (15, .i s.guests), (16, .i i)], outH (l ++ accN s r [] i)⟩) ?_ ?_ ?_
   ·have e0 : accN s r [] 0 = [] := rfl
    simp only [outH, Q8, e0, Qar _ _ _ (Qce l), cutH, kp, cutV, cutL, cutB, Qa0, Qa3, ↓reduceIte, Nat.reduceEqDiff, Nat.reduceLT, Qb, Qc, Qh, Qm, Qd, reduceCtorEq, Qa4]
   ·intro i hi
    have hlt : (i : Int) < s.guests := by omega
    have g1 := Qn2 r [] i
    simp only [Qc, Qf, Xn] at g1
    have hst := Qjv (s := s) (r := r) (F := []) hlt
    simp only [Qn] at hst
    have hln := Qmd (s := s) (r := r) (F := []) (i := i) (by omega)
    have hpw : l.length + (i + 1) * s.guests.toNat ^ r ≤ 1000000 := by
     refine Zu ?_ hl
     rw [Xi, Xj (s.guests.toNat ^ r)]
     exact Xe (Xc _ (by omega)) _
    rw [Xa, Xb] at hpw
    obtain ⟨L, hL⟩ : ∃ L, L = l ++ accN s r [] i := ⟨_, rfl⟩
    have hLl : L.length + s.guests.toNat ^ r ≤ 1000000 := by rw [hL, Zb]; omega
    rw [hst, ← Xk, ← hL]
    have hi1 : inI ((i : Int) + 1) := by unfold inI; omega
    have hF6 : (0 : Nat) ≤ 1000000 := by omega
    by_cases hF : (i : Int) ∈ ([] : List Int)
    ·exact absurd hF (by simp)
    ·rw [if_neg hF]
     have g2 := q76 r ⟨([] : List Int) ++ [(i : Int)], s, L, true⟩
     have hC : C76 r ⟨([] : List Int) ++ [(i : Int)], s, L, true⟩ := ⟨hS, by simp only [Zb, Qe, Qf]; omega, hLl, fun _ => by simp⟩
     simp only [Qn] at hC
     simp only [eA76, eH76, outH, if_true, Qp, Qn, Qa4, Qe, Qf, Qg, Qb, Qc, Q0, Ze, eI, Qd] at g2
     simp only [outH, hlt, g1, g2, hF6, hC, Q0, Ze, e3, Qag, Qa9, Qa8, Qac, Qj9, Qad, Qah, Qa6, Qcb, Qqx, Qks, Qqz, Qo7, Qo6, Qck, ↓Qbq, cutH, endK, Qae, Qaj, Qa7, Qa2, Fam.step, Qaf, Qcf, Qay, Qb6, Qat, ug, nv, Qc8, evO, opv, qv, binV, lenV, slxV, Qap, Qas, putAt, Qb7, Qb4, V.cells, Qav, Qbm, Qab, Qa5, flat, kp, cutV, cutL, Qa1, Qa0, Qa3, ↓reduceIte, Nat.reduceEqDiff, Nat.reduceAdd, Nat.reduceMul, Nat.reduceLT, Nat.reduceLeDiff, Qb, Qc, Qt, Qv, Qe, Qf, Qk, Zr, Qh, Q7, Qm, Qp, Qn, Qd, Q9, Zg, rvs, rv1, vw_i, vw_z, beq_self_eq_true, Qg, Qs, Q2, Qj, Q4, Qa, Qx, decide_true, decide_false, true_and, and_self, forall_const, implies_true, reduceCtorEq, not_false_eq_true, ne_eq, Z3, Qa4]
     rintro v hp' ⟨rfl, rfl⟩
     have hnc := Qce (L ++ Qcg s r [(i : Int)])
     simp only [outH, hi1, Qar _ _ _ hnc, Zc, Q6, Qai, cutV, cutL, cutB, ↓reduceIte, Nat.reduceLT, Qb, Qc, Qh, Q7, Qm, Qp, Qn, Qu, Qa, and_self, forall_const, false_implies]
   ·have hlt : ¬ ((s.guests.toNat : Int) < s.guests) := by omega
    have hnc := Qce (l ++ Qcg s (r + 1) [])
    simp only [outH, hlt, Qp4, R76, Qar _ _ _ hnc, Qa9, Qa8, Qac, Qb1, Qah, Qa6, endK, Qae, Qaj, Qa7, Qa2, Fam.step, Qaf, evO, opv, qv, binV, cutV, cutL, cutB, Qa1, Qa0, Qa3, ↓reduceIte, Nat.reduceEqDiff, Nat.reduceLT, Qb, Qc, Qh, Qm, Qd, rvs, rv1, Qa, decide_false, and_self, reduceCtorEq, Qa4]
  ·simp only [rc76, rs76, eA76, eH76, outH, e, hg, Qag, Qa9, Qa8, Qac, Qad, Qa6, cutH, Qae, Qa7, Qa2, Fam.step, Qaf, evO, opv, qv, binV, lenV, Qa1, Qa0, Qa3, ↓reduceIte, Nat.reduceEqDiff, Nat.reduceAdd, Qb, Qc, Qd, rv1, resV, zipA, Qg, Qa, decide_false, true_and, reduceCtorEq, Qi, Qa4]
   refine Qc2 s.guests.toNat (fun i => ⟨lkp [(0, .sl 1 (F.map eI)), (1, .i s.guests), (2, .fn 77 [.pa (Qa4 s), .ad 0 0 0]), (15, .i s.guests), (16, .i i)], outH (l ++ accN s r F i)⟩) ?_ ?_ ?_
   ·have e0 : accN s r F 0 = [] := rfl
    simp only [outH, Q8, e0, Qar _ _ _ (Qce l), cutH, kp, cutV, cutL, cutB, Qa0, Qa3, ↓reduceIte, Nat.reduceEqDiff, Nat.reduceLT, Qb, Qc, Qh, Qm, Qd, reduceCtorEq, Qa4]
   ·intro i hi
    have hlt : (i : Int) < s.guests := by omega
    have g1 := Qn2 r F i
    have hst := Qjv (s := s) (r := r) (F := F) hlt
    have hln := Qmd (s := s) (r := r) (F := F) (i := i) (by omega)
    have hpw : l.length + (i + 1) * s.guests.toNat ^ r ≤ 1000000 := by
     refine Zu ?_ hl
     rw [Xi, Xj (s.guests.toNat ^ r)]
     exact Xe (Xc _ (by omega)) _
    rw [Xa, Xb] at hpw
    obtain ⟨L, hL⟩ : ∃ L, L = l ++ accN s r F i := ⟨_, rfl⟩
    have hLl : L.length + s.guests.toNat ^ r ≤ 1000000 := by rw [hL, Zb]; omega
    rw [hst, ← Xk, ← hL]
    have hi1 : inI ((i : Int) + 1) := by unfold inI; omega
    have hF6 : F.length ≤ 1000000 := by omega
    by_cases hF : (i : Int) ∈ F
    ·rw [if_pos hF, Qd]
     simp only [outH, hlt, g1, hF, hF6, hi1, Qar _ _ _ (Qce L), Zc, Q6, Qag, Qa9, Qa8, Qac, Qad, Qa6, Qcb, Qqx, Qks, Qqz, Qo7, Qo6, Qck, ↓Qbq, cutH, Qae, Qaj, Qa7, Qa2, Fam.step, Qaf, Qay, Qat, ug, evO, opv, qv, Qqg, binV, lenV, slxV, Qap, Qas, putAt, Qb7, Qb4, V.cells, Qav, Qbm, Qab, Qa5, flat, kp, cutV, cutL, cutB, Qa1, Qa0, Qa3, ↓reduceIte, Nat.reduceEqDiff, Nat.reduceMul, Nat.reduceLT, Nat.reduceLeDiff, Qb, Qc, Qt, Qv, Qe, Qf, Qh, Q7, Qm, Qp, Qn, Qd, Q9, Zg, vw_i, Qam, Q1, Qg, Qs, Q2, Qj, Qu, Qa, decide_true, true_and, and_true, and_self, false_and, forall_const, implies_true, reduceCtorEq, not_false_eq_true, ne_eq, beq_true, imp_self, Qi, Q3, Qa4]
    ·rw [if_neg hF]
     have g2 := q76 r ⟨F ++ [(i : Int)], s, L, true⟩
     have htk : List.take F.length (F.map eI) = F.map eI := by have := Zo (l := F.map eI); rwa [Qi] at this
     have hC : C76 r ⟨F ++ [(i : Int)], s, L, true⟩ := ⟨hS, by simp only [Zb, Qe, Qf]; omega, hLl, fun _ => by simp⟩
     simp only [eA76, eH76, outH, if_true, Qp, Qn, Qa4, Zb, Qe, Qf, Qg, Z6, Qb, Qc, List.flatten_append, Q0, Ze, eI, Qd] at g2
     have hfl : Qax (F.length + 1) := by unfold Qax; omega
     simp only [outH, hlt, g1, hF, g2, htk, hF6, hfl, hC, Int.le_refl, Q0, Ze, Qag, Qa9, Qa8, Qac, Qj9, Qad, Qah, Qa6, Qcb, Qqx, Qks, Qqz, Qo7, Qo6, Qck, ↓Qbq, cutH, endK, Qae, Qaj, Qa7, Qa2, Fam.step, Qaf, Qcf, Qay, Qb6, Qat, ug, nv, Qc8, evO, opv, qv, binV, lenV, slxV, Qap, Qas, putAt, Qb7, Qb4, V.cells, Qav, Qbm, Qab, Qa5, flat, kp, cutV, cutL, Qa1, Qa0, Qa3, ↓reduceIte, Nat.reduceEqDiff, Nat.reduceAdd, Nat.reduceMul, Nat.reduceLT, Nat.reduceLeDiff, Qb, Qc, Qt, Qv, Qe, Qf, Qk, Zr, Qh, Q7, Qm, Qp, Qn, Qd, Q9, Zg, rvs, rv1, vw_i, Qam, Q1, beq_self_eq_true, Qg, Qs, Q2, Qj, Q4, Qa, Qx, decide_true, decide_false, true_and, and_self, forall_const, implies_true, reduceCtorEq, not_false_eq_true, ne_eq, Qi, Q3, Z3, Qa4]
     rintro v hp' ⟨rfl, rfl⟩
     have hnc := Qce (L ++ Qcg s r (F ++ [(i : Int)]))
     simp only [outH, hi1, Qar _ _ _ hnc, Zc, Q6, Qai, cutV, cutL, cutB, ↓reduceIte, Nat.reduceLT, Qb, Qc, Qh, Q7, Qm, Qp, Qn, Qu, Qa, and_self, forall_const, false_implies]
   ·have hlt : ¬ ((s.guests.toNat : Int) < s.guests) := by omega
    have hnc := Qce (l ++ Qcg s (r + 1) F)
    simp only [outH, hlt, Qp4, R76, Qar _ _ _ hnc, Qa9, Qa8, Qac, Qb1, Qah, Qa6, endK, Qae, Qaj, Qa7, Qa2, Fam.step, Qaf, evO, opv, qv, binV, cutV, cutL, cutB, Qa1, Qa0, Qa3, ↓reduceIte, Nat.reduceEqDiff, Nat.reduceLT, Qb, Qc, Qh, Qm, Qd, rvs, rv1, Qa, decide_false, and_self, reduceCtorEq, Qa4]
end Go.C10
set_option linter.unusedSimpArgs false
set_option linter.unusedVariables false
namespace Go.C10
open Go.Fam Go.Proofs
variable {Γ : Gam}
theorem Qw4 (k : Nat) : GOk Try.prog (G76 k) := Qw3 fun x hx => Qvx (fun x h1 h2 => W76 k x h1 h2) x hx
def Qaa (s : Stand) : List (List Int) := Qcg s s.guests.toNat []
theorem Qej {s : Stand} (h : OkS s) : (Qaa s).length ≤ 823543 := by
 have h1 : (Qaa s).length ≤ (extN s.guests s.guests.toNat []).length := Zj _ _
 have h2 := Qk2 s.guests s.guests.toNat []
 have hg := h.guests
 obtain ⟨k, hk⟩ : ∃ k, k = s.guests.toNat := ⟨_, rfl⟩
 rw [← hk] at h2
 have hk7 : k ≤ 7 := by omega
 have : k ^ k ≤ 823543 := by
  match k, hk7 with
  | 0, _ => decide
  | 1, _ => decide
  | 2, _ => decide
  | 3, _ => decide
  | 4, _ => decide
  | 5, _ => decide
  | 6, _ => decide
  | 7, _ => decide
 rw [← hk] at h1
 omega
theorem W50 (s : Stand) (h : OkS s) : Qal Try.prog 50 [.ag (Qa4 s)] (.sl 1 ((Qaa s).map eCan)) := by
 refine Qak (Qw4 s.guests.toNat) hmix Try.func50 cb50 cc50 cs50 cn50 ?_
 have hg := h.guests
 have g1 := q76 s.guests.toNat ⟨[], s, [], false⟩
 have hC : C76 s.guests.toNat ⟨[], s, [], false⟩ := by
  refine ⟨h, ?_, ?_, fun h => (by cases h)⟩
  ·show ((0 : Nat) : Int) + s.guests.toNat = s.guests; omega
  ·show 0 + s.guests.toNat ^ s.guests.toNat ≤ 1000000
   obtain ⟨k, hk⟩ : ∃ k, k = s.guests.toNat := ⟨_, rfl⟩
   rw [← hk]
   have hk7 : k ≤ 7 := by omega
   match k, hk7 with
   | 0, _ => decide
   | 1, _ => decide
   | 2, _ => decide
   | 3, _ => decide
   | 4, _ => decide
   | 5, _ => decide
   | 6, _ => decide
   | 7, _ => decide
 simp only [eA76, eH76, outH, if_false, Qa, Qd, eT, Qa4, Qf, Qc, Ze] at g1
 simp only [rc50, rs50, g1, hC, Qa9, Qa8, Qah, Qa6, Qmu, Qo4, Qae, Qa7, Qa2, Fam.step, Qaf, Qcf, Qb6, nv, evO, opv, qv, ldV, V.cells, Qav, Qab, Qa5, Qa1, Qa0, Qa3, ↓reduceIte, Nat.reduceEqDiff, Nat.reduceAdd, Nat.reduceLeDiff, Qb, Qc, Qe, Qf, Qq, Ql, Qp, Qn, Qd, Q5, Zh, endQ, rvs, rv1, resV, vw_i, Qam, Qau, zipA, Qg, Nat.add_zero, Qj, Qa, true_and, and_self, Qa4]
 rintro v hp' ⟨rfl, rfl⟩
 have e : ([] : List (List Int)) ++ Qcg s s.guests.toNat [] = Qaa s := rfl
 simp only [e]
 simp only [outH, Qhr, Zy, Z1, Qh1, vw_C, ↓reduceIte, Qe, Qf, Ql, Qd, Q5, Zd, Qe8, Qg, Qa, and_self]
def e50 (a : Stand) : List V := [.ag (Qa4 a)]
def d50 : List V → Stand | [.ag x0] => (Qb2 x0) | _ => (Qb2 [])
theorem Qxx (a : Stand) : d50 (e50 a) = a := by simp [d50, e50, Qbc]
noncomputable def HD1 : Gam := HC1.ext 50 (fnG e50 d50 (fun a => (fun (s : Stand) => OkS s) a) (fun a => (fun (s : Stand) => Qaa s) a) (fun l => .sl 1 (l.map eCan)))
theorem Qtw : GOk Try.prog HD1 := Qtv.ext (f := 50) (fun a w => Try.call50 a w) (Qb9 (e := e50) (d := d50) (ok := (fun a => (fun (s : Stand) => OkS s) a)) (g := (fun a => (fun (s : Stand) => Qaa s) a)) (eb := (fun l => .sl 1 (l.map eCan))) fun a h => W50 a h)
theorem h50 (s : Stand) : HD1 50 [.ag (Qa4 s)] = (OkS s, ((fun l => .sl 1 (l.map eCan))) (Qaa s)) :=
 (show HD1 50 _ = fnG e50 d50 (fun a => (fun (s : Stand) => OkS s) a) (fun a => (fun (s : Stand) => Qaa s) a) (fun l => .sl 1 (l.map eCan)) (e50 (s)) from rfl).trans (Qb5 _ (Qxx _))
theorem Qum (s : Stand)  : HD1 44 [.ag (Qa4 s)] = (Qaq s, .i (Qaw s)) := h44 s
theorem Qun (s : Stand) (n : Int)  : HD1 83 [.ag (Qa4 s), .i n] = (OkG s.guests, .b (Qao s.guests n)) := h83 s n
theorem Qdj {s : Stand} (h : Qaw s = 0) (hs : ∀ w ∈ s.words, w.among.length ≤ 1000000) : OkS s := by
 unfold Qaw at h
 split at h
 ·cases h
 ·rename_i h1
  split at h
  ·cases h
  ·rename_i h2
   simp only [Z7, not_or, Zs] at h1
   simp only [not_or, Z3, List.any_eq_false, Bool.not_eq_eq_eq_not, Qu, Zs] at h2
   unfold Qaz at h1
   simp only [Zv, decide_eq_true_eq] at h1
   exact ⟨h1.1, h1.2, by omega, fun w hw => by simpa using h2.2 w hw, hs⟩
def Qdn (s : Stand) : Int × Int := if Qaw s = 0 then ((Qaa s).length, 0) else (0, Qaw s)
theorem W16 (s : Stand) (h : Qaq s) : Qal Try.prog 16 [.ag (Qa4 s)] (.tp [.i (Qdn s).1, .i (Qdn s).2]) := by
 refine Qak Qtw hmix Try.func16 cb16 cc16 cs16 cn16 ?_
 have g1 := Qum s
 have g2 := h50 s
 simp only [Qa4] at g1 g2
 by_cases hc : Qaw s = 0
 ·have hS := Qdj hc h
  simp only [rc16, rs16, g1, h, hc, g2, hS, Qdn, Qag, Qa9, Qa8, Qac, Qah, Qa6, Qae, Qa7, Qa2, Fam.step, Qaf, evO, opv, qv, binV, ldV, lenV, Qap, V.cells, Qav, Qab, Qa5, flat, Qa1, Qa0, Qa3, ↓reduceIte, Nat.reduceEqDiff, Nat.reduceAdd, Nat.reduceLT, Nat.reduceLeDiff, Qb, Qc, Qe, Qf, Qh, Qm, Qd, Za, endQ, rvs, rv1, resV, vw_i, Qam, Qau, Qd5, zipA, Qg, Qj, Qu, Qa, decide_true, and_self, implies_true, imp_self, Qi, Qa4]
 ·simp only [rc16, rs16, g1, h, hc, Qdn, Qa9, Qa8, Qac, Qah, Qa6, Qae, Qa7, Qa2, Fam.step, Qaf, evO, opv, qv, binV, ldV, Qap, V.cells, Qav, Qab, Qa5, flat, Qa1, Qa0, Qa3, ↓reduceIte, Nat.reduceEqDiff, Nat.reduceAdd, Nat.reduceLT, Nat.reduceLeDiff, Qb, Qc, Qe, Qf, Qh, Qm, Qd, Za, endQ, rvs, rv1, resV, vw_i, Qam, Qau, Qd5, zipA, Qg, Qj, Q4, Qa, decide_false, and_self, implies_true, Qa4]
theorem W82 (n : Int) (s : Stand) (h : OkG s.guests) : Qal Try.prog 82 [.i n, .pa (Qa4 s)] (.b (!Qao s.guests n)) := by
 refine Qak Qtw hmix Try.func82 cb82 cc82 cs82 cn82 ?_
 have g1 := Qun s n
 simp only [Qa4] at g1
 simp only [rc82, rs82, g1, h, Qa9, Qa8, Qah, Qa6, Qae, Qa7, Qa2, Fam.step, Qaf, evO, opv, qv, ldV, Qap, Qab, Qa5, flat, Qa1, Qa0, Qa3, ↓reduceIte, Nat.reduceEqDiff, Nat.reduceAdd, Nat.reduceLT, Nat.reduceLeDiff, Qb, Qc, Qe, Qf, Qh, Qm, Qd, endQ, rvs, rv1, resV, vw_i, vw_b, Qam, Qau, zipA, Qg, Qj, Qa, and_self, implies_true, reduceCtorEq, Qa4]
def e82 (a : Int × Stand) : List V := [.i a.1, .pa (Qa4 a.2)]
def d82 : List V → Int × Stand | [.i w, .pa s] => (w, Qb2 s) | _ => (0, Qb2 [])
theorem Qyf (a : Int × Stand) : d82 (e82 a) = a := by simp [d82, e82, Qbc]
noncomputable def HD2 : Gam := HD1.ext 82 (fnG e82 d82 (fun a => OkG a.2.guests) (fun a => !Qao a.2.guests a.1) .b)
theorem Qwb : GOk Try.prog HD2 := Qtw.ext (f := 82) (fun a w => Try.call82 a w) (Qb9 (e := e82) (d := d82) (ok := fun a => OkG a.2.guests) (g := fun a => !Qao a.2.guests a.1) (eb := .b) fun a h => W82 a.1 a.2 h)
theorem h82 (n : Int) (s : Stand) : HD2 82 [.i n, .pa (Qa4 s)] = (OkG s.guests, .b (!Qao s.guests n)) :=
 (show HD2 82 _ = fnG e82 d82 (fun a => OkG a.2.guests) (fun a => !Qao a.2.guests a.1) .b (e82 (n, s)) from rfl).trans (Qb5 _ (Qyf _))
theorem W90 (l : List Int) (s : Stand) (h : OkG s.guests ∧ l.length ≤ 1000000) : Qal Try.prog 90 [.sl 1 (l.map eI), .fn 82 [.pa (Qa4 s)]] (.i (idxOf (fun n => !Qao s.guests n) l)) := by
 refine Qak Qwb hmix Try.func90 cb90 cc90 cs90 cn90 ?_
 obtain ⟨hg, hl⟩ := h
 simp only [rc90, rs90, Qa9, Qa8, Qad, Qa6, Qae, Qa7, Qa2, Fam.step, Qaf, evO, opv, qv, lenV, Qa1, Qa0, Qa3, ↓reduceIte, Nat.reduceEqDiff, Int.reduceNeg, Qb, Qc, zipA, Qg, true_and, reduceCtorEq, Qi, Qa4]
 refine Qbs l.length (fun i => ⟨lkp [(0, .sl 1 (l.map eI)), (1, .fn 82 [.pa (Qa4 s)]), (7, .i l.length), (8, .i i)], []⟩) (fun i => ∀ j x, j < i → l[j]? = some x → (!Qao s.guests x) = false) ?_ ?_ ?_ ?_
 ·simp only [Q8, kp, Qa0, Qa3, ↓reduceIte, Nat.reduceEqDiff, Qb, Qc, reduceCtorEq, Qa4]
 ·intro j x h; omega
 ·intro i hi hc
  obtain ⟨x, hx⟩ : ∃ x, l[i]? = some x := ⟨_, Qr hi⟩
  have hlt : (i : Int) < l.length := by omega
  have h3 : inI ((i : Int) + 1) := by unfold inI; omega
  have hp := h82 x s
  simp only [Qa4] at hp
  simp only [hx, hlt, Zc, Q6, h3, hp, hg, Qag, Qa9, Qa8, Qac, Qj9, Qad, Qah, Qa6, Qae, Qaj, Qa7, Qa2, Fam.step, Qaf, evO, opv, qv, binV, ldV, iadV, Qap, Qab, Qa5, flat, kp, Qa1, Qa0, Qa3, ↓reduceIte, Nat.reduceEqDiff, Nat.reduceLT, Nat.reduceLeDiff, Int.reduceNeg, Qb, Qc, Qe, Qf, Ql, Qp, Qn, Qz, endQ, rvs, rv1, resV, vw_i, Qhu, Q1, Qg, V.i.injEq, Qj, Qa, decide_true, true_and, and_true, and_self, implies_true, reduceCtorEq, Qy, Xf, Xh, Qi, Q3, Qo, Qw, Zs, Qa4, eI]
  refine ⟨fun e => ?_, fun e => ?_⟩
  ·rw [Qgg hx (by simp [e]) hc]
  ·intro j y hj hy
   by_cases hji : j < i
   ·simpa using hc j y hji hy
   ·have : j = i := by omega
    subst this
    rw [hx] at hy; cases hy; simpa using e
 ·intro hc
  simp only [Qa9, Qa8, Qac, Qb1, Qah, Qa6, Qae, Qaj, Qa7, Qa2, Fam.step, Qaf, evO, opv, qv, binV, Qa1, Qa0, Qa3, ↓reduceIte, Nat.reduceEqDiff, Int.reduceNeg, Qb, Qc, endQ, rvs, rv1, resV, vw_i, Zi, V.i.injEq, Qa, decide_false, true_and, and_self, reduceCtorEq, Qa4]
  exact (Qdu fun x hx => by
   obtain ⟨j, hj⟩ := Zl hx
   exact hc j x (by have := Qan hj; exact this) hj).symm
def e90 (a : List Int × Stand) : List V := [.sl 1 (a.1.map eI), .fn 82 [.pa (Qa4 a.2)]]
def d90 : List V → List Int × Stand | [.sl _ l, .fn _ [.pa s]] => (l.map dI, Qb2 s) | _ => ([], Qb2 [])
theorem Qvs (a : List Int × Stand) : d90 (e90 a) = a := by simp [d90, e90, Function.comp_def, Qd8, Qbc]
noncomputable def HD3 : Gam := HD2.ext 90 (fnG e90 d90 (fun a => OkG a.2.guests ∧ a.1.length ≤ 1000000) (fun a => idxOf (fun n => !Qao a.2.guests n) a.1) .i)
theorem Qwc : GOk Try.prog HD3 := Qwb.ext (f := 90) (fun a w => Try.call90 a w) (Qb9 (e := e90) (d := d90) (ok := fun a => OkG a.2.guests ∧ a.1.length ≤ 1000000) (g := fun a => idxOf (fun n => !Qao a.2.guests n) a.1) (eb := .i) fun a h => W90 a.1 a.2 h)
theorem h90 (l : List Int) (s : Stand) : HD3 90 [.sl 1 (l.map eI), .fn 82 [.pa (Qa4 s)]] = (OkG s.guests ∧ l.length ≤ 1000000, .i (idxOf (fun n => !Qao s.guests n) l)) :=
 (show HD3 90 _ = fnG e90 d90 (fun a => OkG a.2.guests ∧ a.1.length ≤ 1000000) (fun a => idxOf (fun n => !Qao a.2.guests n) a.1) .i (e90 (l, s)) from rfl).trans (Qb5 _ (Qvs _))
theorem W81 (l : List Int) (s : Stand) (h : OkG s.guests ∧ l.length ≤ 1000000) : Qal Try.prog 81 [.sl 1 (l.map eI), .fn 82 [.pa (Qa4 s)]] (.b (l.any fun n => !Qao s.guests n)) := by
 refine Qak Qwc hmix Try.func81 cb81 cc81 cs81 cn81 ?_
 have g1 := h90 l s
 simp only [Qa4] at g1
 simp only [rc81, rs81, g1, Qa9, Qa8, Qah, Qa6, Qae, Qa7, Qa2, Fam.step, Qaf, evO, opv, qv, binV, Qap, Qab, Qa5, flat, Qa1, Qa0, Qa3, ↓reduceIte, Nat.reduceEqDiff, Nat.reduceLT, Qb, Qc, Qd, endQ, rvs, rv1, resV, vw_b, Qam, Qhu, Qj5, zipA, Qg, V.b.injEq, Qj, Qa, true_and, and_true, and_self, implies_true, reduceCtorEq, Qa4]
 exact ⟨h, by rw [Qex]⟩
noncomputable def HD4 : Gam := HD3.ext 81 (fnG e90 d90 (fun a => OkG a.2.guests ∧ a.1.length ≤ 1000000) (fun a => a.1.any fun n => !Qao a.2.guests n) .b)
theorem Qyn : GOk Try.prog HD4 := Qwc.ext (f := 81) (fun a w => Try.call81 a w) (Qb9 (e := e90) (d := d90) (ok := fun a => OkG a.2.guests ∧ a.1.length ≤ 1000000) (g := fun a => a.1.any fun n => !Qao a.2.guests n) (eb := .b) fun a h => W81 a.1 a.2 h)
theorem h81 (l : List Int) (s : Stand) : HD4 81 [.sl 1 (l.map eI), .fn 82 [.pa (Qa4 s)]] = (OkG s.guests ∧ l.length ≤ 1000000, .b (l.any fun n => !Qao s.guests n)) :=
 (show HD4 81 _ = fnG e90 d90 (fun a => OkG a.2.guests ∧ a.1.length ≤ 1000000) (fun a => a.1.any fun n => !Qao a.2.guests n) .b (e90 (l, s)) from rfl).trans (Qb5 _ (Qvs _))
def e16 (a : Stand) : List V := [.ag (Qa4 a)]
def d16 : List V → Stand | [.ag x0] => (Qb2 x0) | _ => (Qb2 [])
theorem Qxg (a : Stand) : d16 (e16 a) = a := by simp [d16, e16, Qbc]
noncomputable def HD5 : Gam := HD4.ext 16 (fnG e16 d16 (fun a => (fun (s : Stand) => Qaq s) a) (fun a => (fun (s : Stand) => Qdn s) a) (fun r => .tp [.i r.1, .i r.2]))
theorem Qwd : GOk Try.prog HD5 := Qyn.ext (f := 16) (fun a w => Try.call16 a w) (Qb9 (e := e16) (d := d16) (ok := (fun a => (fun (s : Stand) => Qaq s) a)) (g := (fun a => (fun (s : Stand) => Qdn s) a)) (eb := (fun r => .tp [.i r.1, .i r.2])) fun a h => W16 a h)
theorem h16 (s : Stand) : HD5 16 [.ag (Qa4 s)] = (Qaq s, ((fun r => .tp [.i r.1, .i r.2])) (Qdn s)) :=
 (show HD5 16 _ = fnG e16 d16 (fun a => (fun (s : Stand) => Qaq s) a) (fun a => (fun (s : Stand) => Qdn s) a) (fun r => .tp [.i r.1, .i r.2]) (e16 (s)) from rfl).trans (Qb5 _ (Qxg _))
theorem Quo (s : Stand)  : HD5 44 [.ag (Qa4 s)] = (Qaq s, .i (Qaw s)) := h44 s
theorem Qup (s : Stand)  : HD5 50 [.ag (Qa4 s)] = (OkS s, ((fun l => .sl 1 (l.map eCan))) (Qaa s)) := h50 s
def Qbr (s : Stand) (gs : List Int) : List (List Int) × Int :=
 if Qaw s ≠ 0 then ([], Qaw s) else if (gs.any fun n => !Qao s.guests n) = true then ([], 1) else if Qaa s = [] then ([], 3) else (Qaa s, 0)
theorem W66 (s : Stand) (gs : List Int) (h : Qaq s ∧ gs.length ≤ 1000000) : Qal Try.prog 66 [.ag (Qa4 s), .sl 1 (gs.map eI)] (.tp [.sl 1 ((Qbr s gs).1.map eCan), .i (Qbr s gs).2]) := by
 refine Qak Qwd hmix Try.func66 cb66 cc66 cs66 cn66 ?_
 obtain ⟨h, hl⟩ := h
 have g1 := Quo s
 have g2 := Qup s
 have g3 := h81 gs s
 have g3 : HD5 81 _ = _ := g3
 simp only [Qa4] at g1 g2 g3
 by_cases hc : Qaw s = 0
 ·have hS := Qdj hc h
  have hG : OkG s.guests := hS.guests
  have hlen := Qej hS
  by_cases ha : (gs.any fun n => !Qao s.guests n) = true
  ·simp only [rc66, rs66, g1, h, hc, g3, hG, hl, ha, Qbr, Qag, Qa9, Qa8, Qac, Qah, Qa6, Qae, Qa7, Qa2, Fam.step, Qaf, evO, opv, qv, binV, ldV, Qap, V.cells, Qav, Qab, Qa5, flat, Qa1, Qa0, Qa3, ↓reduceIte, Nat.reduceEqDiff, Nat.reduceAdd, Nat.reduceLT, Nat.reduceLeDiff, Qb, Qc, Qe, Qf, Qh, Qm, Qd, Za, endQ, rvs, rv1, resV, vw_i, vw_z, Qam, Qhu, Qau, Qd5, Qj5, zipA, Qg, Qj, Qu, Qa, decide_true, and_self, implies_true, reduceCtorEq, not_true_eq_false, ne_eq, Qa4]
  ·by_cases ht : Qaa s = []
   ·simp only [rc66, rs66, g1, h, hc, g2, hS, g3, hG, hl, ha, Qbr, ht, Q8, Qag, Qa9, Qa8, Qac, Qah, Qa6, Qae, Qa7, Qa2, Fam.step, Qaf, evO, opv, qv, binV, ldV, lenV, Qap, V.cells, Qav, Qab, Qa5, flat, Qa1, Qa0, Qa3, ↓reduceIte, Nat.reduceEqDiff, Nat.reduceAdd, Nat.reduceLT, Nat.reduceLeDiff, Qb, Qc, Qe, Qf, Qh, Qm, Qd, Za, endQ, rvs, rv1, resV, vw_i, vw_z, Qam, Qhu, Qau, Qd5, Qj5, zipA, Qg, Qj, Qu, Qa, decide_true, and_self, implies_true, reduceCtorEq, not_true_eq_false, ne_eq, imp_self, Qa4]
   ·have hn : ¬ ((Qaa s).length : Int) = 0 := by
     have := List.length_pos_iff.2 ht; omega
    simp only [rc66, rs66, g1, h, hc, g2, hS, g3, hG, hl, ha, Qbr, ht, hn, Qag, Qa9, Qa8, Qac, Qah, Qa6, Qae, Qa7, Qa2, Fam.step, Qaf, evO, opv, qv, binV, ldV, lenV, Qap, V.cells, Qav, Qab, Qa5, flat, Qa1, Qa0, Qa3, ↓reduceIte, Nat.reduceEqDiff, Nat.reduceAdd, Nat.reduceLT, Nat.reduceLeDiff, Qb, Qc, Qe, Qf, Qh, Qm, Qd, Za, endQ, rvs, rv1, resV, vw_i, Qam, Qhu, Qau, Qd5, Qj5, zipA, Qg, Qj, Qu, Qa, decide_true, decide_false, and_self, implies_true, reduceCtorEq, not_true_eq_false, ne_eq, imp_self, Qi, Qa4]
 ·simp only [rc66, rs66, g1, h, hc, Qbr, Qa9, Qa8, Qac, Qah, Qa6, Qae, Qa7, Qa2, Fam.step, Qaf, evO, opv, qv, binV, ldV, Qap, V.cells, Qav, Qab, Qa5, flat, Qa1, Qa0, Qa3, ↓reduceIte, Nat.reduceEqDiff, Nat.reduceAdd, Nat.reduceLT, Nat.reduceLeDiff, Qb, Qc, Qe, Qf, Qh, Qm, Qd, Za, endQ, rvs, rv1, resV, vw_i, vw_z, Qam, Qau, Qd5, zipA, Qg, Qj, Q4, Qa, decide_false, and_self, implies_true, reduceCtorEq, not_false_eq_true, ne_eq, Qa4]
def e66 (a : Stand × List Int) : List V := [.ag (Qa4 a.1), .sl 1 (a.2.map eI)]
def d66 : List V → Stand × List Int | [.ag x0, .sl _ x1] => (Qb2 x0, x1.map dI) | _ => (Qb2 [], [])
theorem Qy8 (a : Stand × List Int) : d66 (e66 a) = a := by simp [d66, e66, Qbc, Function.comp_def, Qd8]
noncomputable def HD6 : Gam := HD5.ext 66 (fnG e66 d66 (fun a => (fun (s : Stand) (gs : List Int) => Qaq s ∧ gs.length ≤ 1000000) a.1 a.2) (fun a => (fun (s : Stand) (gs : List Int) => Qbr s gs) a.1 a.2) (fun r => .tp [.sl 1 (r.1.map eCan), .i r.2]))
theorem Qyo : GOk Try.prog HD6 := Qwd.ext (f := 66) (fun a w => Try.call66 a w) (Qb9 (e := e66) (d := d66) (ok := (fun a => (fun (s : Stand) (gs : List Int) => Qaq s ∧ gs.length ≤ 1000000) a.1 a.2)) (g := (fun a => (fun (s : Stand) (gs : List Int) => Qbr s gs) a.1 a.2)) (eb := (fun r => .tp [.sl 1 (r.1.map eCan), .i r.2])) fun a h => W66 a.1 a.2 h)
theorem h66 (s : Stand) (gs : List Int) : HD6 66 [.ag (Qa4 s), .sl 1 (gs.map eI)] = (Qaq s ∧ gs.length ≤ 1000000, ((fun r => .tp [.sl 1 (r.1.map eCan), .i r.2])) (Qbr s gs)) :=
 (show HD6 66 _ = fnG e66 d66 (fun a => (fun (s : Stand) (gs : List Int) => Qaq s ∧ gs.length ≤ 1000000) a.1 a.2) (fun a => (fun (s : Stand) (gs : List Int) => Qbr s gs) a.1 a.2) (fun r => .tp [.sl 1 (r.1.map eCan), .i r.2]) (e66 (s, gs)) from rfl).trans (Qb5 _ (Qy8 _))
end Go.C10
namespace Go.Proofs
open Go.Shelf
def Try.lays189_ren : Go.Shelf.Ren := ⟨fun | 189 => 84 | 125 => 92 | 257 => 91 | 128 => 103 | 129 => 104 | 294 => 94 | 295 => 95 | 296 => 96 | 297 => 97 | 298 => 98 | 299 => 99 | 216 => 100 | 300 => 101 | 301 => 102 | 328 => 105 | 329 => 106 | 330 => 107 | 331 => 108 | 332 => 109 | 215 => 110 | 343 => 111 | n => n, fun | 28 => 30 | 3 => 3 | 46 => 103 | 0 => 0 | 51 => 114 | 53 => 116 | 4 => 4 | 183 => 107 | 182 => 106 | 131 => 88 | 5 => 5 | 9 => 9 | 218 => 117 | 222 => 121 | 228 => 123 | 229 => 124 | n => n, fun | n => n⟩
theorem Try.lays189 : Go.Proofs.Lays.n189 Try.prog Try.lays189_ren := {
 mixed := by kernel_rfl
 f125 := Try.func92.trans (congrArg some (by kernel_rfl))
 f128 := Try.func103.trans (congrArg some (by kernel_rfl))
 f129 := Try.func104.trans (congrArg some (by kernel_rfl))
 f189 := Try.func84.trans (congrArg some (by kernel_rfl))
 f215 := Try.func110.trans (congrArg some (by kernel_rfl))
 f216 := Try.func100.trans (congrArg some (by kernel_rfl))
 f257 := Try.func91.trans (congrArg some (by kernel_rfl))
 f294 := Try.func94.trans (congrArg some (by kernel_rfl))
 f295 := Try.func95.trans (congrArg some (by kernel_rfl))
 f296 := Try.func96.trans (congrArg some (by kernel_rfl))
 f297 := Try.func97.trans (congrArg some (by kernel_rfl))
 f298 := Try.func98.trans (congrArg some (by kernel_rfl))
 f299 := Try.func99.trans (congrArg some (by kernel_rfl))
 f300 := Try.func101.trans (congrArg some (by kernel_rfl))
 f301 := Try.func102.trans (congrArg some (by kernel_rfl))
 f328 := Try.func105.trans (congrArg some (by kernel_rfl))
 f329 := Try.func106.trans (congrArg some (by kernel_rfl))
 f330 := Try.func107.trans (congrArg some (by kernel_rfl))
 f331 := Try.func108.trans (congrArg some (by kernel_rfl))
 f332 := Try.func109.trans (congrArg some (by kernel_rfl))
 f343 := Try.func111.trans (congrArg some (by kernel_rfl))
 t0 := Try.underlying0
 a0 := Try.isAgg0
 z0 := Try.sizeOf0
 v0 := Try.zeroValue0
 t3 := Try.underlying3
 a3 := Try.isAgg3
 z3 := Try.sizeOf3
 v3 := Try.zeroValue3
 t4 := Try.underlying4
 a4 := Try.isAgg4
 z4 := Try.sizeOf4
 v4 := Try.zeroValue4
 t5 := Try.underlying5
 a5 := Try.isAgg5
 z5 := Try.sizeOf5
 v5 := Try.zeroValue5
 t9 := Try.underlying9
 a9 := Try.isAgg9
 z9 := Try.sizeOf9
 v9 := Try.zeroValue9
 t28 := Try.underlying30
 a28 := Try.isAgg30
 z28 := Try.sizeOf30
 v28 := Try.zeroValue30
 t46 := Try.underlying103
 a46 := Try.isAgg103
 z46 := Try.sizeOf103
 v46 := Try.zeroValue103
 t51 := Try.underlying114
 a51 := Try.isAgg114
 z51 := Try.sizeOf114
 v51 := Try.zeroValue114
 t53 := Try.underlying116
 a53 := Try.isAgg116
 z53 := Try.sizeOf116
 v53 := Try.zeroValue116
 t131 := Try.underlying88
 a131 := Try.isAgg88
 z131 := Try.sizeOf88
 v131 := Try.zeroValue88
 t182 := Try.underlying106
 a182 := Try.isAgg106
 z182 := Try.sizeOf106
 v182 := Try.zeroValue106
 t183 := Try.underlying107
 a183 := Try.isAgg107
 z183 := Try.sizeOf107
 v183 := Try.zeroValue107
 t218 := Try.underlying117
 a218 := Try.isAgg117
 z218 := Try.sizeOf117
 v218 := Try.zeroValue117
 t222 := Try.underlying121
 a222 := Try.isAgg121
 z222 := Try.sizeOf121
 v222 := Try.zeroValue121
 t228 := Try.underlying123
 a228 := Try.isAgg123
 z228 := Try.sizeOf123
 v228 := Try.zeroValue123
 t229 := Try.underlying124
 a229 := Try.isAgg124
 z229 := Try.sizeOf124
 v229 := Try.zeroValue124 }
open Go.Sort Go.RowKit in
theorem Try.slices_Sort_int (blk off cap : Nat) (zs : List Int) (w : World) (hH : Holds (Value.int .i64) w blk off zs.toArray) (hblk : blk < w.heap.size) (hsz : zs.length < 4611686018427387904) :
  Calls Try.prog 84 #[.slice (some ⟨blk, off, none⟩) zs.length cap] w fun e w' =>
   e = .returned (.tuple #[]) ∧ ∃ n os, w' = grow (putRow (Value.int .i64) (Sort.ahead w n) blk off (zs.mergeSort fun x y => decide (x ≤ y)).toArray) os := Any.slices_Sort_int Try.lays189 blk off cap zs w hH hblk hsz
def Try.laysNm220_ren : Go.Shelf.Ren := ⟨fun | 20 => 85 | n => n, fun | 22 => 30 | 3 => 3 | 4 => 4 | 0 => 0 | n => n, fun | n => n⟩
theorem Try.laysNm220 : Go.Proofs.Lays2.n20 Try.prog Try.laysNm220_ren := {
 mixed := by kernel_rfl
 f20 := Try.func85.trans (congrArg some (by kernel_rfl))
 t0 := Try.underlying0
 a0 := Try.isAgg0
 z0 := Try.sizeOf0
 v0 := Try.zeroValue0
 t3 := Try.underlying3
 a3 := Try.isAgg3
 z3 := Try.sizeOf3
 v3 := Try.zeroValue3
 t4 := Try.underlying4
 a4 := Try.isAgg4
 z4 := Try.sizeOf4
 v4 := Try.zeroValue4
 t22 := Try.underlying30
 a22 := Try.isAgg30
 z22 := Try.sizeOf30
 v22 := Try.zeroValue30
 i3 := by kernel_rfl }
open Go.RowKit Go.Lib Go.Sort in
theorem Try.slices_Compact_int (blk off cap : Nat) (zs : List Int) (w : World) (hH : Holds (Value.int .i64) w blk off zs.toArray) (hsz : zs.length ≤ 9223372036854775807) (hcap : zs.length ≤ cap) :
  Calls Try.prog 85 #[.slice (some ⟨blk, off, none⟩) zs.length cap] w fun e w' => e = .returned (.slice (some ⟨blk, off, none⟩) (Lib.compact zs).length cap) ∧ ∃ q, w' = putRow (Value.int .i64) (Sort.ahead w q) blk off (Lib.compact zs ++ Xd (zs.length - (Lib.compact zs).length) 0).toArray := Any.slices_Compact_int Try.laysNm220 blk off cap zs w hH hsz hcap
end Go.Proofs
set_option maxRecDepth 8000
namespace Go.C10
open Go.Fam Go.Proofs
def rc67 : RC := (.seq (.reg false [(cQ 4 [] (.mv (.k (.z 1))))]) (.keep [0,1] (.seq (.reg false [(cQ 5 [] (.mv (.k (.z 1))))]) (.keep [0,1,5] (.seq (.seq (.reg false [(cMv 8 0), (cLn 9 8), (cI 10 0)]) (.keep [1,5,8,9,10] (.block 0 (.own 5 1 (.loop [1,5,8,9,10] none (.seq (.reg false [(cB 11 .lss 10 9)]) (.keep [1,5,8,9,10,11] (.seq (.cond (.t 11) .skip (.exit 0)) (.keep [1,5,8,9,10] (.seq (.block 1 (.seq (.reg false [(cA 12 1 8 10), (cLd 13 12 false 1), (cMv 7 13)]) (.keep [1,5,7,8,9,10] (.reg false [(cMv 14 5), (cMv 15 7), (cMv 16 1), (cA 17 1 15 16), (cLd 18 17 false 1), (cQ 19 [18] (.bsl 1 1 [(.i 0)] [(0,1, (.t 18))])), ⟨(some 20), none, [14,19], none, .w (.app 1 (.t 14) (.t 19))⟩, (cMv 5 20)])))) (.keep [1,5,8,9,10] (.reg false [(cC 21 .add 10 1), (cMv 10 21)])))))))))))) (.keep [5] (.seq (.hcl false [(cMv 22 5)] ⟨(some 23), none, [22], none, .o (kF 84) [(.t 22)]⟩ []) (.keep [5] (.seq (.hcl false [(cMv 24 5)] ⟨(some 25), none, [24], none, .o (kF 85) [(.t 24)]⟩ [(cMv 4 25)]) .ret)))))))))
def pu67 : List Nat := [19]
def rs67 : List RV := [.t 4]
theorem cc67 : CCx Try.prog Try.f67 pu67 rc67 := by unfold CCx; kernel_rfl
theorem cb67 : CBx Try.f67 := by unfold CBx; kernel_rfl
theorem cs67 : CSx Try.prog Try.f67 rs67 := by unfold CSx; kernel_rfl
theorem cn67 : 2 ≤ Try.f67.ntmps := by decide
def rc41 : RC := (.seq (.reg false [(cX 1 0), (cQ 2 [] (.mv (.k (.z 1)))), (cI 3 0)]) (.keep [1] (.seq (.reg false [(cLd 10 1 true 3), (cQ 11 [10] (.call (kF 66) [(.t 10), (.k (.z 1))])), (cMv 9 11), (cEx 12 9 0), (cEx 13 9 1), (cMv 4 12), (cMv 5 13)]) (.keep [1,4,5] (.seq (.seq (.reg false [(cMv 14 5), (cC 15 .neq 14 0)]) (.keep [1,4,5,15] (.cond (.t 15) (.seq (.reg false [(cMv 16 5), (cQ 2 [] (.mv (.k (.z 1)))), (cMv 3 16)]) .ret) .skip))) (.keep [1,4] (.seq (.reg false [(cQ 6 [] (.mv (.k (.z 1))))]) (.keep [1,4,6] (.seq (.seq (.reg false [(cFa 17 1 0), (cLd 18 17 false 1), (cI 19 0)]) (.keep [4,6,18,19] (.block 0 (.own 6 1 (.loop [4,6,18,19] (some 1) (.seq (.reg false [(cB 20 .lss 19 18)]) (.keep [4,6,18,19,20] (.seq (.cond (.t 20) .skip (.exit 0)) (.keep [4,6,18,19] (.seq (.block 1 (.seq (.reg false [(cMv 21 19), (cMv 7 21)]) (.keep [4,6,7,18,19] (.seq (.reg false [(cMv 22 4), (cMv 23 7), ⟨(some 24), none, [22,23], none, .o (kF 67) [(.t 22), (.t 23)]⟩, (cMv 8 24)]) (.keep [4,6,8,18,19] (.seq (.seq (.reg false [(cMv 25 8), (cLn 26 25), (cC 27 .gtr 26 1)]) (.keep [4,6,8,18,19,27] (.cond (.t 27) (.reg false [(cMv 28 8), (cQ 29 [28] (.iad 1 (.t 28) (kI 0))), ⟨none, none, [29], none, .w (.st 1 (.t 29) (.k (.i (-1))))⟩]) .skip))) (.keep [4,6,8,18,19] (.reg false [(cMv 30 6), (cMv 31 8), (cQ 32 [31] (.iad 1 (.t 31) (kI 0))), (cLd 33 32 false 1), (cQ 34 [33] (.bsl 1 1 [(.i 0)] [(0,1, (.t 33))])), ⟨(some 35), none, [30,34], none, .w (.app 1 (.t 30) (.t 34))⟩, (cMv 6 35)])))))))) (.drp 1 (.keep [4,6,18,19] (.reg false [(cC 36 .add 19 1), (cMv 19 36)]))))))))))))) (.keep [6] (.seq (.reg false [(cMv 37 6), (cMv 2 37), (cI 3 0)]) .ret)))))))))))
def pu41 : List Nat := [1000024,1,34]
def rs41 : List RV := [.t 2, .t 3]
theorem cc41 : CCx Try.prog Try.f41 pu41 rc41 := by unfold CCx; kernel_rfl
theorem cb41 : CBx Try.f41 := by unfold CBx; kernel_rfl
theorem cs41 : CSx Try.prog Try.f41 rs41 := by unfold CSx; kernel_rfl
theorem cn41 : 1 ≤ Try.f41.ntmps := by decide
def rc42 : RC := (.seq (.reg false [(cX 1 0), (cQ 2 [] (.mv (.k (.z 1)))), (cI 3 0)]) (.keep [1] (.seq (.reg false [(cLd 10 1 true 3), (cQ 11 [10] (.call (kF 66) [(.t 10), (.k (.z 1))])), (cMv 9 11), (cEx 12 9 0), (cEx 13 9 1), (cMv 4 12), (cMv 5 13)]) (.keep [1,4,5] (.seq (.seq (.reg false [(cMv 14 5), (cC 15 .neq 14 0)]) (.keep [1,4,5,15] (.cond (.t 15) (.seq (.reg false [(cMv 16 5), (cQ 2 [] (.mv (.k (.z 1)))), (cMv 3 16)]) .ret) .skip))) (.keep [1,4] (.seq (.reg false [(cQ 6 [] (.mv (.k (.z 1))))]) (.keep [1,4,6] (.seq (.seq (.reg false [(cFa 17 1 1), (cLd 18 17 false 1), (cLn 19 18), (cI 20 0)]) (.keep [4,6,18,19,20] (.block 0 (.own 6 1 (.loop [4,6,18,19,20] (some 1) (.seq (.reg false [(cB 21 .lss 20 19)]) (.keep [4,6,18,19,20,21] (.seq (.cond (.t 21) .skip (.exit 0)) (.keep [4,6,18,19,20] (.seq (.block 1 (.seq (.reg false [(cMv 22 20), (cA 23 4 18 20), (cLd 24 23 true 4), ⟨(some 8), none, [], none, .w (.alc [(.i 0), (.i 0), (.i 0), (.z 1)])⟩, (cMv 7 22), ⟨none, none, [8,24], none, .w (.st 4 (.t 8) (.t 24))⟩]) (.keep [4,6,7,8,18,19,20] (.seq (.reg false [(cMv 25 4), (cQ 26 [8] (.mkf 69 [(.t 8)])), (cQ 27 [25,26] (.call (kF 68) [(.t 25), (.t 26)])), (cN 28 27)]) (.keep [4,6,7,18,19,20,28] (.cond (.t 28) (.reg false [(cMv 29 6), (cMv 30 7), (cQ 31 [30] (.bsl 1 1 [(.i 0)] [(0,1, (.t 30))])), ⟨(some 32), none, [29,31], none, .w (.app 1 (.t 29) (.t 31))⟩, (cMv 6 32)]) .skip)))))) (.drp 1 (.keep [4,6,18,19,20] (.reg false [(cC 33 .add 20 1), (cMv 20 33)]))))))))))))) (.keep [6] (.seq (.reg false [(cMv 34 6), (cMv 2 34), (cI 3 0)]) .ret)))))))))))
def pu42 : List Nat := [1,31]
def rs42 : List RV := [.t 2, .t 3]
theorem cc42 : CCx Try.prog Try.f42 pu42 rc42 := by unfold CCx; kernel_rfl
theorem cb42 : CBx Try.f42 := by unfold CBx; kernel_rfl
theorem cs42 : CSx Try.prog Try.f42 rs42 := by unfold CSx; kernel_rfl
theorem cn42 : 1 ≤ Try.f42.ntmps := by decide
def rc37 : RC := (.seq (.reg false [(cX 2 0), (cQ 4 [] (.mv (.k (.z 1)))), (cI 5 0)]) (.keep [1,2] (.seq (.reg false [(cLd 9 2 true 3), (cMv 10 1), (cQ 11 [10] (.bsl 1 1 [(.i 0)] [(0,1, (.t 10))])), (cQ 12 [9,11] (.call (kF 66) [(.t 9), (.t 11)])), (cMv 8 12), (cEx 13 8 0), (cEx 14 8 1), (cMv 6 13), (cMv 7 14)]) (.keep [1,6,7] (.seq (.seq (.reg false [(cMv 15 7), (cC 16 .neq 15 0)]) (.keep [1,6,7,16] (.cond (.t 16) (.seq (.reg false [(cMv 17 7), (cQ 4 [] (.mv (.k (.z 1)))), (cMv 5 17)]) .ret) .skip))) (.keep [1,6] (.seq (.reg false [(cMv 18 6), (cMv 19 1), (cQ 20 [18,19] (.call (kF 67) [(.t 18), (.t 19)])), (cMv 4 20), (cI 5 0)]) .ret)))))))
def pu37 : List Nat := [2,11]
def rs37 : List RV := [.t 4, .t 5]
theorem cc37 : CCx Try.prog Try.f37 pu37 rc37 := by unfold CCx; kernel_rfl
theorem cb37 : CBx Try.f37 := by unfold CBx; kernel_rfl
theorem cs37 : CSx Try.prog Try.f37 rs37 := by unfold CSx; kernel_rfl
theorem cn37 : 2 ≤ Try.f37.ntmps := by decide
def rc68 : RC := (.seq (.reg false [(cQ 4 [] (.mv (kB false)))]) (.keep [0,1] (.seq (.reg false [(cMv 5 0), (cMv 6 1), (cQ 7 [5,6] (.call (kF 86) [(.t 5), (.t 6)])), (cC 8 .geq 7 0), (cMv 4 8)]) .ret)))
def pu68 : List Nat := []
def rs68 : List RV := [.t 4]
theorem cc68 : CCx Try.prog Try.f68 pu68 rc68 := by unfold CCx; kernel_rfl
theorem cb68 : CBx Try.f68 := by unfold CBx; kernel_rfl
theorem cs68 : CSx Try.prog Try.f68 rs68 := by unfold CSx; kernel_rfl
theorem cn68 : 2 ≤ Try.f68.ntmps := by decide
def rc86 : RC := (.seq (.reg false [(cI 4 0)]) (.keep [0,1] (.seq (.seq (.reg false [(cMv 6 0), (cLn 7 6), (cI 8 0)]) (.keep [0,1,7,8] (.block 0 (.loop [0,1,7,8] none (.seq (.reg false [(cB 9 .lss 8 7)]) (.keep [0,1,7,8,9] (.seq (.cond (.t 9) .skip (.exit 0)) (.keep [0,1,7,8] (.seq (.block 1 (.seq (.reg false [(cMv 10 8), (cMv 5 10)]) (.keep [0,1,5,7,8] (.seq (.reg false [(cMv 11 1), (cMv 12 0), (cMv 13 5), (cA 14 1 12 13), (cLd 15 14 false 1), (cQ 16 [11,15] (.call (.t 11) [(.t 15)]))]) (.keep [0,1,5,7,8,16] (.cond (.t 16) (.seq (.reg false [(cMv 17 5), (cMv 4 17)]) .ret) .skip)))))) (.keep [0,1,7,8] (.reg false [(cC 18 .add 8 1), (cMv 8 18)]))))))))))) (.keep [] (.seq (.reg false [(cQ 4 [] (.mv (.k (.i (-1)))))]) .ret)))))
def pu86 : List Nat := []
def rs86 : List RV := [.t 4]
theorem cc86 : CCx Try.prog Try.f86 pu86 rc86 := by unfold CCx; kernel_rfl
theorem cb86 : CBx Try.f86 := by unfold CBx; kernel_rfl
theorem cs86 : CSx Try.prog Try.f86 rs86 := by unfold CSx; kernel_rfl
theorem cn86 : 2 ≤ Try.f86.ntmps := by decide
def rc69 : RC := (.seq (.reg false [(cQ 3 [] (.mv (kB false)))]) (.keep [0,1] (.seq (.reg false [(cMv 4 0), (cLd 5 1 true 4), (cQ 6 [4,5] (.call (kF 70) [(.t 4), (.t 5)])), (cMv 3 6)]) .ret)))
def pu69 : List Nat := []
def rs69 : List RV := [.t 3]
theorem cc69 : CCx Try.prog Try.f69 pu69 rc69 := by unfold CCx; kernel_rfl
theorem cb69 : CBx Try.f69 := by unfold CBx; kernel_rfl
theorem cs69 : CSx Try.prog Try.f69 rs69 := by unfold CSx; kernel_rfl
theorem cn69 : 2 ≤ Try.f69.ntmps := by decide
end Go.C10
set_option linter.unusedSimpArgs false
set_option linter.unusedVariables false
namespace Go.C10
open Go.Fam Go.Proofs
variable {Γ : Gam}
theorem Qjs : ∀ {a b : List Int}, a.Pairwise (· < ·) → b.Pairwise (· < ·) → (∀ x, x ∈ a ↔ x ∈ b) → a = b
 | [], [], _, _, _ => rfl
 | [], y :: b, _, _, h => by have := (h y).2 (by simp); simp at this
 | x :: a, [], _, _, h => by have := (h x).1 (by simp); simp at this
 | x :: a, y :: b, ha, hb, h => by
  rw [List.pairwise_cons] at ha hb
  have h1 : x = y := by
   have hx := (h x).1 (by simp)
   have hy := (h y).2 (by simp)
   rcases Z2.1 hx with hx | hx
   ·exact hx
   ·rcases Z2.1 hy with hy | hy
    ·exact hy.symm
    ·have := hb.1 x hx
     have := ha.1 y hy
     omega
  subst h1
  congr 1
  refine Qjs ha.2 hb.2 fun z => ?_
  have hz := h z
  simp only [Z2] at hz
  constructor
  ·intro hza
   rcases hz.1 (.inr hza) with e | e
   ·subst e; have := ha.1 z hza; omega
   ·exact e
  ·intro hzb
   rcases hz.2 (.inr hzb) with e | e
   ·subst e; have := hb.1 z hzb; omega
   ·exact e
theorem Qn6 {d : Array Int} (hs : ∀ i j, i ≤ j → j < d.size → d[i]! ≤ d[j]!) : ∀ m, m ≤ d.size → (Lib.compactUpTo d m).Pairwise (· < ·) ∧ (∀ x, x ∈ Lib.compactUpTo d m ↔ ∃ j, j < m ∧ d[j]! = x)
 | 0, _ => by simp [Lib.compactUpTo]
 | m + 1, h => by
  obtain ⟨h1, h2⟩ := Qn6 hs m (by omega)
  rw [Lib.compactUpTo_succ]
  by_cases hk : Lib.keeps d m = true
  ·rw [if_pos hk]
   refine ⟨?_, fun x => ?_⟩
   ·rw [List.pairwise_append]
    refine ⟨h1, by simp, fun x hx y hy => ?_⟩
    obtain ⟨j, hj, rfl⟩ := (h2 x).1 hx
    rw [Xg] at hy
    subst hy
    have a1 := hs j (m - 1) (by omega) (by omega)
    have a2 := hs (m - 1) m (by omega) (by omega)
    unfold Lib.keeps at hk
    rw [decide_eq_true_eq] at hk
    rcases hk with hk | hk
    ·omega
    ·omega
   ·rw [List.mem_append, Xg, h2]
    constructor
    ·rintro (⟨j, hj, e⟩ | e)
     ·exact ⟨j, by omega, e⟩
     ·exact ⟨m, by omega, e.symm⟩
    ·rintro ⟨j, hj, e⟩
     by_cases hjm : j < m
     ·exact .inl ⟨j, hjm, e⟩
     ·have : j = m := by omega
      subst this
      exact .inr e.symm
  ·rw [if_neg hk, Qd]
   refine ⟨h1, fun x => ?_⟩
   rw [h2]
   constructor
   ·rintro ⟨j, hj, e⟩
    exact ⟨j, by omega, e⟩
   ·rintro ⟨j, hj, e⟩
    by_cases hjm : j < m
    ·exact ⟨j, hjm, e⟩
    ·have hjm : j = m := by omega
     subst hjm
     unfold Lib.keeps at hk
     rw [decide_eq_true_eq, not_or, Classical.not_not] at hk
     exact ⟨j - 1, by omega, by rw [← hk.2]; exact e⟩
theorem Qs5 (l : List Int) (x : Int) : x ∈ l.mergeSort (fun x y => decide (x ≤ y)) ↔ x ∈ l := List.mem_mergeSort
theorem Quf (l : List Int) : (l.mergeSort fun x y => decide (x ≤ y)).Pairwise (· ≤ ·) := by
 have := List.pairwise_mergeSort (le := fun x y : Int => decide (x ≤ y)) (fun a b c h1 h2 => by simp at *; omega) (fun a b => by simp; omega) l
 exact this.imp fun h => by simpa using h
def Qmh (l : List Int) : List Int := Lib.compact (l.mergeSort fun x y => decide (x ≤ y))
theorem Qid (l : List Int) : (Qmh l).Pairwise (· < ·) ∧ ∀ x, x ∈ Qmh l ↔ x ∈ l := by
 unfold Qmh Lib.compact
 obtain ⟨s, hs⟩ : ∃ s, s = l.mergeSort fun x y => decide (x ≤ y) := ⟨_, rfl⟩
 have hp := Quf l
 have hm := Qs5 l
 rw [← hs] at hp hm ⊢
 have key : ∀ i j, i ≤ j → j < s.toArray.size → s.toArray[i]! ≤ s.toArray[j]! := by
  intro i j hij hj
  have hj' : j < s.length := by simpa using hj
  by_cases e : i = j
  ·subst e; exact Int.le_refl _
  ·have := List.pairwise_iff_getElem.1 hp i j (by omega) hj' (by omega)
   simpa [hj', show i < s.length by omega] using this
 obtain ⟨h1, h2⟩ := Qn6 key s.length (by simp)
 refine ⟨h1, fun x => ?_⟩
 rw [h2, ← hm]
 constructor
 ·rintro ⟨j, hj, e⟩
  rw [← e]
  have : s.toArray[j]! = s[j] := by simp [hj]
  rw [this]
  exact List.getElem_mem hj
 ·intro hx
  obtain ⟨j, hj, e⟩ := List.mem_iff_getElem.1 hx
  exact ⟨j, hj, by simp [hj, e]⟩
theorem Qph (zs : List Int) : (Lib.compact zs).length ≤ zs.length := by
 unfold Lib.compact Lib.compactUpTo
 rw [Qi]
 exact Zu (Zj _ _) (by rw [List.length_range]; exact Z1 _)
theorem Qn7 (l : List Int) : (Qmh l).length ≤ l.length := by
 unfold Qmh
 have := Qph (l.mergeSort fun x y => decide (x ≤ y))
 rwa [Zf] at this
structure D84 where
 g : Nat
 zs : List Int
def eA84 (x : D84) : List V := [.rf 0 x.g 0 x.zs.length 1]
def eH84 (x : D84) : List Blk := [.cells x.g (x.zs.map V.i)]
def Qrk : List V → List Blk → D84 | [.rf _ g _ _ _], [.cells _ zs] => ⟨g, zs.map gI⟩ | _, _ => ⟨0, []⟩
theorem Qpl (x : D84) : Qrk (eA84 x) (eH84 x) = x := by
 obtain ⟨g, zs⟩ := x
 have : (zs.map V.i).map gI = zs := by rw [Z4]; exact (Zp fun _ _ => rfl).trans (List.map_id zs)
 simp only [Qrk, eA84, eH84, this]
def C84 (x : D84) : Prop := x.zs ≠ [] ∧ x.zs.length ≤ 1000000
def R84 (x : D84) (r : V) (hp : List Blk) : Prop := r = .tp [] ∧ hp = [.cells x.g ((x.zs.mergeSort fun x y => decide (x ≤ y)).map V.i)]
def R85 (x : D84) (r : V) (hp : List Blk) : Prop := r = .rf 0 x.g 0 (Lib.compact x.zs).length 1 ∧ hp = [.cells x.g ((Lib.compact x.zs ++ Xd (x.zs.length - (Lib.compact x.zs).length) 0).map V.i)]
noncomputable def HE1 : Gam := (HD6.extH 84 (hpG eA84 eH84 Qrk C84 R84)).extH 85 (hpG eA84 eH84 Qrk C84 R85)
theorem Qwe : GOk Try.prog HE1 := by
 refine (Qyo.extH (f := 84) (fun a w => Try.call84 a w) (Qnl fun x hx => ⟨fun r hp' _ y hy => (by cases hy), ?_⟩)).extH (f := 85) (fun a w => Try.call85 a w) (Qnl fun x hx => ⟨fun r hp' _ y hy => (by cases hy), ?_⟩)
 ·exact Qr4 (fun blk off cap zs w h1 h2 h3 => Try.slices_Sort_int blk off cap zs w h1 h2 h3) (hp := eH84 x) (id := 0) (g := x.g) (zs := x.zs) rfl hx.1 hx.2
 ·exact Ql8 (fun blk off cap zs w h1 h2 h3 => Try.slices_Compact_int blk off cap zs w h1 h2 h3) Qph (hp := eH84 x) (id := 0) (g := x.g) (zs := x.zs) rfl hx.1 hx.2
theorem h84 (g : Nat) (zs : List Int) : HE1.h 84 [.rf 0 g 0 zs.length 1] [.cells g (zs.map V.i)] = (C84 ⟨g, zs⟩, R84 ⟨g, zs⟩) := Qnk (⟨g, zs⟩ : D84) (Qpl _)
theorem h85 (g : Nat) (zs : List Int) : HE1.h 85 [.rf 0 g 0 zs.length 1] [.cells g (zs.map V.i)] = (C84 ⟨g, zs⟩, R85 ⟨g, zs⟩) := Qnk (⟨g, zs⟩ : D84) (Qpl _)
def colN (l : List (List Int)) (g : Int) : List Int := l.map fun t => atN t g
def Qc1 (l : List (List Int)) (g : Int) : List Int := Qmh (colN l g)
def Qe5 (l : List (List Int)) (g : Int) : List V := (Qc1 l g ++ Xd (l.length - (Qc1 l g).length) 0).map V.i
structure OkT (l : List (List Int)) (g : Int) : Prop where
 ne : l ≠ []
 len : l.length ≤ 1000000
 gd : 0 ≤ g ∧ g ≤ 1000000
 at_ : ∀ t ∈ l, g < t.length
theorem W67 (l : List (List Int)) (g : Int) (h : OkT l g) : Qdl Try.prog 67 [.sl 1 (l.map eCan), .i g] (.rf 0 l.length 0 (Qc1 l g).length 1) [.cells l.length (Qe5 l g)] := by
 refine Qkm Qwe hmix Try.func67 cb67 cc67 cs67 cn67 ?_
 obtain ⟨hne, hl, hg, hat⟩ := h
 simp only [rc67, rs67, Qa9, Qa8, Qad, Qa6, Qgq, Qae, Qa7, Qa2, Fam.step, Qaf, evO, opv, qv, lenV, Qa1, Qa0, Qa3, ↓reduceIte, Nat.reduceEqDiff, Qb, Qc, Qf, Qn, zipA, Qg, true_and, reduceCtorEq, Qi]
 refine Qc2 l.length (fun i => ⟨lkp [(1, .i g), (5, .rf 0 i 0 i 1), (8, .sl 1 (l.map eCan)), (9, .i l.length), (10, .i i)], [.cells i ((colN (l.take i) g).map V.i)]⟩) ?_ ?_ ?_
 ·simp only [Q8, colN, Q7, kp, Qa0, Qa3, ↓reduceIte, Nat.reduceEqDiff, Qb, Qc, Q7]
 ·intro i hi
  obtain ⟨t, ht⟩ : ∃ x, l[i]? = some x := ⟨_, Qr hi⟩
  have hlt : (i : Int) < l.length := by omega
  have htl := hat t (Zk ht)
  obtain ⟨x, hx⟩ : ∃ x, t[g.toNat]? = some x := ⟨_, Qr (by omega)⟩
  have h3 : inI ((i : Int) + 1) := by unfold inI; omega
  have hfl : Qax (i + 1) := by unfold Qax; omega
  have hcl : (colN (l.take i) g).length = i := by unfold colN; rw [Qi, Xm]; omega
  have hs : colN (l.take (i + 1)) g = colN (l.take i) g ++ [x] := by
   unfold colN
   rw [Qbf ht]
   simp [atN, hx]
  have ec : eCan t = [.sl 1 (t.map eI)] := rfl
  simp only [ht, hlt, hx, hg, htl, h3, hfl, hcl, hs, Zy, Q0, Ze, Z6, Zc, Q6, Qag, Qa9, Qa8, Qac, Qad, Qa6, Qck, putB, Qae, Qaj, Qa7, Qa2, Fam.step, Qaf, Qcf, Qb6, putB, nv, sv, Qc8, evO, opv, qv, binV, ldV, iadV, Qas, putAt, Qb7, Qb4, V.cells, Qav, Qbm, Qab, Qa5, kp, Qa1, Qa0, Qa3, ↓reduceIte, Nat.reduceEqDiff, Nat.reduceLeDiff, Qb, Qc, Qt, Qv, Qe, Qf, Qk, Zr, Qh, Q7, Qm, Ql, Qn, Qd, Q5, Qz, Zh, Q9, Zg, vw_i, Q1, Qg, Qs, Qj, Qa, decide_true, and_self, reduceCtorEq, not_false_eq_true, ne_eq, Qy, Qi, Q3, Qo, Qw, eI, eCan]
 ·have hlt : ¬ ((l.length : Int) < l.length) := by omega
  have g1 := h84 l.length (colN l g)
  have hcl : (colN l g).length = l.length := by unfold colN; rw [Qi]
  have hcn : colN l g ≠ [] := fun e => hne (Zz (by rw [← hcl, e]; rfl))
  have g2 := h85 l.length ((colN l g).mergeSort fun x y => decide (x ≤ y))
  rw [Zf] at g2
  rw [hcl] at g1 g2
  have hC : C84 ⟨l.length, colN l g⟩ := ⟨hcn, by show (colN l g).length ≤ 1000000; omega⟩
  have hC2 : C84 ⟨l.length, (colN l g).mergeSort fun x y => decide (x ≤ y)⟩ := ⟨fun e => hcn (Zz (by have := congrArg List.length e; rwa [Zf] at this)), by show (List.mergeSort _ _).length ≤ 1000000; rw [Zf]; omega⟩
  simp only [hlt, Zo, g1, hC, Qa9, Qa8, Qac, Qb1, Qah, Qa6, Qo4, endO, Qae, Qaj, Qa7, Qa2, Fam.step, Qaf, Qb6, evO, opv, qv, binV, Qa1, Qa0, Qa3, ↓reduceIte, Nat.reduceEqDiff, Qb, Qc, Qd, rvs, rv1, resV, Qa, decide_false, true_and, and_self]
  rintro r hp' ⟨rfl, rfl⟩
  simp only [g2, hC2, true_and]
  rintro r hp' ⟨rfl, rfl⟩
  simp only []
  refine ⟨rfl, ?_⟩
  unfold Qe5 Qc1 Qmh
  rw [Zf, hcl]
def e67 (a : List (List Int) × Int) : List V := [.sl 1 (a.1.map eCan), .i a.2]
def d67 : List V → List (List Int) × Int | [.sl _ l, .i g] => (l.map dCan, g) | _ => ([], 0)
theorem Qvp (a : List (List Int) × Int) : d67 (e67 a) = a := by simp [d67, e67, Function.comp_def, Qlb]
noncomputable def HE2 : Gam := (HE1.ext 1000067 (fnG e67 d67 (fun a => OkT a.1 a.2) (fun a => a) fun a => .tp [.rf 0 a.1.length 0 (Qc1 a.1 a.2).length 1, .tp [bV (.cells a.1.length (Qe5 a.1 a.2))]])).ext 67 (fnG e67 d67 (fun a => OkT a.1 a.2) (fun a => Qc1 a.1 a.2) fun l => .sl 1 (l.map eI))
theorem Qou (l : List (List Int)) (g : Int) : (Qe5 l g).take (Qc1 l g).length = (Qc1 l g).map V.i := by
 unfold Qe5
 rw [Z6, List.take_left' (by rw [Qi])]
theorem Qr8 (l : List (List Int)) (g : Int) : (Qe5 l g).length = l.length := by
 unfold Qe5
 have h := Qn7 (colN l g)
 have h2 : (colN l g).length = l.length := by unfold colN; rw [Qi]
 rw [Qi, Zb, List.length_replicate]
 unfold Qc1
 omega
theorem Qoh (vs : List V) (n : Nat) (h : n ≤ vs.length) : Qcj 1 vs 0 n = (vs.take n).map fun v => [v] := by
 unfold Qcj
 apply List.ext_getElem?
 intro k
 rw [Qw, Qw, List.getElem?_take]
 by_cases hk : k < n
 ·rw [List.getElem?_range hk, if_pos hk]
  have : k < vs.length := by omega
  simp only [Qy, Qg, Zy]
  rw [Qr this, Qy]
  congr 1
  rw [List.drop_eq_getElem_cons this]; rfl
 ·rw [if_neg hk, List.getElem?_eq_none (by simp; omega)]; rfl
theorem Qwf : GOk Try.prog HE2 := by
 have k1 := Qwe.extO (f := 67) (r := fnG e67 d67 (fun a => OkT a.1 a.2) (fun a => a) fun a => .tp [.rf 0 a.1.length 0 (Qc1 a.1 a.2).length 1, .tp [bV (.cells a.1.length (Qe5 a.1 a.2))]]) (fun a w => Try.call67 a w) fun vs v bs h1 h2 => by
  simp only [fnG, V.tp.injEq, List.cons.injEq, and_true] at h1 h2
  obtain ⟨h3, h4⟩ := h2
  rw [← h1.1, ← h3, ← h4]
  simp only [Qb, Qc, Qek]
  exact W67 _ _ h1.2
 refine k1.ext (f := 67) (fun a w => Try.call67 a w) (Qb9 (e := e67) (d := d67) (ok := fun a => OkT a.1 a.2) (g := fun a => Qc1 a.1 a.2) (eb := fun l => .sl 1 (l.map eI)) fun a h => ?_)
 have := (W67 a.1 a.2 h).toPure
 have hl : (Qc1 a.1 a.2).length ≤ (Qe5 a.1 a.2).length := by
  rw [Qr8]
  have h := Qn7 (colN a.1 a.2)
  have h2 : (colN a.1 a.2).length = a.1.length := by unfold colN; rw [Qi]
  unfold Qc1; omega
 have e : vw [.cells a.1.length (Qe5 a.1 a.2)] 8 (.rf 0 a.1.length 0 (Qc1 a.1 a.2).length 1) = .sl 1 ((Qc1 a.1 a.2).map eI) := by
  have hc := Qoh (Qe5 a.1 a.2) (Qc1 a.1 a.2).length hl
  rw [Qou, Z4] at hc
  have hc2 : Qcj 1 (Qe5 a.1 a.2) 0 (Qc1 a.1 a.2).length = (Qc1 a.1 a.2).map eI := hc
  simp only [Zy, hl, hc2, vw_I, ↓reduceIte, Q5, Qe8, Qg, and_self]
 rw [e] at this
 exact this
theorem h67o (l : List (List Int)) (g : Int) : HE2 1000067 [.sl 1 (l.map eCan), .i g] = (OkT l g, .tp [.rf 0 l.length 0 (Qc1 l g).length 1, .tp [bV (.cells l.length (Qe5 l g))]]) :=
 (show HE2 1000067 _ = fnG e67 d67 (fun a => OkT a.1 a.2) (fun a => a) (fun a => .tp [.rf 0 a.1.length 0 (Qc1 a.1 a.2).length 1, .tp [bV (.cells a.1.length (Qe5 a.1 a.2))]]) (e67 (l, g)) from rfl).trans (Qb5 _ (Qvp _))
theorem h67 (l : List (List Int)) (g : Int) : HE2 67 [.sl 1 (l.map eCan), .i g] = (OkT l g, .sl 1 ((Qc1 l g).map eI)) :=
 (show HE2 67 _ = fnG e67 d67 (fun a => OkT a.1 a.2) (fun a => Qc1 a.1 a.2) (fun l => .sl 1 (l.map eI)) (e67 (l, g)) from rfl).trans (Qb5 _ (Qvp _))
end Go.C10
