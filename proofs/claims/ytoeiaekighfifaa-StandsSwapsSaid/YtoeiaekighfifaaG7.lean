import Derived.Test.YtoeiaekighfifaaG6
import Derived.Test.YtoeiaekighfifaaG3
import Derived.Test.YtoeiaekighfifaaChecked
set_option linter.all false
open List renaming map_cons → Qb, getElem?_eq_getElem → Qc, length_cons → Qd, map_nil → Qe, length_nil → Qf, length_map → Qg, getD_eq_getElem?_getD → Qh, headD_cons → Qi, drop_succ_cons → Qk, append_nil → Ql, drop_zero → Qm, all_nil → Qq, take_succ_cons → Qr, all_cons → Qs, getElem?_map → Qu, replicate_zero → Qy, nil_append → Q0, mem_of_getElem? → Q3, getElem?_nil → Q4, cons_append → Q5, contains_nil → Q6, take_nil → Q8, isEmpty_nil → Za, any_nil → Zb, getElem?_of_mem → Zc, getElem?_cons_zero → Zd, mem_append → Ze, getElem?_append_left → Zi, mem_range → Zk, getElem?_eq_some_iff → Zl, getLast?_eq_getElem? → Zm, mem_singleton → Zo, set_cons_zero → Zp, length_singleton → Zq, append_assoc → Zr, getElem?_append_right → Zs, pairwise_iff_getElem → Zw, length_append → Zx, getElem?_cons_succ → Zy, head?_eq_getElem? → Zz, all_eq_true → Z0, any_eq_true → Z1, flatten_nil → Z2, take_zero → Z6, all_eq_false → Z7, flatten_cons → Z8, mem_cons → Xa, getElem_mem → Xc, not_mem_nil → Xd, take_length → Xe, pairwise_lt_range → Xf, mem_of_mem_head? → Xg, getElem?_eq_none → Xi, replicate_succ → Xj, Pairwise → Xk, ne_nil_of_mem → Xm, nodup_append → Xn, any_eq_false → Xp, length_take → Xq, head?_cons → Xs
open Nat renaming zero_add → Qj, le_refl → Z4, mul_one → Z9, lt_or_gt_of_ne → Xl
open Bool renaming false_eq_true → Qa, or_false → Qn, and_self → Qp, and_true → Qv, true_eq_false → Qw, not_true → Qx, not_false → Qz, false_and → Q7, and_false → Zt, or_eq_false_iff → Zu, and_eq_true → Zv, true_and → Z3, false_or → Xb, and_eq_false_iff → Xh
open Option renaming getD_some → Qo, map_some → Q2, getD_none → Q9, some → Zj, map_none → Z5, bind_some → Xr
open Int renaming toNat_natCast → Qt, natCast_nonneg → Q1, natCast_zero → Zf, natCast_one → Zg, natCast_add → Zh, toNat_zero → Zn, emod_eq_of_lt → Xo
set_option linter.unusedSimpArgs false
set_option linter.unusedVariables false
namespace Go.C10
open Go.Fam Go.Proofs
theorem Qq1 {n : Nat} {t : List Int} (h : IsTak n t) {x y : Int} (hx : 0 ≤ x ∧ x < n) (hy : 0 ≤ y ∧ y < n) (e : atN t x = atN t y) : x = y := by
 have h1 : ((x.toNat : Nat) : Int) = x := by omega
 have h2 : ((y.toNat : Nat) : Int) = y := by omega
 have := Qhm h (i := x.toNat) (j := y.toNat) (by omega) (by omega) (by rw [h1, h2]; exact e)
 omega
def Qp3 (t : List Int) (l : List Int) : Prop := ∀ (i : Nat) (a b : Int), l[i]? = some a → l[i + 1]? = some b → b = atN t a
structure Shut (n : Nat) (t S : List Int) : Prop where
 below : Below n S
 iff_ : ∀ x : Int, 0 ≤ x ∧ x < n → (x ∈ S ↔ atN t x ∈ S)
theorem Qpd {n : Nat} {t S : List Int} (hS : Shut n t S) : ∀ {P : List Int} {x0 : Int}, Qp3 t P → P.head? = some x0 → x0 ∉ S → (∀ x ∈ P, 0 ≤ x ∧ x < n) → ∀ x ∈ P, x ∉ S := by
 intro P x0 hc h0 hn hin
 have key : ∀ (i : Nat) (a : Int), P[i]? = some a → a ∉ S := by
  intro i
  induction i with
  | zero =>
   intro a ha
   cases P with
   | nil => cases ha
   | cons y P =>
    simp only [Xs, Zj.injEq] at h0
    simp only [Zd, Zj.injEq] at ha
    rw [← ha, h0]; exact hn
  | succ i ih =>
   intro b hb
   obtain ⟨a, ha⟩ : ∃ a, P[i]? = some a := ⟨_, Qc (by have := Qai hb; omega)⟩
   have := hc i a b ha hb
   rw [this]
   intro hm
   exact ih a ha ((hS.iff_ a (hin a (Q3 ha))).2 hm)
 intro x hx
 obtain ⟨i, hi⟩ := Zc hx
 exact key i x hi
structure Circ (n : Nat) (t l : List Int) : Prop where
 below : Below n l
 chain : Qp3 t l
 shut : ∀ a b, l.getLast? = some a → l.head? = some b → atN t a = b
theorem Below.right {n : Nat} {S P : List Int} (h : Below n (S ++ P)) : Below n P := ⟨(Xn.1 h.nd).2.1, fun x hx => h.in_ x (Ze.2 (.inr hx))⟩
theorem Qdr {l : List Int} (h : l.Nodup) {i j : Nat} {x : Int} (hi : l[i]? = some x) (hj : l[j]? = some x) : i = j := by
 obtain ⟨h1, e1⟩ := Zl.1 hi
 obtain ⟨h2, e2⟩ := Zl.1 hj
 refine Classical.byContradiction fun hij => ?_
 have hp := Zw.1 (List.nodup_iff_pairwise_ne.1 h)
 rcases Xl hij with h3 | h3
 ·exact hp i j h1 h2 h3 (e1.trans e2.symm)
 ·exact hp j i h2 h1 h3 (e2.trans e1.symm)
theorem Qlc {n : Nat} {t S P : List Int} {x x0 : Int} (hT : IsTak n t) (hS : Shut n t S) (hB : Below n (S ++ P)) (hc : Qp3 t (P ++ [x])) (h0 : (P ++ [x]).head? = some x0) (hx0 : x0 ∉ S) (hx : 0 ≤ x ∧ x < n) (hm : x ∈ S ++ P) :
  Circ n t P ∧ P.head? = some x0 := by
 have hP := hB.right
 have hout : x ∉ S := Qpd hS hc h0 hx0 (fun y hy => by
  rcases Ze.1 hy with hy | hy
  ·exact hP.in_ y hy
  ·rw [Zo] at hy; rw [hy]; exact hx) x (by simp)
 have hxP : x ∈ P := by
  rcases Ze.1 hm with h | h
  ·exact absurd h hout
  ·exact h
 have hne : P ≠ [] := Xm hxP
 have hh : P.head? = some x0 := by
  cases P with
  | nil => exact absurd rfl hne
  | cons a P => simpa using h0
 have hcP : Qp3 t P := fun i a b ha hb => by
  have h1 := Qai ha
  have h2 := Qai hb
  exact hc i a b (by rw [Zi h1]; exact ha) (by rw [Zi h2]; exact hb)
 refine ⟨⟨hP, hcP, fun a b ha hb => ?_⟩, hh⟩
 rw [hh] at hb
 have eb := Zj.inj hb
 rw [Zm] at ha
 have hl := Qai ha
 have hxa : x = atN t a := hc (P.length - 1) a x (by rw [Zi hl]; exact ha) (by
  rw [show P.length - 1 + 1 = P.length by omega, Zs (by omega)]; simp)
 obtain ⟨j, hj⟩ := Zc hxP
 cases j with
 | zero =>
  rw [← hxa, ← eb]
  cases P with
  | nil => exact absurd rfl hne
  | cons y P =>
   simp only [Xs, Zj.injEq] at hh
   simp only [Zd, Zj.injEq] at hj
   rw [← hj, hh]
 | succ j =>
  exfalso
  have hjl := Qai hj
  obtain ⟨c, hcj⟩ : ∃ c, P[j]? = some c := ⟨_, Qc (by omega)⟩
  have e1 := hcP j c x hcj hj
  have := Qq1 hT (hP.in_ a (Q3 ha)) (hP.in_ c (Q3 hcj)) (by rw [← hxa, ← e1])
  subst this
  have := Qdr hP.nd ha hcj
  omega
theorem Qrw {n : Nat} {t S : List Int} (hT : IsTak n t) (hS : Shut n t S) : ∀ (k : Nat) (P : List Int) (x x0 : Int), Below n (S ++ P) → n ≤ k + (S ++ P).length → Qp3 t (P ++ [x]) → (P ++ [x]).head? = some x0 → x0 ∉ S → 0 ≤ x ∧ x < n →
  Circ n t (P ++ orbN t k (S ++ P) x) ∧ (P ++ orbN t k (S ++ P) x).head? = some x0 := by
 intro k
 induction k with
 | zero =>
  intro P x x0 hB hn hc h0 hx0 hx
  have hm : x ∈ S ++ P := Classical.byContradiction fun hm => by
   have := (hB.snoc hx hm).len
   rw [Zx, Zq] at this
   omega
  rw [orbN, Ql]
  exact Qlc hT hS hB hc h0 hx0 hx hm
 | succ k ih =>
  intro P x x0 hB hn hc h0 hx0 hx
  rw [orbN]
  by_cases hm : x ∈ S ++ P
  ·rw [if_pos hm, Ql]
   exact Qlc hT hS hB hc h0 hx0 hx hm
  ·rw [if_neg hm]
   have hB2 := hB.snoc hx hm
   have e : ∀ r : List Int, P ++ x :: r = (P ++ [x]) ++ r := fun r => by simp
   rw [e, Zr S P [x]]
   rw [Zr] at hB2
   refine ih (P ++ [x]) (atN t x) x0 hB2 (by rw [← Zr, Zx, Zq]; omega) (fun i a b ha hb => ?_) ?_ hx0 (Qdb hT hx).2
   ·have h2 := Qai hb
    simp only [Zx, Zq] at h2
    by_cases hi : i + 1 < (P ++ [x]).length
    ·rw [Zi (by omega)] at ha
     rw [Zi hi] at hb
     exact hc i a b ha hb
    ·simp only [Zx, Zq] at hi
     have hiP : i = P.length := by omega
     subst hiP
     rw [Zi (by simp), Zs (by omega)] at ha
     rw [Zs (by simp)] at hb
     simp at ha hb
     rw [← ha, ← hb]
   ·cases P with
    | nil => simpa using h0
    | cons a P => simpa using h0
end Go.C10
set_option linter.unusedSimpArgs false
set_option linter.unusedVariables false
namespace Go.C10
open Go.Fam Go.Proofs
structure CircsOk (n : Nat) (t S : List Int) (cs : List (List Int)) : Prop where
 shut : Shut n t S
 circ : ∀ l ∈ cs, Circ n t l ∧ ∀ p ∈ l, p ∈ S
 disj : cs.Pairwise fun l l' => ∀ p ∈ l, p ∉ l'
 cover : ∀ p ∈ S, atN t p = p ∨ ∃ l ∈ cs, p ∈ l
theorem Qrx {t S : List Int} {x : Int} (h : x ∈ S) (k : Nat) : orbN t k S x = [] := by
 cases k with
 | zero => rfl
 | succ k => rw [orbN, if_pos h]
theorem Circ.next {n : Nat} {t l : List Int} (h : Circ n t l) {x : Int} (hx : x ∈ l) : atN t x ∈ l := by
 obtain ⟨j, hj⟩ := Zc hx
 have hjl := Qai hj
 by_cases hl : j + 1 < l.length
 ·have := h.chain j x _ hj (Qc hl)
  rw [← this]; exact Xc hl
 ·have e1 : l.getLast? = some x := by
   rw [Zm, show l.length - 1 = j by omega]; exact hj
  obtain ⟨b, hb⟩ : ∃ b, l.head? = some b := by
   cases l with
   | nil => cases hx
   | cons b l => exact ⟨b, rfl⟩
  rw [h.shut x b e1 hb]
  exact Xg hb
theorem Circ.prev {n : Nat} {t l : List Int} (hT : IsTak n t) (h : Circ n t l) {x : Int} (hx : 0 ≤ x ∧ x < n) (hm : atN t x ∈ l) : x ∈ l := by
 obtain ⟨j, hj⟩ := Zc hm
 have hjl := Qai hj
 cases j with
 | zero =>
  have hne : l ≠ [] := Xm hm
  obtain ⟨a, ha⟩ : ∃ a, l.getLast? = some a := by
   rw [Zm]
   exact ⟨_, Qc (by omega)⟩
  have hb : l.head? = some (atN t x) := by rw [Zz]; exact hj
  have e := h.shut a _ ha hb
  have ham := List.mem_of_getLast? ha
  have := Qq1 hT (h.below.in_ a ham) hx e
  rw [← this]; exact ham
 | succ j =>
  obtain ⟨c, hc⟩ : ∃ c, l[j]? = some c := ⟨_, Qc (by omega)⟩
  have hcm := Q3 hc
  have e := h.chain j c _ hc hj
  have := Qq1 hT hx (h.below.in_ c hcm) e
  rw [this]; exact hcm
theorem Qna {n : Nat} {t : List Int} (hT : IsTak n t) : ∀ i : Nat, i ≤ n → CircsOk n t (Qbu t i).1 (Qbu t i).2 ∧ ∀ j : Nat, j < i → (j : Int) ∈ (Qbu t i).1
 | 0, _ => by
  refine ⟨⟨⟨⟨by simp [Qbu], by simp [Qbu]⟩, by simp [Qbu]⟩, by simp [Qbu], by simp [Qbu], by simp [Qbu]⟩, fun j hj => by omega⟩
 | i + 1, hi => by
  obtain ⟨hC, hj⟩ := Qna hT i (by omega)
  obtain ⟨S, hS⟩ : ∃ S, S = (Qbu t i).1 := ⟨_, rfl⟩
  obtain ⟨cs, hcs⟩ : ∃ cs, cs = (Qbu t i).2 := ⟨_, rfl⟩
  obtain ⟨l, hl⟩ : ∃ l, l = orbN t (t.length - S.length) S i := ⟨_, rfl⟩
  have e : Qbu t (i + 1) = (S ++ l, if 1 < l.length then cs ++ [l] else cs) := by rw [Qbu, ← hS, ← hcs, ← hl]
  rw [← hS, ← hcs] at hC
  rw [← hS] at hj
  rw [e]
  simp only
  have hin : (0 : Int) ≤ i ∧ (i : Int) < n := by omega
  have hsz := hT.size
  by_cases him : (i : Int) ∈ S
  ·have : l = [] := by rw [hl]; exact Qrx him _
   subst this
   simp only [Ql, Qf, Nat.not_lt_zero, if_false]
   refine ⟨hC, fun j hji => ?_⟩
   by_cases h : j = i
   ·rw [h]; exact him
   ·exact hj j (by omega)
  ·have hSn := hC.shut.below.len
   have hob := Qrw hT hC.shut (t.length - S.length) [] i i (by simpa using hC.shut.below) (by simp; omega) (fun k a b ha hb => by have := Qai hb; simp at this) rfl him hin
   rw [Q0, Ql, ← hl] at hob
   obtain ⟨hc, hh⟩ := hob
   have hbel : Below n (S ++ l) := by rw [hl]; exact Qgq hT _ _ _ hC.shut.below hin
   have hdis : ∀ p ∈ S, p ∉ l := fun p hp hpl => (Xn.1 hbel.nd).2.2 p hp p hpl rfl
   have hne : l ≠ [] := fun e2 => by rw [e2] at hh; cases hh
   have hshut : Shut n t (S ++ l) := by
    refine ⟨hbel, fun x hx => ?_⟩
    rw [Ze, Ze, hC.shut.iff_ x hx]
    constructor
    ·rintro (h | h)
     ·exact .inl h
     ·exact .inr (hc.next h)
    ·rintro (h | h)
     ·exact .inl h
     ·exact .inr (hc.prev hT hx h)
   have hseen : ∀ j : Nat, j < i + 1 → (j : Int) ∈ S ++ l := fun j hji => by
    rw [Ze]
    by_cases h : j = i
    ·right; rw [h]; exact Xg hh
    ·exact .inl (hj j (by omega))
   by_cases h1 : 1 < l.length
   ·rw [if_pos h1]
    refine ⟨⟨hshut, fun l' hl' => ?_, ?_, fun p hp => ?_⟩, hseen⟩
    ·rcases Ze.1 hl' with h | h
     ·exact ⟨(hC.circ l' h).1, fun p hp => Ze.2 (.inl ((hC.circ l' h).2 p hp))⟩
     ·rw [Zo] at h; rw [h]; exact ⟨hc, fun p hp => Ze.2 (.inr hp)⟩
    ·rw [List.pairwise_append]
     refine ⟨hC.disj, by simp, fun l' hl' l2 hl2 p hp => ?_⟩
     rw [Zo] at hl2
     rw [hl2]
     exact hdis p ((hC.circ l' hl').2 p hp)
    ·rcases Ze.1 hp with h | h
     ·rcases hC.cover p h with h2 | ⟨l', h2, h3⟩
      ·exact .inl h2
      ·exact .inr ⟨l', Ze.2 (.inl h2), h3⟩
     ·exact .inr ⟨l, by simp, h⟩
   ·rw [if_neg h1]
    refine ⟨⟨hshut, fun l' hl' => ⟨(hC.circ l' hl').1, fun p hp => Ze.2 (.inl ((hC.circ l' hl').2 p hp))⟩, hC.disj, fun p hp => ?_⟩, hseen⟩
    rcases Ze.1 hp with h | h
    ·exact hC.cover p h
    ·left
     have hlen := List.length_pos_iff.2 hne
     obtain ⟨y, hy⟩ : ∃ y, l = [y] := by
      cases l with
      | nil => exact absurd rfl hne
      | cons y l => cases l with
       | nil => exact ⟨y, rfl⟩
       | cons z l => simp at h1
     rw [hy, Zo] at h
     have := hc.shut y y (by rw [hy]; rfl) (by rw [hy]; rfl)
     rw [h]; exact this
theorem Qfd {n : Nat} {t : List Int} (hT : IsTak n t) : (∀ l ∈ Qbr t, Circ n t l) ∧ (Qbr t).Pairwise (fun l l' => ∀ p ∈ l, p ∉ l') ∧ ∀ p : Int, 0 ≤ p ∧ p < n → atN t p = p ∨ ∃ l ∈ Qbr t, p ∈ l := by
 obtain ⟨h, hs⟩ := Qna hT n (Z4 _)
 have hsz := hT.size
 unfold Qbr
 rw [hsz]
 refine ⟨fun l hl => (h.circ l hl).1, h.disj, fun p hp => h.cover p ?_⟩
 have := hs p.toNat (by omega)
 rwa [show ((p.toNat : Nat) : Int) = p by omega] at this
end Go.C10
set_option linter.unusedSimpArgs false
set_option linter.unusedVariables false
namespace Go.C10
open Go.Fam Go.Proofs
def Qp2 (R : List (List Int)) : Prop := R.Pairwise fun q q' => ∀ x ∈ q, x ∉ q'
theorem Qkq {q : List Int} {n : Int} (h : Qbl q n = true) : ∃ x y, q = [x, y] ∧ 0 ≤ x ∧ x < y ∧ y < n := by
 obtain ⟨h2, h0, h1, h3⟩ := Qfg.1 h
 match q, h2 with
 | [x, y], _ => exact ⟨x, y, rfl, h0, h1, h3⟩
theorem Qig {n : Nat} : ∀ (R : List (List Int)) (t : List Int), (∀ q ∈ R, Qbl q n = true) → Qp2 R → IsTak n t →
  ∃ p, Qc7 n R t = some p ∧ IsTak n p ∧ (∀ x : Nat, x < n → (∀ q ∈ R, (x : Int) ∉ q) → atN p x = atN t x) ∧ ∀ x y : Int, [x, y] ∈ R → atN p x = atN t y ∧ atN p y = atN t x
 | [], t, _, _, hT => ⟨t, rfl, hT, fun _ _ _ => rfl, fun x y h => by cases h⟩
 | q :: R, t, hp, hA, hT => by
  obtain ⟨x, y, rfl, h0, h1, h2⟩ := Qkq (hp q (by simp))
  have hl := hT.size
  have hsT := Qd1 hT (a := x) (b := y) (by omega) (by omega)
  unfold Qp2 at hA
  rw [List.pairwise_cons] at hA
  obtain ⟨p, h3, h4, h5, h6⟩ := Qig R (Qc6 t x y) (fun q hq => hp q (by simp [hq])) hA.2 hsT
  have hsw := Qg9 (t := t) (a := x) (b := y) (by omega) (by omega)
  have ex : ((x.toNat : Nat) : Int) = x := by omega
  have ey : ((y.toNat : Nat) : Int) = y := by omega
  refine ⟨p, ?_, h4, fun z hz hno => ?_, fun a b hab => ?_⟩
  ·rw [Qc7, if_pos (hp _ (by simp))]; exact h3
  ·rw [h5 z hz fun q hq => hno q (by simp [hq]), hsw]
   have := hno [x, y] (by simp)
   simp only [Xa, Xd, or_false, not_or] at this
   rw [if_neg this.2, if_neg this.1]
  ·rcases Xa.1 hab with e | hm
   ·obtain ⟨rfl, rfl⟩ : a = x ∧ b = y := by simpa using e
    have k1 := h5 a.toNat (by omega) (fun q hq => by rw [ex]; exact hA.1 q hq a (by simp))
    have k2 := h5 b.toNat (by omega) (fun q hq => by rw [ey]; exact hA.1 q hq b (by simp))
    have s1 := hsw a.toNat
    have s2 := hsw b.toNat
    rw [ex] at k1 s1
    rw [ey] at k2 s2
    rw [k1, k2, s1, s2, if_neg (by omega), if_pos rfl, if_pos rfl]
    exact ⟨rfl, rfl⟩
   ·have hd := hA.1 _ hm
    obtain ⟨a', b', e, g0, g1, g2⟩ := Qkq (hp [a, b] (by simp [hm]))
    obtain ⟨rfl, rfl⟩ : a = a' ∧ b = b' := by simpa using e
    have hx := hd x (by simp)
    have hy := hd y (by simp)
    simp only [Xa, Xd, or_false, not_or] at hx hy
    have ea : ((a.toNat : Nat) : Int) = a := by omega
    have eb : ((b.toNat : Nat) : Int) = b := by omega
    have s1 := hsw a.toNat
    have s2 := hsw b.toNat
    rw [ea, if_neg (fun e => hy.1 e.symm), if_neg (fun e => hx.1 e.symm)] at s1
    rw [eb, if_neg (fun e => hy.2 e.symm), if_neg (fun e => hx.2 e.symm)] at s2
    obtain ⟨k1, k2⟩ := h6 a b hm
    exact ⟨by rw [k1, s2], by rw [k2, s1]⟩
def plN (m s i : Nat) : Nat := if i ≤ s then s - i else m + s - i
theorem Ql3 {m s i : Nat} (hs : s ≤ 1) (hm : 1 < m) (hi : i < m) : ((s : Int) - (i : Int) + (m : Int)).tmod m = plN m s i := by
 rw [Int.tmod_eq_emod_of_nonneg (by omega)]
 unfold plN
 split
 ·have e : (s : Int) - i + m = ((s - i : Nat) : Int) + m := by omega
  rw [e, Int.add_emod_right, Xo (by omega) (by omega)]
 ·have e : (s : Int) - i + m = ((m + s - i : Nat) : Int) := by omega
  rw [e, Xo (by omega) (by omega)]
theorem Qm5 {m s i : Nat} (hs : s ≤ 1) (hm : 1 < m) (hi : i < m) : plN m s i < m := by unfold plN; split <;> omega
theorem Qry {m s i : Nat} (hs : s ≤ 1) (hm : 1 < m) (hi : i < m) : plN m s (plN m s i) = i := by
 unfold plN
 by_cases h1 : i ≤ s
 ·rw [if_pos h1, if_pos (by omega)]; omega
 ·rw [if_neg h1]
  by_cases h2 : m + s - i ≤ s
  ·omega
  ·rw [if_neg h2]; omega
theorem Qkm {l : List Int} {s : Nat} (hs : s ≤ 1) (hm : 1 < l.length) {q : List Int} : q ∈ mirN l s l.length ↔ ∃ i a b, i < plN l.length s i ∧ l[i]? = some a ∧ l[plN l.length s i]? = some b ∧ q = Qda a b := by
 unfold mirN
 rw [List.mem_filterMap]
 constructor
 ·rintro ⟨i, hi, h⟩
  rw [Zk] at hi
  simp only [Ql3 hs hm hi] at h
  split at h
  ·rename_i hlt
   have hk := Qm5 hs hm hi
   refine ⟨i, l[i], l[plN l.length s i], by omega, Qc hi, Qc hk, ?_⟩
   have e1 : l[i]?.getD 0 = l[i] := by rw [Qc hi]; rfl
   have e2 : atN l (plN l.length s i : Nat) = l[plN l.length s i] := by unfold atN; rw [Qt, Qc hk]; rfl
   rw [e1, e2] at h
   exact (Zj.inj h).symm
  ·cases h
 ·rintro ⟨i, a, b, hlt, ha, hb, rfl⟩
  have hi := Qai ha
  refine ⟨i, Zk.2 hi, ?_⟩
  simp only [Ql3 hs hm hi]
  rw [if_pos (by omega)]
  have e2 : atN l (plN l.length s i : Nat) = b := by unfold atN; rw [Qt, hb]; rfl
  rw [ha, e2]; rfl
theorem Qdi {a b x : Int} : x ∈ Qda a b ↔ x = a ∨ x = b := by
 unfold Qda
 simp only [Xa, Xd, or_false]
 omega
theorem Qco {t : List Int} : ∀ i : Nat, ∀ l ∈ (Qbu t i).2, 1 < l.length
 | 0, l, hl => by simp [Qbu] at hl
 | i + 1, l, hl => by
  rw [Qbu] at hl
  simp only at hl
  split at hl
  ·rename_i h
   rcases Ze.1 hl with hl | hl
   ·exact Qco i l hl
   ·rw [Zo] at hl; rw [hl]; exact h
  ·exact Qco i l hl
theorem Qj2 (t : List Int) (s : Int) : Qbo t s (Qbr t).length = (Qbr t).flatMap fun c => mirN c s c.length := by unfold Qbo; rw [Xe]
section
variable {n : Nat} {t : List Int} (hT : IsTak n t) {s : Nat} (hs : s ≤ 1)
include hT hs
theorem Qf4 {q : List Int} : q ∈ Qbo t s (Qbr t).length ↔ ∃ c ∈ Qbr t, ∃ i a b, i < plN c.length s i ∧ c[i]? = some a ∧ c[plN c.length s i]? = some b ∧ q = Qda a b := by
 rw [Qj2, List.mem_flatMap]
 constructor
 ·rintro ⟨c, hc, h⟩
  exact ⟨c, hc, (Qkm hs (Qco t.length c hc)).1 h⟩
 ·rintro ⟨c, hc, h⟩
  exact ⟨c, hc, (Qkm hs (Qco t.length c hc)).2 h⟩
theorem Qhi : ∀ q ∈ Qbo t s (Qbr t).length, Qbl q n = true := by
 intro q hq
 obtain ⟨c, hc, i, a, b, hlt, ha, hb, rfl⟩ := (Qf4 hT hs).1 hq
 have hC := (Qfd hT).1 c hc
 refine Qqh (hC.below.in_ a (Q3 ha)) (hC.below.in_ b (Q3 hb)) fun e => ?_
 subst e
 have := Qdr hC.below.nd ha hb
 omega
theorem Qg8 : Qp2 (Qbo t s (Qbr t).length) := by
 unfold Qp2
 rw [Qj2, List.pairwise_flatMap]
 obtain ⟨h1, h2, _⟩ := Qfd hT
 refine ⟨fun c hc => ?_, h2.imp_of_mem ?_⟩
 ·have hC := h1 c hc
  have hm := Qco t.length c hc
  unfold mirN
  rw [List.pairwise_filterMap]
  refine Xk.imp_of_mem ?_ Xf
  intro i j hi hj hij q hq q' hq' x hx hx'
  rw [Zk] at hi hj
  simp only [Ql3 hs hm hi] at hq
  simp only [Ql3 hs hm hj] at hq'
  split at hq
  ·rename_i hi2
   split at hq'
   ·rename_i hj2
    have ki := Qm5 hs hm hi
    have kj := Qm5 hs hm hj
    have ei : atN c (plN c.length s i : Nat) = c[plN c.length s i] := by unfold atN; rw [Qt, Qc ki]; rfl
    have ej : atN c (plN c.length s j : Nat) = c[plN c.length s j] := by unfold atN; rw [Qt, Qc kj]; rfl
    rw [Qc hi, Qo, ei] at hq
    rw [Qc hj, Qo, ej] at hq'
    have e1 := Zj.inj hq
    have e2 := Zj.inj hq'
    rw [← e1, Qdi] at hx
    rw [← e2, Qdi] at hx'
    have nd := hC.below.nd
    have pi := Qry hs hm hi
    have pj := Qry hs hm hj
    rcases hx with hx | hx <;> rcases hx' with hx' | hx'
    ·have := Qdr nd (Qc hi) (by rw [Qc hj, ← hx', hx]); omega
    ·have := Qdr nd (Qc hi) (by rw [Qc kj, ← hx', hx]); rw [this, pj] at hi2; omega
    ·have := Qdr nd (Qc ki) (by rw [Qc hj, ← hx', hx]); rw [← this, pi] at hj2; omega
    ·have := Qdr nd (Qc ki) (by rw [Qc kj, ← hx', hx])
     have : i = j := by rw [← pi, this, pj]
     omega
   ·cases hq'
  ·cases hq
 ·intro c c' hc hc' hd q hq q' hq' x hx hx'
  obtain ⟨i, a, b, _, ha, hb, rfl⟩ := (Qkm hs (Qco t.length c hc)).1 hq
  obtain ⟨j, a', b', _, ha', hb', rfl⟩ := (Qkm hs (Qco t.length c' hc')).1 hq'
  have m1 : x ∈ c := by
   rcases Qdi.1 hx with e | e
   ·rw [e]; exact Q3 ha
   ·rw [e]; exact Q3 hb
  have m2 : x ∈ c' := by
   rcases Qdi.1 hx' with e | e
   ·rw [e]; exact Q3 ha'
   ·rw [e]; exact Q3 hb'
  exact hd x m1 m2
theorem Qei {u : List Int} (hu : IsTak n u) : ∃ p, Qc7 n (Qbo t s (Qbr t).length) u = some p ∧ IsTak n p ∧
  (∀ c ∈ Qbr t, ∀ i a b, c[i]? = some a → c[plN c.length s i]? = some b → atN p a = atN u b) ∧ ∀ x : Nat, x < n → (∀ c ∈ Qbr t, (x : Int) ∉ c) → atN p x = atN u x := by
 obtain ⟨p, h1, h2, h3, h4⟩ := Qig _ u (Qhi hT hs) (Qg8 hT hs) hu
 obtain ⟨hc1, hc2, _⟩ := Qfd hT
 refine ⟨p, h1, h2, fun c hc i a b ha hb => ?_, fun x hx hno => ?_⟩
 ·have hC := hc1 c hc
  have hm := Qco t.length c hc
  have hi := Qai ha
  have key : ∀ x y, Qda x y ∈ Qbo t s (Qbr t).length → atN p x = atN u y ∧ atN p y = atN u x := fun x y h => by
   have := h4 (min x y) (max x y) h
   by_cases hxy : x ≤ y
   ·rw [Int.min_eq_left hxy, Int.max_eq_right hxy] at this; exact this
   ·rw [Int.min_eq_right (by omega), Int.max_eq_left (by omega)] at this; exact ⟨this.2, this.1⟩
  rcases Nat.lt_trichotomy i (plN c.length s i) with hlt | heq | hgt
  ·exact (key a b ((Qf4 hT hs).2 ⟨c, hc, i, a, b, hlt, ha, hb, rfl⟩)).1
  ·rw [← heq, ha] at hb
   have eab := Zj.inj hb
   rw [← eab]
   have hain := hC.below.in_ a (Q3 ha)
   have ea : ((a.toNat : Nat) : Int) = a := by omega
   have := h3 a.toNat (by omega) fun q hq hq2 => by
    rw [ea] at hq2
    obtain ⟨c', hc', j, a', b', hj, ha', hb', rfl⟩ := (Qf4 hT hs).1 hq
    have m2 : a ∈ c' := by
     rcases Qdi.1 hq2 with e | e
     ·rw [e]; exact Q3 ha'
     ·rw [e]; exact Q3 hb'
    have hcc : c' = c := by
     refine Classical.byContradiction fun hne => ?_
     obtain ⟨x1, hx1⟩ := Zc hc
     obtain ⟨x2, hx2⟩ := Zc hc'
     obtain ⟨l1, e1⟩ := Zl.1 hx1
     obtain ⟨l2, e2⟩ := Zl.1 hx2
     have hp := Zw.1 hc2
     have hxx : x1 ≠ x2 := fun e => by subst e; rw [hx1] at hx2; exact hne (Zj.inj hx2).symm
     rcases Xl hxx with h | h
     ·have := hp x1 x2 l1 l2 h a (by rw [e1]; exact Q3 ha)
      rw [e2] at this; exact this m2
     ·have := hp x2 x1 l2 l1 h a (by rw [e2]; exact m2)
      rw [e1] at this; exact this (Q3 ha)
    subst hcc
    have hj1 := Qai ha'
    rcases Qdi.1 hq2 with e | e
    ·rw [← e] at ha'
     have := Qdr hC.below.nd ha ha'
     subst this; omega
    ·rw [← e] at hb'
     have := Qdr hC.below.nd ha hb'
     have hpp := Qry hs hm hj1
     rw [← this, ← heq] at hpp
     omega
   rw [ea] at this
   exact this
  ·have hk := Qm5 hs hm hi
   have hpp := Qry hs hm hi
   exact (key b a ((Qf4 hT hs).2 ⟨c, hc, plN c.length s i, b, a, by rw [hpp]; exact hgt, hb, by rw [hpp]; exact ha, rfl⟩)).2
 ·refine h3 x hx fun q hq hxq => ?_
  obtain ⟨c, hc, i, a, b, _, ha, hb, rfl⟩ := (Qf4 hT hs).1 hq
  rcases Qdi.1 hxq with e | e
  ·exact hno c hc (by rw [e]; exact Q3 ha)
  ·exact hno c hc (by rw [e]; exact Q3 hb)
end
end Go.C10
set_option linter.unusedSimpArgs false
set_option linter.unusedVariables false
namespace Go.C10
open Go.Fam Go.Proofs
theorem Qyz {m i : Nat} (hm : 1 < m) (hi : i + 1 < m) : plN m 0 (plN m 1 (i + 1)) = i := by
 unfold plN
 repeat' split
 all_goals omega
theorem Qx8 {m : Nat} (hm : 1 < m) : plN m 0 (plN m 1 0) = m - 1 := by
 unfold plN
 repeat' split
 all_goals omega
theorem Qz0 {m i : Nat} (hm : 1 < m) (hi : i + 1 < m) : plN m 1 (plN m 0 i) = i + 1 := by
 unfold plN
 repeat' split
 all_goals omega
theorem Qx9 {m i : Nat} (hm : 1 < m) (hi : i + 1 = m) : plN m 1 (plN m 0 i) = 0 := by
 unfold plN
 repeat' split
 all_goals omega
theorem Qmk {n : Nat} {t c : List Int} (hC : Circ n t c) (hm : 1 < c.length) {i : Nat} {x : Int} (hx : c[i]? = some x) : ∃ y z, c[plN c.length 1 i]? = some y ∧ c[plN c.length 0 (plN c.length 1 i)]? = some z ∧ atN t z = x := by
 have hi := Qai hx
 have h1 := Qm5 (s := 1) (by omega) hm hi
 have h0 := Qm5 (s := 0) (by omega) hm h1
 obtain ⟨y, hy⟩ : ∃ y, c[plN c.length 1 i]? = some y := ⟨_, Qc h1⟩
 obtain ⟨z, hz⟩ : ∃ y, c[plN c.length 0 (plN c.length 1 i)]? = some y := ⟨_, Qc h0⟩
 refine ⟨y, z, hy, hz, ?_⟩
 cases i with
 | zero =>
  rw [Qx8 hm] at hz
  exact hC.shut z x (by rw [Zm]; exact hz) (by rw [Zz]; exact hx)
 | succ i =>
  rw [Qyz hm hi] at hz
  exact (hC.chain i z x hz hx).symm
theorem Qoj {n : Nat} {t c : List Int} (hC : Circ n t c) (hm : 1 < c.length) {i : Nat} {x : Int} (hx : c[i]? = some x) : ∃ y z, c[plN c.length 0 i]? = some y ∧ c[plN c.length 1 (plN c.length 0 i)]? = some z ∧ z = atN t x := by
 have hi := Qai hx
 have h0 := Qm5 (s := 0) (by omega) hm hi
 have h1 := Qm5 (s := 1) (by omega) hm h0
 obtain ⟨y, hy⟩ : ∃ y, c[plN c.length 0 i]? = some y := ⟨_, Qc h0⟩
 obtain ⟨z, hz⟩ : ∃ y, c[plN c.length 1 (plN c.length 0 i)]? = some y := ⟨_, Qc h1⟩
 refine ⟨y, z, hy, hz, ?_⟩
 by_cases hl : i + 1 < c.length
 ·rw [Qz0 hm hl] at hz
  exact hC.chain i x z hx hz
 ·rw [Qx9 hm (by omega)] at hz
  exact (hC.shut x z (by rw [Zm, show c.length - 1 = i by omega]; exact hx) (by rw [Zz]; exact hz)).symm
theorem Qoy {n : Nat} {t : List Int} (hT : IsTak n t) : ∃ p q, Qc7 n (Qbo t 0 (Qbr t).length) t = some p ∧ Qc7 n (Qbo t 1 (Qbr t).length) p = some q ∧ IsTak n p ∧ IsTak n q ∧ Qbq q = true := by
 obtain ⟨p, h1, h2, h3, h4⟩ := Qei hT (s := 0) (by omega) hT
 obtain ⟨q, g1, g2, g3, g4⟩ := Qei hT (s := 1) (by omega) h2
 obtain ⟨c1, c2, c3⟩ := Qfd hT
 refine ⟨p, q, h1, g1, h2, g2, ?_⟩
 rw [Qd8, g2.size]
 intro x hx
 by_cases hc : ∃ c ∈ Qbr t, (x : Int) ∈ c
 ·obtain ⟨c, hc, hxc⟩ := hc
  obtain ⟨i, hi⟩ := Zc hxc
  obtain ⟨y, z, hy, hz, e⟩ := Qmk (c1 c hc) (Qco t.length c hc) hi
  rw [g3 c hc i x y hi hy, h3 c hc _ y z hy hz, e]
 ·have hno : ∀ c ∈ Qbr t, (x : Int) ∉ c := fun c hc2 hx2 => hc ⟨c, hc2, hx2⟩
  rw [g4 x hx hno, h4 x hx hno]
  rcases c3 x (by omega) with h | ⟨c, hc2, hx2⟩
  ·exact h
  ·exact absurd hx2 (hno c hc2)
theorem Qs9 {n : Nat} {t : List Int} (hT : IsTak n t) : ∃ p q, Qc7 n (Qbo t 1 (Qbr t).length) (bkN t n) = some p ∧ Qc7 n (Qbo t 0 (Qbr t).length) p = some q ∧ IsTak n p ∧ IsTak n q ∧ Qbq q = true := by
 obtain ⟨p, h1, h2, h3, h4⟩ := Qei hT (s := 1) (by omega) (Qvi hT)
 obtain ⟨q, g1, g2, g3, g4⟩ := Qei hT (s := 0) (by omega) h2
 obtain ⟨c1, c2, c3⟩ := Qfd hT
 have hb := Qsk hT
 refine ⟨p, q, h1, g1, h2, g2, ?_⟩
 rw [Qd8, g2.size]
 intro x hx
 by_cases hc : ∃ c ∈ Qbr t, (x : Int) ∈ c
 ·obtain ⟨c, hc, hxc⟩ := hc
  obtain ⟨i, hi⟩ := Zc hxc
  obtain ⟨y, z, hy, hz, e⟩ := Qoj (c1 c hc) (Qco t.length c hc) hi
  rw [g3 c hc i x y hi hy, h3 c hc _ y z hy hz, e]
  exact hb x hx
 ·have hno : ∀ c ∈ Qbr t, (x : Int) ∉ c := fun c hc2 hx2 => hc ⟨c, hc2, hx2⟩
  rw [g4 x hx hno, h4 x hx hno]
  rcases c3 x (by omega) with h | ⟨c, hc2, hx2⟩
  ·have := hb x hx
   rwa [h] at this
  ·exact absurd hx2 (hno c hc2)
def Qck (l : List (List Int)) (n : Int) : Bool := (List.range l.length).all fun (i : Nat) => Qbl (l[i]?.getD []) n && (!decide (atN (l[i]?.getD []) 0 ∈ (l.take i).flatten) && !decide (atN (l[i]?.getD []) 1 ∈ (l.take i).flatten))
theorem Qjr {l : List (List Int)} {n : Int} (hp : ∀ q ∈ l, Qbl q n = true) (hA : Qp2 l) : Qck l n = true := by
 unfold Qck
 rw [Z0]
 intro i hi
 rw [Zk] at hi
 rw [Qc hi, Qo]
 obtain ⟨x, y, e, _⟩ := Qkq (hp _ (Xc hi))
 have hno : ∀ z ∈ l[i], z ∉ (l.take i).flatten := fun z hz hm => by
  obtain ⟨q, hq, hzq⟩ := List.mem_flatten.1 hm
  obtain ⟨j, hj⟩ := Zc hq
  have hjl := Qai hj
  rw [Xq] at hjl
  rw [List.getElem?_take, if_pos (by omega), Qc (by omega)] at hj
  have hA' := Zw.1 hA j i (by omega) hi (by omega)
  have ej := Zj.inj hj
  exact hA' z (by rw [ej]; exact hzq) hz
 rw [hp _ (Xc hi), e]
 rw [e] at hno
 have e0 : atN [x, y] 0 = x := rfl
 have e1 : atN [x, y] 1 = y := rfl
 rw [e0, e1, decide_eq_false (hno x (by simp)), decide_eq_false (hno y (by simp))]
 rfl
theorem Qhw {n : Nat} {t : List Int} (hT : IsTak n t) : Qck (Qbo t 0 (Qbr t).length) n = true ∧ Qck (Qbo t 1 (Qbr t).length) n = true :=
 ⟨Qjr (Qhi hT (s := 0) (by omega)) (Qg8 hT (s := 0) (by omega)), Qjr (Qhi hT (s := 1) (by omega)) (Qg8 hT (s := 1) (by omega))⟩
end Go.C10
set_option maxRecDepth 8000
namespace Go.C10
open Go.Fam Go.Proofs
def rc36 : RC := (.seq (.reg false [(cX 1 0), (cI 2 0)]) (.keep [1] (.seq (.seq (.reg true [(cFa 4 1 0), (cLd 5 4 false 1), (cC 6 .lss 5 0), (cMv 7 6), (gQ 8 7 false [1] (.fad 0 (.t 1))), (gQ 9 7 false [8] (.ld false 1 (.t 8))), (gQ 10 7 false [9] (.bin .gtr (.t 9) (kI 7))), (cQ 11 [7,10] (.pick (.t 7) (kB true) (.t 10))), (cMv 12 11), (gQ 13 12 false [1] (.fad 2 (.t 1))), (gQ 14 12 false [13] (.ld false 1 (.t 13))), (gQ 15 12 false [14] (.bin .lss (.t 14) (kI 0))), (cQ 16 [12,15] (.pick (.t 12) (kB true) (.t 15))), (cMv 17 16), (gQ 18 17 false [1] (.fad 2 (.t 1))), (gQ 19 17 false [18] (.ld false 1 (.t 18))), (gQ 20 17 false [19] (.bin .gtr (.t 19) (kI 7))), (cQ 21 [17,20] (.pick (.t 17) (kB true) (.t 20)))]) (.keep [1,21] (.cond (.t 21) (.seq (.reg false [(cI 2 100)]) .ret) .skip))) (.keep [1] (.seq (.seq (.reg false [(cFa 22 1 1), (cLd 23 22 false 1), (cLn 24 23), (cC 25 .gtr 24 20)]) (.keep [1,25] (.cond (.t 25) (.seq (.reg false [(cI 2 101)]) .ret) .skip))) (.keep [1] (.seq (.seq (.reg false [(cI 3 0)]) (.keep [1,3] (.block 0 (.loop [1,3] none (.seq (.seq (.reg false [(cMv 26 3), (cFa 27 1 1), (cLd 28 27 false 1), (cLn 29 28), (cB 30 .lss 26 29)]) (.keep [1,3,30] (.cond (.t 30) .skip (.exit 0)))) (.keep [1,3] (.seq (.block 1 (.seq (.any false 0 [⟨(cLd 33 1 true 3), [], []⟩, ⟨(cFa 34 1 1), [], []⟩, ⟨(cLd 35 34 false 1), [], [1]⟩, ⟨(cMv 36 3), [], []⟩, ⟨(cA 37 4 35 36), [], [2,1,3]⟩, ⟨(cLd 38 37 true 4), [], [4,2,1,3]⟩, ⟨(cQ 39 [33,38] (.call (kF 65) [(.t 33), (.t 38)])), [], [0,5,4,2,1,3]⟩, ⟨(cN 40 39), [], [6,0,5,4,2,1,3]⟩]) (.keep [1,3,40] (.cond (.t 40) (.seq (.reg false [(cI 2 101)]) .ret) .skip)))) (.keep [1,3] (.reg false [(cMv 31 3), (cC 32 .add 31 1), (cMv 3 32)]))))))))) (.keep [] (.seq (.reg false [(cI 2 0)]) .ret)))))))))
def pu36 : List Nat := [1]
def rs36 : List RV := [.t 2]
theorem cc36 : CCx Try.prog Try.f36 pu36 rc36 := by unfold CCx; kernel_rfl
theorem cb36 : CBx Try.f36 := by unfold CBx; kernel_rfl
theorem cs36 : CSx Try.prog Try.f36 rs36 := by unfold CSx; kernel_rfl
theorem cn36 : 1 ≤ Try.f36.ntmps := by decide
def rc65 : RC := (.seq (.reg false [(cX 2 0), (cX 3 1), (cQ 4 [] (.mv (kB false)))]) (.keep [2,3] (.seq (.seq (.reg true [(cLd 6 2 true 3), (cFa 7 3 1), (cLd 8 7 false 1), (cQ 9 [6,8] (.call (kF 62) [(.t 6), (.t 8)])), (cN 10 9), (cMv 11 10), (gQ 12 11 false [2] (.ld true 3 (.t 2))), (gQ 13 11 false [3] (.fad 2 (.t 3))), (gQ 14 11 false [13] (.ld false 1 (.t 13))), (gQ 15 11 false [12,14] (.call (kF 62) [(.t 12), (.t 14)])), (gQ 16 11 false [15] (.not (.t 15))), (cQ 17 [11,16] (.pick (.t 11) (kB true) (.t 16)))]) (.keep [2,3,17] (.cond (.t 17) (.seq (.reg false [(cQ 4 [] (.mv (kB false)))]) .ret) .skip))) (.keep [2,3] (.seq (.seq (.reg true [(cFa 18 3 0), (cLd 19 18 false 1), (cC 20 .eql 19 3), (cMv 21 20), (gQ 22 21 false [3] (.fad 0 (.t 3))), (gQ 23 21 false [22] (.ld false 1 (.t 22))), (gQ 24 21 false [23] (.bin .eql (.t 23) (kI 4))), (cQ 25 [21,24] (.pick (.t 21) (kB true) (.t 24)))]) (.keep [2,3,25] (.cond (.t 25) (.seq (.reg true [(cFa 26 3 3), (cLd 27 26 false 1), (cLn 28 27), (cC 29 .eql 28 0), (cMv 30 29), (gQ 31 30 true [3] (.fad 1 (.t 3))), (gQ 32 30 true [31] (.ld false 1 (.t 31))), (gQ 33 30 true [3] (.fad 2 (.t 3))), (gQ 34 30 true [33] (.ld false 1 (.t 33))), (gQ 35 30 true [32,34] (.bin .neq (.t 32) (.t 34))), (cQ 36 [30,35] (.pick (.t 30) (.t 35) (kB false))), (cMv 4 36)]) .ret) .skip))) (.keep [2,3] (.seq (.seq (.reg true [(cFa 37 3 0), (cLd 38 37 false 1), (cC 39 .neq 38 1), (cMv 40 39), (gQ 41 40 true [3] (.fad 0 (.t 3))), (gQ 42 40 true [41] (.ld false 1 (.t 41))), (gQ 43 40 true [42] (.bin .neq (.t 42) (kI 2))), (cQ 44 [40,43] (.pick (.t 40) (.t 43) (kB false))), (cMv 45 44), (gQ 46 45 false [3] (.fad 3 (.t 3))), (gQ 47 45 false [46] (.ld false 1 (.t 46))), (gQ 48 45 false [47] (.len (.t 47))), (gQ 49 45 false [48] (.bin .eql (.t 48) (kI 0))), (cQ 50 [45,49] (.pick (.t 45) (kB true) (.t 49))), (cMv 51 50), (gQ 52 51 false [3] (.fad 2 (.t 3))), (gQ 53 51 false [52] (.ld false 1 (.t 52))), (gQ 54 51 false [53] (.bin .neq (.t 53) (kI 0))), (cQ 55 [51,54] (.pick (.t 51) (kB true) (.t 54)))]) (.keep [2,3,55] (.cond (.t 55) (.seq (.reg false [(cQ 4 [] (.mv (kB false)))]) .ret) .skip))) (.keep [2,3] (.seq (.seq (.reg false [(cI 5 0)]) (.keep [2,3,5] (.block 0 (.loop [2,3,5] none (.seq (.seq (.reg false [(cMv 56 5), (cFa 57 3 3), (cLd 58 57 false 1), (cLn 59 58), (cB 60 .lss 56 59)]) (.keep [2,3,5,60] (.cond (.t 60) .skip (.exit 0)))) (.keep [2,3,5] (.seq (.block 1 (.seq (.any true 0 [⟨(cLd 63 2 true 3), [], []⟩, ⟨(cFa 64 3 3), [], []⟩, ⟨(cLd 65 64 false 1), [], [1]⟩, ⟨(cMv 66 5), [], []⟩, ⟨(cA 67 1 65 66), [], [2,1,3]⟩, ⟨(cLd 68 67 false 1), [], [4,2,1,3]⟩, ⟨(cQ 69 [63,68] (.call (kF 62) [(.t 63), (.t 68)])), [], [0,5,4,2,1,3]⟩, ⟨(cN 70 69), [], [6,0,5,4,2,1,3]⟩, ⟨(cMv 71 70), [], [7,6,0,5,4,2,1,3]⟩, ⟨(gMv 72 71 false 5), [], [8,7,6,0,5,4,2,1,3]⟩, ⟨(gQ 73 71 false [72] (.bin .gtr (.t 72) (kI 0))), [], [9,8,7,6,0,5,4,2,1,3]⟩, ⟨(gMv 74 71 false 73), [], [10,9,8,7,6,0,5,4,2,1,3]⟩, ⟨(gQ 75 74 true [3] (.fad 3 (.t 3))), [], [11,10,9,8,7,6,0,5,4,2,1,3]⟩, ⟨(gQ 76 74 true [75] (.ld false 1 (.t 75))), [], [12,11,10,9,8,7,6,0,5,4,2,1,3]⟩, ⟨(gMv 77 74 true 5), [], [11,10,9,8,7,6,0,5,4,2,1,3]⟩, ⟨(gQ 78 74 true [76,77] (.iad 1 (.t 76) (.t 77))), [], [13,12,11,10,9,8,7,6,0,5,4,2,1,3,14]⟩, ⟨(gQ 79 74 true [78] (.ld false 1 (.t 78))), [], [15,13,12,11,10,9,8,7,6,0,5,4,2,1,3,14]⟩, ⟨(gQ 80 74 true [3] (.fad 3 (.t 3))), [], [11,10,9,8,7,6,0,5,4,2,1,3]⟩, ⟨(gQ 81 74 true [80] (.ld false 1 (.t 80))), [], [17,11,10,9,8,7,6,0,5,4,2,1,3]⟩, ⟨(gMv 82 74 true 5), [], [11,10,9,8,7,6,0,5,4,2,1,3]⟩, ⟨(gQ 83 74 true [82] (.bin .sub (.t 82) (kI 1))), [], [19,11,10,9,8,7,6,0,5,4,2,1,3]⟩, ⟨(gQ 84 74 true [81,83] (.iad 1 (.t 81) (.t 83))), [], [18,17,11,10,9,8,7,6,0,5,4,2,1,3,20,19]⟩, ⟨(gQ 85 74 true [84] (.ld false 1 (.t 84))), [], [21,18,17,11,10,9,8,7,6,0,5,4,2,1,3,20,19]⟩, ⟨(gQ 86 74 true [79,85] (.bin .leq (.t 79) (.t 85))), [], [16,15,13,12,11,10,9,8,7,6,0,5,4,2,1,3,14,22,21,18,17,20,19]⟩, ⟨(gQ 87 71 false [74,86] (.pick (.t 74) (.t 86) (kB false))), [], [11,10,9,8,7,6,0,5,4,2,1,3,23,16,15,13,12,14,22,21,18,17,20,19]⟩, ⟨(cQ 88 [71,87] (.pick (.t 71) (kB true) (.t 87))), [], [8,7,6,0,5,4,2,1,3,24,11,10,9,23,16,15,13,12,14,22,21,18,17,20,19]⟩]) (.keep [2,3,5,88] (.cond (.t 88) (.seq (.reg false [(cQ 4 [] (.mv (kB false)))]) .ret) .skip)))) (.keep [2,3,5] (.reg false [(cMv 61 5), (cC 62 .add 61 1), (cMv 5 62)]))))))))) (.keep [] (.seq (.reg false [(cQ 4 [] (.mv (kB true)))]) .ret)))))))))))
def pu65 : List Nat := [2,3]
def rs65 : List RV := [.t 4]
theorem cc65 : CCx Try.prog Try.f65 pu65 rc65 := by unfold CCx; kernel_rfl
theorem cb65 : CBx Try.f65 := by unfold CBx; kernel_rfl
theorem cs65 : CSx Try.prog Try.f65 rs65 := by unfold CSx; kernel_rfl
theorem cn65 : 2 ≤ Try.f65.ntmps := by decide
def rc62 : RC := (.seq (.reg false [(cX 2 0), (cQ 4 [] (.mv (kB false)))]) (.keep [1,2] (.seq (.reg true [(cMv 5 1), (cC 6 .geq 5 0), (cMv 7 6), (gMv 8 7 true 1), (gQ 9 7 true [2] (.fad 0 (.t 2))), (gQ 10 7 true [9] (.ld false 1 (.t 9))), (gQ 11 7 true [8,10] (.bin .lss (.t 8) (.t 10))), (cQ 12 [7,11] (.pick (.t 7) (.t 11) (kB false))), (cMv 4 12)]) .ret)))
def pu62 : List Nat := [2]
def rs62 : List RV := [.t 4]
theorem cc62 : CCx Try.prog Try.f62 pu62 rc62 := by unfold CCx; kernel_rfl
theorem cb62 : CBx Try.f62 := by unfold CBx; kernel_rfl
theorem cs62 : CSx Try.prog Try.f62 rs62 := by unfold CSx; kernel_rfl
theorem cn62 : 2 ≤ Try.f62.ntmps := by decide
def rc52 : RC := (.seq (.reg false [(cQ 4 [] (.mv (kB false)))]) (.keep [0,1] (.seq (.seq (.reg false [(cI 5 0)]) (.keep [0,1,5] (.block 0 (.loop [0,1,5] none (.seq (.seq (.reg false [(cMv 6 5), (cMv 7 0), (cLn 8 7), (cB 9 .lss 6 8)]) (.keep [0,1,5,9] (.cond (.t 9) .skip (.exit 0)))) (.keep [0,1,5] (.seq (.block 1 (.seq (.reg false [(cMv 12 0), (cMv 13 5), (cA 14 1 12 13), (cLd 15 14 false 1), (cMv 16 1), (cB 17 .eql 15 16)]) (.keep [0,1,5,17] (.cond (.t 17) (.seq (.reg false [(cQ 4 [] (.mv (kB true)))]) .ret) .skip)))) (.keep [0,1,5] (.reg false [(cMv 10 5), (cC 11 .add 10 1), (cMv 5 11)]))))))))) (.keep [] (.seq (.reg false [(cQ 4 [] (.mv (kB false)))]) .ret)))))
def pu52 : List Nat := []
def rs52 : List RV := [.t 4]
theorem cc52 : CCx Try.prog Try.f52 pu52 rc52 := by unfold CCx; kernel_rfl
theorem cb52 : CBx Try.f52 := by unfold CBx; kernel_rfl
theorem cs52 : CSx Try.prog Try.f52 rs52 := by unfold CSx; kernel_rfl
theorem cn52 : 2 ≤ Try.f52.ntmps := by decide
def rc38 : RC := (.seq (.reg false [(cQ 4 [] (.mv (kB false)))]) (.keep [0,1] (.seq (.seq (.reg false [(cI 5 0)]) (.keep [0,1,5] (.block 0 (.loop [0,1,5] none (.seq (.seq (.reg false [(cMv 6 5), (cMv 7 0), (cLn 8 7), (cB 9 .lss 6 8)]) (.keep [0,1,5,9] (.cond (.t 9) .skip (.exit 0)))) (.keep [0,1,5] (.seq (.block 1 (.seq (.reg false [(cMv 12 0), (cMv 13 5), (cA 14 1 12 13), (cLd 15 14 false 1), (cMv 16 1), (cB 17 .eql 15 16)]) (.keep [0,1,5,17] (.cond (.t 17) (.seq (.reg false [(cQ 4 [] (.mv (kB true)))]) .ret) .skip)))) (.keep [0,1,5] (.reg false [(cMv 10 5), (cC 11 .add 10 1), (cMv 5 11)]))))))))) (.keep [] (.seq (.reg false [(cQ 4 [] (.mv (kB false)))]) .ret)))))
def pu38 : List Nat := []
def rs38 : List RV := [.t 4]
theorem cc38 : CCx Try.prog Try.f38 pu38 rc38 := by unfold CCx; kernel_rfl
theorem cb38 : CBx Try.f38 := by unfold CBx; kernel_rfl
theorem cs38 : CSx Try.prog Try.f38 rs38 := by unfold CSx; kernel_rfl
theorem cn38 : 2 ≤ Try.f38.ntmps := by decide
def rc43 : RC := (.seq (.reg false [(cX 2 0), (cQ 4 [] (.mv (kB false)))]) (.keep [1,2] (.seq (.seq (.reg false [(cFa 5 2 0), (cLd 6 5 false 1)]) (.keep [1,2,6] (.block 0 (.seq (.reg false [(cC 8 .eql 6 1), (cMv 7 8)]) (.keep [1,2,6,7] (.cond (.t 7) (.seq (.any false 0 [⟨(cFa 9 2 3), [], []⟩, ⟨(cLd 10 9 false 1), [], [0]⟩, ⟨(cMv 11 1), [], []⟩, ⟨(cFa 12 2 1), [], []⟩, ⟨(cLd 13 12 false 1), [], [3]⟩, ⟨(cA 14 1 11 13), [], [2,4,3]⟩, ⟨(cLd 15 14 false 1), [], [5,2,4,3]⟩, ⟨(cQ 16 [10,15] (.call (kF 52) [(.t 10), (.t 15)])), [], [1,0,6,5,2,4,3]⟩, ⟨(cMv 4 16), [], [7,1,0,6,5,2,4,3]⟩]) .ret) (.seq (.reg false [(cC 18 .eql 6 2), (cMv 17 18)]) (.keep [1,2,6,17] (.cond (.t 17) (.seq (.any false 0 [⟨(cFa 19 2 3), [], []⟩, ⟨(cLd 20 19 false 1), [], [0]⟩, ⟨(cMv 21 1), [], []⟩, ⟨(cFa 22 2 1), [], []⟩, ⟨(cLd 23 22 false 1), [], [3]⟩, ⟨(cA 24 1 21 23), [], [2,4,3]⟩, ⟨(cLd 25 24 false 1), [], [5,2,4,3]⟩, ⟨(cQ 26 [20,25] (.call (kF 52) [(.t 20), (.t 25)])), [], [1,0,6,5,2,4,3]⟩, ⟨(cN 27 26), [], [7,1,0,6,5,2,4,3]⟩, ⟨(cMv 4 27), [], [8,7,1,0,6,5,2,4,3]⟩]) .ret) (.seq (.reg false [(cC 29 .eql 6 3), (cMv 28 29)]) (.keep [1,2,28] (.cond (.t 28) (.seq (.any true 0 [⟨(cMv 30 1), [], []⟩, ⟨(cFa 31 2 1), [], []⟩, ⟨(cLd 32 31 false 1), [], [1]⟩, ⟨(cA 33 1 30 32), [], [0,2,1]⟩, ⟨(cLd 34 33 false 1), [], [3,0,2,1]⟩, ⟨(cFa 35 2 2), [], []⟩, ⟨(cLd 36 35 false 1), [], [5]⟩, ⟨(cB 37 .eql 34 36), [], [4,3,0,2,1,6,5]⟩, ⟨(cMv 38 37), [], [7,4,3,0,2,1,6,5]⟩, ⟨(gMv 39 38 true 1), [], [8,7,4,3,0,2,1,6,5]⟩, ⟨(gQ 40 38 true [2] (.fad 2 (.t 2))), [], [8,7,4,3,0,2,1,6,5]⟩, ⟨(gQ 41 38 true [40] (.ld false 1 (.t 40))), [], [10,8,7,4,3,0,2,1,6,5]⟩, ⟨(gQ 42 38 true [39,41] (.iad 1 (.t 39) (.t 41))), [], [9,8,7,4,3,0,2,1,6,5,11,10]⟩, ⟨(gQ 43 38 true [42] (.ld false 1 (.t 42))), [], [12,9,8,7,4,3,0,2,1,6,5,11,10]⟩, ⟨(gQ 44 38 true [2] (.fad 1 (.t 2))), [], [8,7,4,3,0,2,1,6,5]⟩, ⟨(gQ 45 38 true [44] (.ld false 1 (.t 44))), [], [14,8,7,4,3,0,2,1,6,5]⟩, ⟨(gQ 46 38 true [43,45] (.bin .eql (.t 43) (.t 45))), [], [13,12,9,8,7,4,3,0,2,1,6,5,11,10,15,14]⟩, ⟨(cQ 47 [38,46] (.pick (.t 38) (.t 46) (kB false))), [], [8,7,4,3,0,2,1,6,5,16,13,12,9,11,10,15,14]⟩, ⟨(cMv 4 47), [], [17,8,7,4,3,0,2,1,6,5,16,13,12,9,11,10,15,14]⟩]) .ret) .skip)))))))))))) (.keep [1,2] (.seq (.any true 0 [⟨(cMv 48 1), [], []⟩, ⟨(cFa 49 2 1), [], []⟩, ⟨(cLd 50 49 false 1), [], [1]⟩, ⟨(cA 51 1 48 50), [], [0,2,1]⟩, ⟨(cLd 52 51 false 1), [], [3,0,2,1]⟩, ⟨(cFa 53 2 1), [], []⟩, ⟨(cLd 54 53 false 1), [], [5]⟩, ⟨(cB 55 .eql 52 54), [], [4,3,0,2,1,6,5]⟩, ⟨(cMv 56 55), [], [7,4,3,0,2,1,6,5]⟩, ⟨(gMv 57 56 false 1), [], [8,7,4,3,0,2,1,6,5]⟩, ⟨(gQ 58 56 false [2] (.fad 2 (.t 2))), [], [8,7,4,3,0,2,1,6,5]⟩, ⟨(gQ 59 56 false [58] (.ld false 1 (.t 58))), [], [10,8,7,4,3,0,2,1,6,5]⟩, ⟨(gQ 60 56 false [57,59] (.iad 1 (.t 57) (.t 59))), [], [9,8,7,4,3,0,2,1,6,5,11,10]⟩, ⟨(gQ 61 56 false [60] (.ld false 1 (.t 60))), [], [12,9,8,7,4,3,0,2,1,6,5,11,10]⟩, ⟨(gQ 62 56 false [2] (.fad 2 (.t 2))), [], [8,7,4,3,0,2,1,6,5]⟩, ⟨(gQ 63 56 false [62] (.ld false 1 (.t 62))), [], [14,8,7,4,3,0,2,1,6,5]⟩, ⟨(gQ 64 56 false [61,63] (.bin .eql (.t 61) (.t 63))), [], [13,12,9,8,7,4,3,0,2,1,6,5,11,10,15,14]⟩, ⟨(cQ 65 [56,64] (.pick (.t 56) (kB true) (.t 64))), [], [8,7,4,3,0,2,1,6,5,16,13,12,9,11,10,15,14]⟩, ⟨(cMv 4 65), [], [17,8,7,4,3,0,2,1,6,5,16,13,12,9,11,10,15,14]⟩]) .ret)))))
def pu43 : List Nat := [2]
def rs43 : List RV := [.t 4]
theorem cc43 : CCx Try.prog Try.f43 pu43 rc43 := by unfold CCx; kernel_rfl
theorem cb43 : CBx Try.f43 := by unfold CBx; kernel_rfl
theorem cs43 : CSx Try.prog Try.f43 rs43 := by unfold CSx; kernel_rfl
theorem cn43 : 2 ≤ Try.f43.ntmps := by decide
def rc18 : RC := (.seq (.reg false [(cQ 2 [] (.mv (kB false)))]) (.keep [0] (.seq (.seq (.reg false [(cI 3 0)]) (.keep [0,3] (.block 0 (.loop [0,3] none (.seq (.seq (.reg false [(cMv 4 3), (cMv 5 0), (cLn 6 5), (cB 7 .lss 4 6)]) (.keep [0,3,7] (.cond (.t 7) .skip (.exit 0)))) (.keep [0,3] (.seq (.block 1 (.seq (.any true 0 [⟨(cMv 10 0), [], []⟩, ⟨(cMv 11 3), [], []⟩, ⟨(cA 12 1 10 11), [], [0,1]⟩, ⟨(cLd 13 12 false 1), [], [2,0,1]⟩, ⟨(cC 14 .lss 13 0), [], [3,2,0,1]⟩, ⟨(cMv 15 14), [], [4,3,2,0,1]⟩, ⟨(gMv 16 15 false 0), [], [5,4,3,2,0,1]⟩, ⟨(gMv 17 15 false 3), [], [5,4,3,2,0,1]⟩, ⟨(gQ 18 15 false [16,17] (.iad 1 (.t 16) (.t 17))), [], [6,5,4,3,2,0,1,7]⟩, ⟨(gQ 19 15 false [18] (.ld false 1 (.t 18))), [], [8,6,5,4,3,2,0,1,7]⟩, ⟨(gMv 20 15 false 0), [], [5,4,3,2,0,1]⟩, ⟨(gQ 21 15 false [20] (.len (.t 20))), [], [10,5,4,3,2,0,1]⟩, ⟨(gQ 22 15 false [19,21] (.bin .geq (.t 19) (.t 21))), [], [9,8,6,5,4,3,2,0,1,7,11,10]⟩, ⟨(cQ 23 [15,22] (.pick (.t 15) (kB true) (.t 22))), [], [5,4,3,2,0,1,12,9,8,6,7,11,10]⟩, ⟨(cMv 24 23), [], [13,5,4,3,2,0,1,12,9,8,6,7,11,10]⟩, ⟨(gMv 25 24 false 0), [], [14,13,5,4,3,2,0,1,12,9,8,6,7,11,10]⟩, ⟨(gMv 26 24 false 3), [], [14,13,5,4,3,2,0,1,12,9,8,6,7,11,10]⟩, ⟨(gQ 27 24 false [25,26] (.slc 1 (.t 25) none (some (.t 26)))), [], [15,14,13,5,4,3,2,0,1,12,9,8,6,7,11,10,16]⟩, ⟨(gMv 28 24 false 0), [], [14,13,5,4,3,2,0,1,12,9,8,6,7,11,10]⟩, ⟨(gMv 29 24 false 3), [], [14,13,5,4,3,2,0,1,12,9,8,6,7,11,10]⟩, ⟨(gQ 30 24 false [28,29] (.iad 1 (.t 28) (.t 29))), [], [18,14,13,5,4,3,2,0,1,12,9,8,6,7,11,10,19]⟩, ⟨(gQ 31 24 false [30] (.ld false 1 (.t 30))), [], [20,18,14,13,5,4,3,2,0,1,12,9,8,6,7,11,10,19]⟩, ⟨(gQ 32 24 false [27,31] (.call (kF 52) [(.t 27), (.t 31)])), [], [17,15,14,13,5,4,3,2,0,1,12,9,8,6,7,11,10,16,21,20,18,19]⟩, ⟨(cQ 33 [24,32] (.pick (.t 24) (kB true) (.t 32))), [], [14,13,5,4,3,2,0,1,12,9,8,6,7,11,10,22,17,15,16,21,20,18,19]⟩]) (.keep [0,3,33] (.cond (.t 33) (.seq (.reg false [(cQ 2 [] (.mv (kB false)))]) .ret) .skip)))) (.keep [0,3] (.reg false [(cMv 8 3), (cC 9 .add 8 1), (cMv 3 9)]))))))))) (.keep [0] (.seq (.reg false [(cMv 34 0), (cLn 35 34), (cC 36 .leq 35 7), (cMv 2 36)]) .ret)))))
def pu18 : List Nat := []
def rs18 : List RV := [.t 2]
theorem cc18 : CCx Try.prog Try.f18 pu18 rc18 := by unfold CCx; kernel_rfl
theorem cb18 : CBx Try.f18 := by unfold CBx; kernel_rfl
theorem cs18 : CSx Try.prog Try.f18 rs18 := by unfold CSx; kernel_rfl
theorem cn18 : 1 ≤ Try.f18.ntmps := by decide
def rc35 : RC := (.seq (.reg false [(cX 1 0), (cQ 2 [] (.mv (kB false)))]) (.keep [1] (.seq (.seq (.reg false [(cFa 4 1 1), (cLd 5 4 false 1), (cLn 6 5), (cC 7 .gtr 6 60)]) (.keep [1,7] (.cond (.t 7) (.seq (.reg false [(cQ 2 [] (.mv (kB true)))]) .ret) .skip))) (.keep [1] (.seq (.seq (.reg false [(cI 3 0)]) (.keep [1,3] (.block 0 (.loop [1,3] none (.seq (.seq (.reg false [(cMv 8 3), (cFa 9 1 1), (cLd 10 9 false 1), (cLn 11 10), (cB 12 .lss 8 11)]) (.keep [1,3,12] (.cond (.t 12) .skip (.exit 0)))) (.keep [1,3] (.seq (.block 1 (.seq (.reg false [(cFa 15 1 1), (cLd 16 15 false 1), (cMv 17 3), (cA 18 4 16 17), (cFa 19 18 3), (cLd 20 19 false 1), (cLn 21 20), (cC 22 .gtr 21 60)]) (.keep [1,3,22] (.cond (.t 22) (.seq (.reg false [(cQ 2 [] (.mv (kB true)))]) .ret) .skip)))) (.keep [1,3] (.reg false [(cMv 13 3), (cC 14 .add 13 1), (cMv 3 14)]))))))))) (.keep [1] (.seq (.reg true [(cLd 23 1 true 3), (cQ 24 [23] (.call (kF 36) [(.t 23)])), (cC 25 .eql 24 0), (cMv 26 25), (gQ 27 26 true [1] (.fad 0 (.t 1))), (gQ 28 26 true [27] (.ld false 1 (.t 27))), (gQ 29 26 true [28] (.bin .gtr (.t 28) (kI 6))), (cQ 30 [26,29] (.pick (.t 26) (.t 29) (kB false))), (cMv 2 30)]) .ret)))))))
def pu35 : List Nat := [1]
def rs35 : List RV := [.t 2]
theorem cc35 : CCx Try.prog Try.f35 pu35 rc35 := by unfold CCx; kernel_rfl
theorem cb35 : CBx Try.f35 := by unfold CBx; kernel_rfl
theorem cs35 : CSx Try.prog Try.f35 rs35 := by unfold CSx; kernel_rfl
theorem cn35 : 1 ≤ Try.f35.ntmps := by decide
def rc29 : RC := (.seq (.reg false [(cX 1 0), (cQ 2 [] (.mv (kB false)))]) (.keep [1] (.seq (.reg true [(cLd 3 1 true 3), (cQ 4 [3] (.call (kF 35) [(.t 3)])), (cMv 5 4), (gQ 6 5 false [1] (.ld true 3 (.t 1))), (gQ 7 5 false [6] (.call (kF 36) [(.t 6)])), (gQ 8 5 false [7] (.bin .eql (.t 7) (kI 0))), (gMv 9 5 false 8), (gQ 10 9 true [1] (.fad 0 (.t 1))), (gQ 11 9 true [10] (.ld false 1 (.t 10))), (gQ 12 9 true [11] (.bin .gtr (.t 11) (kI 4))), (gQ 13 5 false [9,12] (.pick (.t 9) (.t 12) (kB false))), (cQ 14 [5,13] (.pick (.t 5) (kB true) (.t 13))), (cMv 2 14)]) .ret)))
def pu29 : List Nat := [1]
def rs29 : List RV := [.t 2]
theorem cc29 : CCx Try.prog Try.f29 pu29 rc29 := by unfold CCx; kernel_rfl
theorem cb29 : CBx Try.f29 := by unfold CBx; kernel_rfl
theorem cs29 : CSx Try.prog Try.f29 rs29 := by unfold CSx; kernel_rfl
theorem cn29 : 1 ≤ Try.f29.ntmps := by decide
def rc14 : RC := (.seq (.reg false [(cX 1 0), (cQ 2 [] (.mv (kB false)))]) (.keep [1] (.seq (.reg true [(cLd 3 1 true 3), (cQ 4 [3] (.call (kF 29) [(.t 3)])), (cN 5 4), (cMv 6 5), (gQ 7 6 true [1] (.ld true 3 (.t 1))), (gQ 8 6 true [7] (.call (kF 36) [(.t 7)])), (gQ 9 6 true [8] (.bin .eql (.t 8) (kI 0))), (cQ 10 [6,9] (.pick (.t 6) (.t 9) (kB false))), (cMv 2 10)]) .ret)))
def pu14 : List Nat := [1]
def rs14 : List RV := [.t 2]
theorem cc14 : CCx Try.prog Try.f14 pu14 rc14 := by unfold CCx; kernel_rfl
theorem cb14 : CBx Try.f14 := by unfold CBx; kernel_rfl
theorem cs14 : CSx Try.prog Try.f14 rs14 := by unfold CSx; kernel_rfl
theorem cn14 : 1 ≤ Try.f14.ntmps := by decide
def rc49 : RC := (.seq (.reg false [⟨(some 0), none, [], none, .w (.alc [(.i 0), (.z 4), (.i 0)])⟩]) (.keep [0] (.seq (.reg false [(cQ 1 [] (.bsl 1 2 [(.i 0)] [(0,1, (kI 1)), (1,1, (kI 2))])), (cQ 2 [1] (.bld [(.i 0), (.i 0), (.i 0), (.z 1)] [(0,1, (kI 1)), (3,1, (.t 1))])), (cQ 3 [] (.bsl 1 1 [(.i 0)] [(0,1, (kI 3))])), (cQ 4 [3] (.bld [(.i 0), (.i 0), (.i 0), (.z 1)] [(0,1, (kI 2)), (1,1, (kI 3)), (3,1, (.t 3))])), (cQ 5 [] (.bld [(.i 0), (.i 0), (.i 0), (.z 1)] [(0,1, (kI 4)), (1,1, (kI 1)), (2,1, (kI 2))])), (cQ 6 [2,4,5] (.bsl 4 3 [(.i 0), (.i 0), (.i 0), (.z 1)] [(0,4, (.t 2)), (4,4, (.t 4)), (8,4, (.t 5))])), (cQ 7 [6] (.bld [(.i 0), (.z 4), (.i 0)] [(0,1, (kI 4)), (1,1, (.t 6))])), ⟨none, none, [0,7], none, .w (.st 3 (.t 0) (.t 7))⟩]) .ret)))
def pu49 : List Nat := [1,3,6]
def rs49 : List RV := [.c 0 true 3]
theorem cc49 : CCx Try.prog Try.f49 pu49 rc49 := by unfold CCx; kernel_rfl
theorem cb49 : CBx Try.f49 := by unfold CBx; kernel_rfl
theorem cs49 : CSx Try.prog Try.f49 rs49 := by unfold CSx; kernel_rfl
theorem cn49 : 0 ≤ Try.f49.ntmps := by decide
def rc15 : RC := (.seq (.reg false [(cQ 0 [] (.mv (kB false)))]) (.keep [] (.seq (.reg false [(cQ 13 [] (.call (kF 49) [])), ⟨(some 1), none, [], none, .w (.alc [(.i 0), (.z 4), (.i 0)])⟩, ⟨none, none, [1,13], none, .w (.st 3 (.t 1) (.t 13))⟩]) (.keep [1] (.seq (.reg false [(cLd 15 1 true 3), (cQ 16 [15] (.call (kF 16) [(.t 15)])), (cMv 14 16), (cEx 17 14 0), (cEx 18 14 1), (cMv 2 17), (cMv 3 18)]) (.keep [1,2,3] (.seq (.reg false [(cLd 20 1 true 3), (cQ 21 [20] (.call (kF 41) [(.t 20)])), (cMv 19 21), (cEx 22 19 0), (cEx 23 19 1), (cMv 4 22), (cMv 5 23)]) (.keep [1,2,3,4,5] (.seq (.reg false [(cLd 25 1 true 3), (cQ 26 [25] (.call (kF 17) [(.t 25)])), (cMv 24 26), (cEx 27 24 0), (cEx 28 24 1), (cMv 6 27), (cMv 7 28)]) (.keep [2,3,4,5,6,7] (.seq (.reg false [(cQ 30 [] (.bsl 1 4 [(.i 0)] [(0,1, (kI 1)), (1,1, (kI 2)), (2,1, (kI 0)), (3,1, (kI 3))])), (cQ 31 [30] (.call (kF 19) [(.t 30)])), (cMv 29 31), (cEx 32 29 0), (cEx 33 29 1), (cMv 8 32), (cMv 9 33)]) (.keep [2,3,4,5,6,7,8,9] (.seq (.reg false [(cQ 35 [] (.bsl 1 4 [(.i 0)] [(0,1, (kI 1)), (1,1, (kI 2)), (2,1, (kI 0)), (3,1, (kI 3))])), (cQ 36 [35] (.call (kF 24) [(.t 35)])), (cMv 34 36), (cEx 37 34 0), (cEx 38 34 1), (cEx 39 34 2), (cMv 10 37), (cMv 11 38), (cMv 12 39)]) (.keep [2,3,4,5,6,7,8,9,10,11,12] (.seq (.reg true [(cMv 40 3), (cC 41 .eql 40 0), (cMv 42 41), (gMv 43 42 true 5), (gQ 44 42 true [43] (.bin .eql (.t 43) (kI 0))), (cQ 45 [42,44] (.pick (.t 42) (.t 44) (kB false))), (cMv 46 45), (gMv 47 46 true 7), (gQ 48 46 true [47] (.bin .eql (.t 47) (kI 0))), (cQ 49 [46,48] (.pick (.t 46) (.t 48) (kB false))), (cMv 50 49), (gMv 51 50 true 9), (gQ 52 50 true [51] (.bin .eql (.t 51) (kI 0))), (cQ 53 [50,52] (.pick (.t 50) (.t 52) (kB false))), (cMv 54 53), (gMv 55 54 true 12), (gQ 56 54 true [55] (.bin .eql (.t 55) (kI 0))), (cQ 57 [54,56] (.pick (.t 54) (.t 56) (kB false))), (cMv 58 57), (gMv 59 58 true 2), (gQ 60 58 true [59] (.bin .eql (.t 59) (kI 2))), (cQ 61 [58,60] (.pick (.t 58) (.t 60) (kB false))), (cMv 62 61), (gMv 63 62 true 4), (gQ 64 62 true [] (.bsl 1 4 [(.i 0)] [(0,1, (.k (.i (-1)))), (1,1, (.k (.i (-1)))), (2,1, (.k (.i (-1)))), (3,1, (kI 0))])), (gQ 65 62 true [63,64] (.call (kF 28) [(.t 63), (.t 64)])), (cQ 66 [62,65] (.pick (.t 62) (.t 65) (kB false))), (cMv 67 66), (gMv 68 67 true 6), (gQ 69 67 true [68] (.bin .eql (.t 68) (kI 1))), (cQ 70 [67,69] (.pick (.t 67) (.t 69) (kB false))), (cMv 71 70), (gMv 72 71 true 8), (gQ 73 71 true [72] (.bin .eql (.t 72) (kI 2))), (cQ 74 [71,73] (.pick (.t 71) (.t 73) (kB false))), (cMv 75 74), (gMv 76 75 true 10), (gQ 77 75 true [76] (.len (.t 76))), (gMv 78 75 true 11), (gQ 79 75 true [78] (.len (.t 78))), (gQ 80 75 true [77,79] (.bin .add (.t 77) (.t 79))), (gQ 81 75 true [80] (.bin .gtr (.t 80) (kI 0))), (cQ 82 [75,81] (.pick (.t 75) (.t 81) (kB false))), (cMv 0 82)]) .ret)))))))))))))))
def pu15 : List Nat := [30,35,64]
def rs15 : List RV := [.t 0]
theorem cc15 : CCx Try.prog Try.f15 pu15 rc15 := by unfold CCx; kernel_rfl
theorem cb15 : CBx Try.f15 := by unfold CBx; kernel_rfl
theorem cs15 : CSx Try.prog Try.f15 rs15 := by unfold CSx; kernel_rfl
theorem cn15 : 0 ≤ Try.f15.ntmps := by decide
def rc28 : RC := (.seq (.reg false [(cQ 4 [] (.mv (kB false)))]) (.keep [0,1] (.seq (.seq (.reg false [(cMv 6 0), (cLn 7 6), (cMv 8 1), (cLn 9 8), (cB 10 .neq 7 9)]) (.keep [0,1,10] (.cond (.t 10) (.seq (.reg false [(cQ 4 [] (.mv (kB false)))]) .ret) .skip))) (.keep [0,1] (.seq (.seq (.reg false [(cI 5 0)]) (.keep [0,1,5] (.block 0 (.loop [0,1,5] none (.seq (.seq (.reg false [(cMv 11 5), (cMv 12 0), (cLn 13 12), (cB 14 .lss 11 13)]) (.keep [0,1,5,14] (.cond (.t 14) .skip (.exit 0)))) (.keep [0,1,5] (.seq (.block 1 (.seq (.any false 0 [⟨(cMv 17 0), [], []⟩, ⟨(cMv 18 5), [], []⟩, ⟨(cA 19 1 17 18), [], [0,1]⟩, ⟨(cLd 20 19 false 1), [], [2,0,1]⟩, ⟨(cMv 21 1), [], []⟩, ⟨(cMv 22 5), [], []⟩, ⟨(cA 23 1 21 22), [], [4,5]⟩, ⟨(cLd 24 23 false 1), [], [6,4,5]⟩, ⟨(cB 25 .neq 20 24), [], [3,2,0,1,7,6,4,5]⟩]) (.keep [0,1,5,25] (.cond (.t 25) (.seq (.reg false [(cQ 4 [] (.mv (kB false)))]) .ret) .skip)))) (.keep [0,1,5] (.reg false [(cMv 15 5), (cC 16 .add 15 1), (cMv 5 16)]))))))))) (.keep [] (.seq (.reg false [(cQ 4 [] (.mv (kB true)))]) .ret)))))))
def pu28 : List Nat := []
def rs28 : List RV := [.t 4]
theorem cc28 : CCx Try.prog Try.f28 pu28 rc28 := by unfold CCx; kernel_rfl
theorem cb28 : CBx Try.f28 := by unfold CBx; kernel_rfl
theorem cs28 : CSx Try.prog Try.f28 rs28 := by unfold CSx; kernel_rfl
theorem cn28 : 2 ≤ Try.f28.ntmps := by decide
end Go.C10
set_option linter.unusedSimpArgs false
set_option linter.unusedVariables false
namespace Go.C10
open Go.Fam Go.Proofs
variable {Γ : Gam}
theorem W62 (s : Stand) (n : Int) : Qal Try.prog 62 [.ag (Qa7 s), .i n] (.b (Qap s.guests n)) := by
 refine Qaj Qru hmix Try.func62 cb62 cc62 cs62 cn62 ?_
 have e : Qap s.guests n = (decide (0 ≤ n) && decide (n < s.guests)) := by
  unfold Qap Qbf
  congr 1
  rw [decide_eq_decide]; omega
 by_cases h : 0 ≤ n <;> simp only [rc62, rs62, h, e, Qa9, Qa8, Qag, Qa4, Qad, Qa5, Qa2, Fam.step, Qae, Qay, Qaq, ug, evO, opv, qv, Qak, binV, ldV, V.cells, Qb2, Qaa, Qa6, Qa1, Qa0, Qa3, ↓reduceIte, Nat.reduceEqDiff, Nat.reduceAdd, Nat.reduceLeDiff, Qb, Qe, Qs, Qq, Qd, Qf, Qm, Qi, endQ, rvs, rv1, resV, vw_i, vw_b, Qam, Qb3, zipA, beq_self_eq_true, Qj, Qp, Qv, Z3, Q7, Qn, Qa, Qw, decide_true, decide_false, and_true, and_self, forall_const, implies_true, reduceCtorEq, beq_true, imp_self, Qa7]
theorem W52 (l : List Int) (n : Int) (h : l.length ≤ 1000000) : Qal Try.prog 52 [.sl 1 (l.map eI), .i n] (.b (decide (n ∈ l))) := by
 refine Qaj Qru hmix Try.func52 cb52 cc52 cs52 cn52 ?_
 simp only [rc52, rs52, Qa9, Qa8, Qac, Qa4, Qad, Qa5, Qa2, Fam.step, Qae, evO, opv, qv, Qa1, Qa0, Qa3, ↓reduceIte, Nat.reduceEqDiff, Qb, Qe, zipA, Qj, true_and, reduceCtorEq]
 refine Qbc l.length (fun i => ⟨lkp [(0, .sl 1 (l.map eI)), (1, .i n), (5, .i i)], []⟩) (fun i => ∀ j : Nat, j < i → ¬ l[j]? = some n) ?_ ?_ ?_ ?_
 ·simp only [Zf, kp, Qa0, Qa3, ↓reduceIte, Nat.reduceEqDiff, Qb, Qe, reduceCtorEq]
 ·intro j hj; omega
 ·intro i hi hc
  obtain ⟨x, hx⟩ : ∃ x, l[i]? = some x := ⟨_, Qc hi⟩
  have hlt : (i : Int) < l.length := by omega
  have h3 : inI ((i : Int) + 1) := by unfold inI; omega
  by_cases e : x = n
  ·have hm : n ∈ l := by rw [← e]; exact Q3 hx
   simp only [hx, hlt, e, hm, Qaf, Qa9, Qa8, Qab, Qac, Qag, Qa4, Qad, Qah, Qa5, Qa2, Fam.step, Qae, evO, opv, qv, binV, ldV, iadV, lenV, kp, Qa1, Qa0, Qa3, ↓reduceIte, Nat.reduceEqDiff, Nat.reduceLeDiff, Qb, Qe, Qd, Qf, Qi, Qo, endQ, rvs, rv1, resV, vw_b, Q1, Qj, Qa, decide_true, and_self, reduceCtorEq, Q2, Qg, Qt, Qh, Qu, eI]
  ·simp only [hx, hlt, e, h3, Zh, Zg, Qaf, Qa9, Qa8, Qab, Qac, Qa4, Qad, Qah, Qa5, Qa2, Fam.step, Qae, evO, opv, qv, binV, ldV, iadV, lenV, kp, Qa1, Qa0, Qa3, ↓reduceIte, Nat.reduceEqDiff, Nat.reduceLeDiff, Qb, Qe, Qd, Qf, Qi, Qo, Q1, Qj, Qa, decide_true, decide_false, true_and, and_true, and_self, reduceCtorEq, Q2, Qg, Qt, Qh, Qu, eI]
   intro j hj hjx
   by_cases hji : j < i
   ·exact hc j hji hjx
   ·have : j = i := by omega
    subst this
    rw [hx] at hjx
    exact e (Zj.inj hjx)
 ·intro hc
  have hlt : ¬ ((l.length : Int) < l.length) := by omega
  have hm : n ∉ l := fun hm => by
   obtain ⟨j, hj⟩ := Zc hm
   exact hc j (Qai hj) hj
  simp only [hlt, hm, Qa9, Qa8, Qab, Qaw, Qag, Qa4, Qad, Qah, Qa5, Qa2, Fam.step, Qae, evO, opv, qv, binV, lenV, Qa1, Qa0, Qa3, ↓reduceIte, Nat.reduceEqDiff, Qb, Qe, endQ, rvs, rv1, resV, vw_b, Qa, decide_false, and_self, reduceCtorEq, Qg]
theorem W38 (l : List Int) (n : Int) (h : l.length ≤ 1000000) : Qal Try.prog 38 [.sl 1 (l.map eI), .i n] (.b (decide (n ∈ l))) := by
 refine Qaj Qru hmix Try.func38 cb38 cc38 cs38 cn38 ?_
 simp only [rc38, rs38, Qa9, Qa8, Qac, Qa4, Qad, Qa5, Qa2, Fam.step, Qae, evO, opv, qv, Qa1, Qa0, Qa3, ↓reduceIte, Nat.reduceEqDiff, Qb, Qe, zipA, Qj, true_and, reduceCtorEq]
 refine Qbc l.length (fun i => ⟨lkp [(0, .sl 1 (l.map eI)), (1, .i n), (5, .i i)], []⟩) (fun i => ∀ j : Nat, j < i → ¬ l[j]? = some n) ?_ ?_ ?_ ?_
 ·simp only [Zf, kp, Qa0, Qa3, ↓reduceIte, Nat.reduceEqDiff, Qb, Qe, reduceCtorEq]
 ·intro j hj; omega
 ·intro i hi hc
  obtain ⟨x, hx⟩ : ∃ x, l[i]? = some x := ⟨_, Qc hi⟩
  have hlt : (i : Int) < l.length := by omega
  have h3 : inI ((i : Int) + 1) := by unfold inI; omega
  by_cases e : x = n
  ·have hm : n ∈ l := by rw [← e]; exact Q3 hx
   simp only [hx, hlt, e, hm, Qaf, Qa9, Qa8, Qab, Qac, Qag, Qa4, Qad, Qah, Qa5, Qa2, Fam.step, Qae, evO, opv, qv, binV, ldV, iadV, lenV, kp, Qa1, Qa0, Qa3, ↓reduceIte, Nat.reduceEqDiff, Nat.reduceLeDiff, Qb, Qe, Qd, Qf, Qi, Qo, endQ, rvs, rv1, resV, vw_b, Q1, Qj, Qa, decide_true, and_self, reduceCtorEq, Q2, Qg, Qt, Qh, Qu, eI]
  ·simp only [hx, hlt, e, h3, Zh, Zg, Qaf, Qa9, Qa8, Qab, Qac, Qa4, Qad, Qah, Qa5, Qa2, Fam.step, Qae, evO, opv, qv, binV, ldV, iadV, lenV, kp, Qa1, Qa0, Qa3, ↓reduceIte, Nat.reduceEqDiff, Nat.reduceLeDiff, Qb, Qe, Qd, Qf, Qi, Qo, Q1, Qj, Qa, decide_true, decide_false, true_and, and_true, and_self, reduceCtorEq, Q2, Qg, Qt, Qh, Qu, eI]
   intro j hj hjx
   by_cases hji : j < i
   ·exact hc j hji hjx
   ·have : j = i := by omega
    subst this
    rw [hx] at hjx
    exact e (Zj.inj hjx)
 ·intro hc
  have hlt : ¬ ((l.length : Int) < l.length) := by omega
  have hm : n ∉ l := fun hm => by
   obtain ⟨j, hj⟩ := Zc hm
   exact hc j (Qai hj) hj
  simp only [hlt, hm, Qa9, Qa8, Qab, Qaw, Qag, Qa4, Qad, Qah, Qa5, Qa2, Fam.step, Qae, evO, opv, qv, binV, lenV, Qa1, Qa0, Qa3, ↓reduceIte, Nat.reduceEqDiff, Qb, Qe, endQ, rvs, rv1, resV, vw_b, Qa, decide_false, and_self, reduceCtorEq, Qg]
def e62 (a : Stand × Int) : List V := [.ag (Qa7 a.1), .i a.2]
def d62 : List V → Stand × Int | [.ag x0, .i x1] => (Qb4 x0, x1) | _ => (Qb4 [], 0)
theorem Qyc (a : Stand × Int) : d62 (e62 a) = a := by simp [d62, e62, Qbn]
noncomputable def HM1 : Gam := HL2.ext 62 (fnG e62 d62 (fun a => (fun (s : Stand) (n : Int) => True) a.1 a.2) (fun a => (fun (s : Stand) (n : Int) => Qap s.guests n) a.1 a.2) .b)
theorem Qyw : GOk Try.prog HM1 := Qru.ext (f := 62) (fun a w => Try.call62 a w) (Qaz (e := e62) (d := d62) (ok := (fun a => (fun (s : Stand) (n : Int) => True) a.1 a.2)) (g := (fun a => (fun (s : Stand) (n : Int) => Qap s.guests n) a.1 a.2)) (eb := .b) fun a h => W62 a.1 a.2)
theorem h62 (s : Stand) (n : Int) : HM1 62 [.ag (Qa7 s), .i n] = (True, .b (Qap s.guests n)) :=
 (show HM1 62 _ = fnG e62 d62 (fun a => (fun (s : Stand) (n : Int) => True) a.1 a.2) (fun a => (fun (s : Stand) (n : Int) => Qap s.guests n) a.1 a.2) .b (e62 (s, n)) from rfl).trans (Qb1 _ (Qyc _))
def e52 (a : List Int × Int) : List V := [.sl 1 (a.1.map eI), .i a.2]
def d52 : List V → List Int × Int | [.sl _ x0, .i x1] => (x0.map dI, x1) | _ => ([], 0)
theorem Qy4 (a : List Int × Int) : d52 (e52 a) = a := by simp [d52, e52, Function.comp_def, Qcx]
noncomputable def HM2 : Gam := HM1.ext 52 (fnG e52 d52 (fun a => (fun (l : List Int) (n : Int) => l.length ≤ 1000000) a.1 a.2) (fun a => (fun (l : List Int) (n : Int) => decide (n ∈ l)) a.1 a.2) .b)
theorem Qyx : GOk Try.prog HM2 := Qyw.ext (f := 52) (fun a w => Try.call52 a w) (Qaz (e := e52) (d := d52) (ok := (fun a => (fun (l : List Int) (n : Int) => l.length ≤ 1000000) a.1 a.2)) (g := (fun a => (fun (l : List Int) (n : Int) => decide (n ∈ l)) a.1 a.2)) (eb := .b) fun a h => W52 a.1 a.2 h)
theorem h52 (l : List Int) (n : Int) : HM2 52 [.sl 1 (l.map eI), .i n] = (l.length ≤ 1000000, .b (decide (n ∈ l))) :=
 (show HM2 52 _ = fnG e52 d52 (fun a => (fun (l : List Int) (n : Int) => l.length ≤ 1000000) a.1 a.2) (fun a => (fun (l : List Int) (n : Int) => decide (n ∈ l)) a.1 a.2) .b (e52 (l, n)) from rfl).trans (Qb1 _ (Qy4 _))
def e38 (a : List Int × Int) : List V := [.sl 1 (a.1.map eI), .i a.2]
def d38 : List V → List Int × Int | [.sl _ x0, .i x1] => (x0.map dI, x1) | _ => ([], 0)
noncomputable def HM3 : Gam := HM2.ext 38 (fnG e38 d38 (fun a => (fun (l : List Int) (n : Int) => l.length ≤ 1000000) a.1 a.2) (fun a => (fun (l : List Int) (n : Int) => decide (n ∈ l)) a.1 a.2) .b)
theorem Qws : GOk Try.prog HM3 := Qyx.ext (f := 38) (fun a w => Try.call38 a w) (Qaz (e := e38) (d := d38) (ok := (fun a => (fun (l : List Int) (n : Int) => l.length ≤ 1000000) a.1 a.2)) (g := (fun a => (fun (l : List Int) (n : Int) => decide (n ∈ l)) a.1 a.2)) (eb := .b) fun a h => W38 a.1 a.2 h)
theorem Qut (s : Stand) (n : Int)  : HM3 62 [.ag (Qa7 s), .i n] = (True, .b (Qap s.guests n)) := h62 s n
theorem Qop {g : Int} {w : Word} (hg : Qap g w.guest = true) (ho : Qap g w.other = false) : Qhf g w = false := by
 unfold Qhf
 split
 ·by_cases h : w.other = 0
  ·rw [h] at ho
   simp only [Qap, Qbf, Zv, decide_eq_true_eq, Xh, decide_eq_false_iff_not] at hg ho
   omega
  ·simp [h]
 ·split
  ·rw [ho]; simp
  ·rfl
set_option maxHeartbeats 4000000 in
theorem W65 (s : Stand) (w : Word) (h : w.among.length ≤ 1000000) : Qal Try.prog 65 [.ag (Qa7 s), .ag (Qas w)] (.b (Qbm s.guests w)) := by
 refine Qaj Qws hmix Try.func65 cb65 cc65 cs65 cn65 ?_
 have g1 := fun n => Qut s n
 simp only [Qa7] at g1
 by_cases hg : Qap s.guests w.guest = true
 rotate_left
 ·have e : Qbm s.guests w = false := by unfold Qbm; simp [hg]
  simp only [rc65, rs65, g1, hg, e, Qa9, Qa8, Qab, Qag, Qa4, Qad, Qa5, Qa2, Fam.step, Qae, Qay, Qaq, ug, evO, opv, qv, Qak, ldV, Qao, V.cells, Qb2, Qaa, Qa6, flat, Qa1, Qa0, Qa3, ↓reduceIte, Nat.reduceEqDiff, Nat.reduceAdd, Nat.reduceLT, Nat.reduceLeDiff, Qb, Qe, Qs, Qq, Qd, Qf, Qk, Qm, Qr, Q8, Qi, Ql, endQ, rvs, rv1, resV, vw_i, vw_b, Qam, Qb3, zipA, Qj, Qp, Qv, Qn, Qx, Qz, Qa, Qw, and_true, and_self, forall_const, implies_true, reduceCtorEq, beq_false, imp_self, Qas, Qa7]
 by_cases ho : Qap s.guests w.other = true
 rotate_left
 ·have e : Qbm s.guests w = false := by unfold Qbm; rw [Qop hg (by simpa using ho)]; simp
  simp only [rc65, rs65, g1, hg, ho, e, Qa9, Qa8, Qab, Qag, Qa4, Qad, Qa5, Qa2, Fam.step, Qae, Qay, Qaq, ug, evO, opv, qv, Qak, ldV, Qao, V.cells, Qb2, Qaa, Qa6, flat, Qa1, Qa0, Qa3, ↓reduceIte, Nat.reduceEqDiff, Nat.reduceAdd, Nat.reduceLT, Nat.reduceLeDiff, Qb, Qe, Qs, Qq, Qd, Qf, Qk, Qm, Qr, Q8, Qi, Ql, endQ, rvs, rv1, resV, vw_i, vw_b, Qam, Qb3, zipA, beq_self_eq_true, Qj, Qp, Qn, Qx, Qz, Qa, and_self, forall_const, implies_true, reduceCtorEq, Qas, Qa7]
 by_cases k3 : w.kind = 3 ∨ w.kind = 4
 ·have k12 : ¬ (w.kind = 1 ∨ w.kind = 2) := by omega
  by_cases hl : (w.among.length : Int) = 0
  ·have hl0 : w.among = [] := List.eq_nil_of_length_eq_zero (by omega)
   have e : Qbm s.guests w = decide (w.other ≠ w.guest) := by unfold Qbm Qhf Qfu; rw [if_neg k12, if_pos k3, hg, ho, hl0]; simp
   by_cases hn : w.guest = w.other
   ·have hn' := hn.symm
    rcases k3 with k3 | k3 <;> simp only [rc65, rs65, g1, ho, k3, hl, hn, e, eq_self, Qaf, Qa9, Qa8, Qab, Qag, Qa4, Qad, Qa5, Qa2, Fam.step, Qae, Qay, Qaq, ug, evO, opv, qv, Qak, binV, ldV, lenV, Qao, V.cells, Qb2, Qaa, Qa6, flat, Qa1, Qa0, Qa3, ↓reduceIte, Nat.reduceEqDiff, Nat.reduceAdd, Nat.reduceLT, Nat.reduceLeDiff, Int.reduceEq, Qb, Qe, Qs, Qq, Qd, Qf, Qk, Qm, Qr, Q8, Qi, Ql, endQ, rvs, rv1, resV, vw_i, vw_b, Qam, Qb3, zipA, beq_self_eq_true, Qj, Qp, Qv, Qn, Qx, Qa, Qw, decide_true, decide_false, and_true, and_self, forall_const, implies_true, reduceCtorEq, not_true_eq_false, ne_eq, beq_false, imp_self, Qg, Qas, Qa7]
   ·have hn' : ¬ w.other = w.guest := fun e => hn e.symm
    rcases k3 with k3 | k3 <;> simp only [rc65, rs65, g1, hg, ho, k3, hl, hn, hn', e, Qaf, Qa9, Qa8, Qab, Qag, Qa4, Qad, Qa5, Qa2, Fam.step, Qae, Qay, Qaq, ug, evO, opv, qv, Qak, binV, ldV, lenV, Qao, V.cells, Qb2, Qaa, Qa6, flat, Qa1, Qa0, Qa3, ↓reduceIte, Nat.reduceEqDiff, Nat.reduceAdd, Nat.reduceLT, Nat.reduceLeDiff, Int.reduceEq, Qb, Qe, Qs, Qq, Qd, Qf, Qk, Qm, Qr, Q8, Qi, Ql, endQ, rvs, rv1, resV, vw_i, vw_b, Qam, Qb3, zipA, beq_self_eq_true, Qj, Qp, Qv, Qn, Qx, Qz, Qa, Qw, decide_true, decide_false, and_true, and_self, forall_const, implies_true, reduceCtorEq, not_false_eq_true, ne_eq, beq_false, imp_self, Qg, Qas, Qa7]
  ·have e : Qbm s.guests w = false := by
    unfold Qbm Qhf; rw [if_neg k12, if_pos k3]
    have : ¬ w.among.length = 0 := by omega
    simp [this]
   rcases k3 with k3 | k3 <;> simp only [rc65, rs65, g1, hg, ho, k3, hl, e, Qaf, Qa9, Qa8, Qab, Qag, Qa4, Qad, Qa5, Qa2, Fam.step, Qae, Qay, Qaq, ug, evO, opv, qv, Qak, binV, ldV, lenV, Qao, V.cells, Qb2, Qaa, Qa6, flat, Qa1, Qa0, Qa3, ↓reduceIte, Nat.reduceEqDiff, Nat.reduceAdd, Nat.reduceLT, Nat.reduceLeDiff, Int.reduceEq, Qb, Qe, Qs, Qq, Qd, Qf, Qk, Qm, Qr, Q8, Qi, Ql, endQ, rvs, rv1, resV, vw_i, vw_b, Qam, Qb3, zipA, beq_self_eq_true, Qj, Qp, Qv, Qn, Qx, Qa, Qw, decide_true, decide_false, and_true, and_self, forall_const, implies_true, reduceCtorEq, beq_true, beq_false, imp_self, Qg, Qas, Qa7]
 have k3' : ¬ w.kind = 3 := by omega
 have k4' : ¬ w.kind = 4 := by omega
 by_cases hbad : (¬ w.kind = 1 ∧ ¬ w.kind = 2) ∨ (w.among.length : Int) = 0 ∨ ¬ w.other = 0
 ·have e : Qbm s.guests w = false := by
   unfold Qbm Qhf
   rw [if_neg k3]
   by_cases k12 : w.kind = 1 ∨ w.kind = 2
   ·rw [if_pos k12]
    rcases hbad with hb | hb | hb
    ·omega
    ·have : ¬ 0 < w.among.length := by omega
     simp [this]
    ·simp [hb]
   ·rw [if_neg k12]; simp
  by_cases k1 : w.kind = 1
  ·by_cases hl : (w.among.length : Int) = 0
   ·simp only [rc65, rs65, g1, hg, ho, k1, hl, e, Qaf, Qa9, Qa8, Qab, Qag, Qa4, Qad, Qa5, Qa2, Fam.step, Qae, Qay, Qaq, ug, evO, opv, qv, Qak, binV, ldV, lenV, Qao, V.cells, Qb2, Qaa, Qa6, flat, Qa1, Qa0, Qa3, ↓reduceIte, Nat.reduceEqDiff, Nat.reduceAdd, Nat.reduceLT, Nat.reduceLeDiff, Int.reduceEq, Qb, Qe, Qs, Qq, Qd, Qf, Qk, Qm, Qr, Q8, Qi, Ql, endQ, rvs, rv1, resV, vw_i, vw_b, Qam, Qb3, zipA, beq_self_eq_true, Qj, Qp, Qv, Qn, Qx, Qz, Qa, Qw, decide_true, decide_false, and_true, and_self, forall_const, implies_true, reduceCtorEq, beq_true, beq_false, imp_self, Qg, Qas, Qa7]
   ·have ho0 : ¬ w.other = 0 := by omega
    simp only [rc65, rs65, g1, hg, ho, k1, hl, ho0, e, Qaf, Qa9, Qa8, Qab, Qag, Qa4, Qad, Qa5, Qa2, Fam.step, Qae, Qay, Qaq, ug, evO, opv, qv, Qak, binV, ldV, lenV, Qao, V.cells, Qb2, Qaa, Qa6, flat, Qa1, Qa0, Qa3, ↓reduceIte, Nat.reduceEqDiff, Nat.reduceAdd, Nat.reduceLT, Nat.reduceLeDiff, Int.reduceEq, Qb, Qe, Qs, Qq, Qd, Qf, Qk, Qm, Qr, Q8, Qi, Ql, endQ, rvs, rv1, resV, vw_i, vw_b, Qam, Qb3, zipA, beq_self_eq_true, Qj, Qp, Qv, Qn, Qx, Qz, Qa, decide_true, decide_false, and_true, and_self, forall_const, implies_true, reduceCtorEq, beq_true, imp_self, Qg, Qas, Qa7]
  ·by_cases k2 : w.kind = 2
   ·by_cases hl : (w.among.length : Int) = 0
    ·simp only [rc65, rs65, g1, hg, ho, k2, hl, e, Qaf, Qa9, Qa8, Qab, Qag, Qa4, Qad, Qa5, Qa2, Fam.step, Qae, Qay, Qaq, ug, evO, opv, qv, Qak, binV, ldV, lenV, Qao, V.cells, Qb2, Qaa, Qa6, flat, Qa1, Qa0, Qa3, ↓reduceIte, Nat.reduceEqDiff, Nat.reduceAdd, Nat.reduceLT, Nat.reduceLeDiff, Int.reduceEq, Qb, Qe, Qs, Qq, Qd, Qf, Qk, Qm, Qr, Q8, Qi, Ql, endQ, rvs, rv1, resV, vw_i, vw_b, Qam, Qb3, zipA, beq_self_eq_true, Qj, Qp, Qv, Qn, Qx, Qz, Qa, Qw, decide_true, decide_false, and_true, and_self, forall_const, implies_true, reduceCtorEq, beq_false, imp_self, Qg, Qas, Qa7]
    ·have ho0 : ¬ w.other = 0 := by omega
     simp only [rc65, rs65, g1, hg, ho, k2, hl, ho0, e, Qaf, Qa9, Qa8, Qab, Qag, Qa4, Qad, Qa5, Qa2, Fam.step, Qae, Qay, Qaq, ug, evO, opv, qv, Qak, binV, ldV, lenV, Qao, V.cells, Qb2, Qaa, Qa6, flat, Qa1, Qa0, Qa3, ↓reduceIte, Nat.reduceEqDiff, Nat.reduceAdd, Nat.reduceLT, Nat.reduceLeDiff, Int.reduceEq, Qb, Qe, Qs, Qq, Qd, Qf, Qk, Qm, Qr, Q8, Qi, Ql, endQ, rvs, rv1, resV, vw_i, vw_b, Qam, Qb3, zipA, beq_self_eq_true, Qj, Qp, Qn, Qx, Qz, Qa, Qw, decide_true, decide_false, and_self, forall_const, implies_true, reduceCtorEq, Qg, Qas, Qa7]
   ·simp only [rc65, rs65, g1, hg, ho, k3', k4', k1, k2, e, Qaf, Qa9, Qa8, Qab, Qag, Qa4, Qad, Qa5, Qa2, Fam.step, Qae, Qay, Qaq, ug, evO, opv, qv, Qak, binV, ldV, lenV, Qao, V.cells, Qb2, Qaa, Qa6, flat, Qa1, Qa0, Qa3, ↓reduceIte, Nat.reduceEqDiff, Nat.reduceAdd, Nat.reduceLT, Nat.reduceLeDiff, Qb, Qe, Qs, Qq, Qd, Qf, Qk, Qm, Qr, Q8, Qi, Ql, endQ, rvs, rv1, resV, vw_i, vw_b, Qam, Qb3, zipA, beq_self_eq_true, Qj, Qp, Qv, Qn, Qx, Qz, Qa, Qw, decide_false, and_true, and_self, forall_const, implies_true, reduceCtorEq, beq_false, imp_self, Qg, Qas, Qa7]
 ·have hl : ¬ (w.among.length : Int) = 0 := by omega
  have ho0 : w.other = 0 := by omega
  have k12 : w.kind = 1 ∨ w.kind = 2 := by omega
  have ew : Qbm s.guests w = Qfu s.guests w.among := by
   unfold Qbm Qhf
   have : 0 < w.among.length := by omega
   rw [if_pos k12, hg]; simp [this, ho0]
  have k1or : w.kind = 1 ∨ (¬ w.kind = 1 ∧ w.kind = 2) := by omega
  have ho' := ho
  rw [ho0] at ho'
  rcases k1or with k1 | ⟨k1, k2⟩
  ·simp only [rc65, rs65, g1, hg, k1, hl, ho0, ho', Qaf, Qa9, Qa8, Qab, Qac, Qa4, Qad, Qa5, Qa2, Fam.step, Qae, Qay, Qaq, ug, evO, opv, qv, Qak, binV, ldV, lenV, Qao, V.cells, Qb2, Qaa, Qa6, flat, Qa1, Qa0, Qa3, ↓reduceIte, Nat.reduceEqDiff, Nat.reduceAdd, Nat.reduceLT, Nat.reduceLeDiff, Int.reduceEq, Qb, Qe, Qs, Qq, Qd, Qf, Qk, Qm, Qr, Q8, Qi, Ql, vw_i, Qam, Qb3, zipA, beq_self_eq_true, Qj, Qp, Qv, Qn, Qx, Qz, Qa, decide_true, decide_false, true_and, and_true, and_self, forall_const, implies_true, reduceCtorEq, beq_true, imp_self, Qg, Qas, Qa7]
   refine Qbc w.among.length (fun i => ⟨lkp [(2, .pa (Qa7 s)), (3, .pa (Qas w)), (5, .i i)], []⟩) (fun i => ∀ j : Nat, j < i → (Qap s.guests (w.among[j]?.getD 0) && (decide (j = 0) || decide (w.among[j - 1]?.getD 0 < w.among[j]?.getD 0))) = true) ?_ ?_ ?_ ?_
   ·simp only [Zf, k1, ho0, kp, Qa0, Qa3, ↓reduceIte, Nat.reduceEqDiff, Qb, Qe, Qas, Qa7]
   ·intro j hj; omega
   ·intro i hi hc
    obtain ⟨x, hx⟩ : ∃ x, w.among[i]? = some x := ⟨_, Qc hi⟩
    have hlt : (i : Int) < w.among.length := by omega
    have h3 : inI ((i : Int) + 1) ∧ inI ((i : Int) - 1) := by unfold inI; omega
    have hgd : w.among[i]?.getD 0 = x := by rw [hx]; rfl
    have fin : (Qap s.guests x && (decide (i = 0) || decide (w.among[i - 1]?.getD 0 < x))) = false → Qbm s.guests w = false := fun e => by
     rw [ew]; unfold Qfu
     rw [Z7]
     exact ⟨i, Zk.2 hi, by rw [hgd, e]; simp⟩
    have con : (Qap s.guests x && (decide (i = 0) || decide (w.among[i - 1]?.getD 0 < x))) = true → ∀ j : Nat, j < i + 1 → (Qap s.guests (w.among[j]?.getD 0) && (decide (j = 0) || decide (w.among[j - 1]?.getD 0 < w.among[j]?.getD 0))) = true := fun e j hj => by
     by_cases hji : j < i
     ·exact hc j hji
     ·have : j = i := by omega
      subst this
      rw [hgd]; exact e
    by_cases hgx : Qap s.guests x = true
    ·by_cases hi0 : i = 0
     ·subst hi0
      have hlt0 : (0 : Int) < w.among.length := by omega
      have i10 : inI 1 := by unfold inI; omega
      have hcon := con (by simp [hgx])
      rw [Qj] at hcon
      simp only [hx, hlt0, g1, hgx, Zf, i10, Zg, Qaf, Qa9, Qbx, Qa8, Qab, Qac, Qa4, Qb9, Qad, Qah, Qa5, Qa2, Fam.step, Qae, Qay, Qaq, ug, runX, eff, Qb8, fpR, fpQ, fpV, Qc9, hits, evO, opv, qv, Qak, binV, ldV, iadV, lenV, Qao, Qaa, Qa6, flat, kp, Qa1, Qa0, Qa3, ↓reduceIte, Nat.reduceEqDiff, Nat.reduceAdd, Nat.reduceLT, Nat.reduceLeDiff, Int.reduceNeg, Int.reduceToNat, Zn, Int.reduceLE, Int.reduceAdd, Int.reduceSub, Qb, Qe, Qs, Qq, Qd, Qf, Qk, Qm, Qr, Q8, Qi, Q5, Q0, Ql, Q4, Qo, Q9, Qy, Za, vw_i, Qam, Qb3, Int.lt_irrefl, beq_self_eq_true, Qj, Qp, Qv, Q7, Zt, Qn, Qx, Qz, Qa, decide_true, decide_false, true_and, and_true, and_self, false_and, and_false, forall_const, implies_true, Q2, Zb, Q6, beq_true, imp_self, Qg, Qh, Qu, Qas, Qa7, eI]
      exact hcon
     ·have hpos : (0 : Int) < i := by omega
      obtain ⟨y, hy⟩ : ∃ y, w.among[i - 1]? = some y := ⟨_, Qc (by omega)⟩
      have hyd : w.among[i - 1]?.getD 0 = y := by rw [hy]; rfl
      have e1 : ((i : Int) - 1).toNat = i - 1 := by omega
      have e2 : (0 : Int) ≤ (i : Int) - 1 ∧ (i : Int) - 1 < w.among.length := by omega
      rw [hyd] at fin con
      by_cases hxy : x ≤ y
      ·simp only [hx, hlt, h3, g1, hgx, hpos, e1, e2, hy, hxy, Qaf, Qa9, Qbx, Qa8, Qab, Qac, Qag, Qa4, Qb9, Qad, Qah, Qa5, Qa2, Fam.step, Qae, Qay, Qaq, ug, runX, eff, Qb8, fpR, fpQ, fpV, Qc9, hits, evO, opv, qv, Qak, binV, ldV, iadV, lenV, Qao, Qaa, Qa6, flat, kp, Qa1, Qa0, Qa3, ↓reduceIte, Nat.reduceEqDiff, Nat.reduceAdd, Nat.reduceLT, Nat.reduceLeDiff, Qb, Qe, Qs, Qq, Qd, Qf, Qk, Qm, Qr, Q8, Qi, Q5, Q0, Ql, Q4, Qo, Q9, Qy, Za, endQ, rvs, rv1, resV, vw_i, vw_b, Qam, Qb3, Q1, beq_self_eq_true, Qj, V.b.injEq, Qp, Qv, Q7, Qn, Qx, Qz, Qa, Qw, decide_true, true_and, and_self, forall_const, implies_true, Q2, Zb, Q6, Qg, Qt, Qh, Qu, Qas, Qa7, eI]
       exact (fin (by simp [hi0]; intro _; omega)).symm
      ·simp only [hx, hlt, h3, g1, hgx, hpos, e1, e2, hy, hxy, Zh, Zg, Qaf, Qa9, Qbx, Qa8, Qab, Qac, Qa4, Qb9, Qad, Qah, Qa5, Qa2, Fam.step, Qae, Qay, Qaq, ug, runX, eff, Qb8, fpR, fpQ, fpV, Qc9, hits, evO, opv, qv, Qak, binV, ldV, iadV, lenV, Qao, Qaa, Qa6, flat, kp, Qa1, Qa0, Qa3, ↓reduceIte, Nat.reduceEqDiff, Nat.reduceAdd, Nat.reduceLT, Nat.reduceLeDiff, Qb, Qe, Qs, Qq, Qd, Qf, Qk, Qm, Qr, Q8, Qi, Q5, Q0, Ql, Q4, Qo, Q9, Qy, Za, vw_i, Qam, Qb3, Q1, beq_self_eq_true, Qj, Qp, Qv, Q7, Qn, Qx, Qz, Qa, Qw, decide_true, decide_false, true_and, and_true, and_self, forall_const, implies_true, Q2, Zb, Q6, Qg, Qt, Qh, Qu, Qas, Qa7, eI]
       exact con (by simp [hgx]; right; omega)
    ·simp only [hx, hlt, h3, g1, hgx, Qaf, Qa9, Qbx, Qa8, Qab, Qac, Qag, Qa4, Qb9, Qad, Qah, Qa5, Qa2, Fam.step, Qae, Qay, Qaq, ug, runX, eff, Qb8, fpR, fpQ, fpV, Qc9, hits, evO, opv, qv, Qdw, binV, ldV, iadV, lenV, Qao, Qaa, Qa6, flat, kp, Qa1, Qa0, Qa3, ↓reduceIte, Nat.reduceEqDiff, Nat.reduceAdd, Nat.reduceLT, Nat.reduceLeDiff, Qb, Qe, Qs, Qq, Qd, Qf, Qk, Qm, Qr, Q8, Qi, Q5, Q0, Ql, Q4, Qo, Q9, Qy, Za, endQ, rvs, rv1, resV, vw_i, vw_b, Qam, Qb3, Q1, Qj, V.b.injEq, Qp, Qv, Q7, Qn, Qx, Qz, Qa, Qw, decide_true, decide_eq_true_eq, decide_eq_false_iff_not, true_and, and_true, and_self, false_and, forall_const, implies_true, Q2, Zb, Q6, beq_true, beq_false, imp_self, Qg, Qt, Qh, Qu, Qas, Qa7, eI]
     exact (fin (by simp [hgx])).symm
   ·intro hc
    have ha : Qbm s.guests w = true := by
     rw [ew]; unfold Qfu
     rw [Z0]
     intro i hi
     exact hc i (Zk.1 hi)
    have hlt : ¬ ((w.among.length : Int) < w.among.length) := by omega
    simp only [hlt, ha, Qa9, Qa8, Qab, Qaw, Qag, Qa4, Qad, Qah, Qa5, Qa2, Fam.step, Qae, evO, opv, qv, binV, ldV, lenV, Qa1, Qa0, Qa3, ↓reduceIte, Nat.reduceEqDiff, Nat.reduceLeDiff, Qb, Qe, Qd, Qf, Qk, Qm, Qi, endQ, rvs, rv1, resV, vw_b, Qj, Qa, decide_false, and_self, Qg, Qas, Qa7]
  ·simp only [rc65, rs65, g1, hg, k2, hl, ho0, ho', Qaf, Qa9, Qa8, Qab, Qac, Qa4, Qad, Qa5, Qa2, Fam.step, Qae, Qay, Qaq, ug, evO, opv, qv, Qak, binV, ldV, lenV, Qao, V.cells, Qb2, Qaa, Qa6, flat, Qa1, Qa0, Qa3, ↓reduceIte, Nat.reduceEqDiff, Nat.reduceAdd, Nat.reduceLT, Nat.reduceLeDiff, Int.reduceEq, Qb, Qe, Qs, Qq, Qd, Qf, Qk, Qm, Qr, Q8, Qi, Ql, vw_i, Qam, Qb3, zipA, beq_self_eq_true, Qj, Qp, Qn, Qx, Qz, Qa, Qw, decide_true, decide_false, true_and, and_self, forall_const, implies_true, reduceCtorEq, Qg, Qas, Qa7]
   refine Qbc w.among.length (fun i => ⟨lkp [(2, .pa (Qa7 s)), (3, .pa (Qas w)), (5, .i i)], []⟩) (fun i => ∀ j : Nat, j < i → (Qap s.guests (w.among[j]?.getD 0) && (decide (j = 0) || decide (w.among[j - 1]?.getD 0 < w.among[j]?.getD 0))) = true) ?_ ?_ ?_ ?_
   ·simp only [Zf, k2, ho0, kp, Qa0, Qa3, ↓reduceIte, Nat.reduceEqDiff, Qb, Qe, Qas, Qa7]
   ·intro j hj; omega
   ·intro i hi hc
    obtain ⟨x, hx⟩ : ∃ x, w.among[i]? = some x := ⟨_, Qc hi⟩
    have hlt : (i : Int) < w.among.length := by omega
    have h3 : inI ((i : Int) + 1) ∧ inI ((i : Int) - 1) := by unfold inI; omega
    have hgd : w.among[i]?.getD 0 = x := by rw [hx]; rfl
    have fin : (Qap s.guests x && (decide (i = 0) || decide (w.among[i - 1]?.getD 0 < x))) = false → Qbm s.guests w = false := fun e => by
     rw [ew]; unfold Qfu
     rw [Z7]
     exact ⟨i, Zk.2 hi, by rw [hgd, e]; simp⟩
    have con : (Qap s.guests x && (decide (i = 0) || decide (w.among[i - 1]?.getD 0 < x))) = true → ∀ j : Nat, j < i + 1 → (Qap s.guests (w.among[j]?.getD 0) && (decide (j = 0) || decide (w.among[j - 1]?.getD 0 < w.among[j]?.getD 0))) = true := fun e j hj => by
     by_cases hji : j < i
     ·exact hc j hji
     ·have : j = i := by omega
      subst this
      rw [hgd]; exact e
    by_cases hgx : Qap s.guests x = true
    ·by_cases hi0 : i = 0
     ·subst hi0
      have hlt0 : (0 : Int) < w.among.length := by omega
      have i10 : inI 1 := by unfold inI; omega
      have hcon := con (by simp [hgx])
      rw [Qj] at hcon
      simp only [hx, hlt0, g1, hgx, Zf, i10, Zg, Qaf, Qa9, Qbx, Qa8, Qab, Qac, Qa4, Qb9, Qad, Qah, Qa5, Qa2, Fam.step, Qae, Qay, Qaq, ug, runX, eff, Qb8, fpR, fpQ, fpV, Qc9, hits, evO, opv, qv, Qak, binV, ldV, iadV, lenV, Qao, Qaa, Qa6, flat, kp, Qa1, Qa0, Qa3, ↓reduceIte, Nat.reduceEqDiff, Nat.reduceAdd, Nat.reduceLT, Nat.reduceLeDiff, Int.reduceNeg, Int.reduceToNat, Zn, Int.reduceLE, Int.reduceAdd, Int.reduceSub, Qb, Qe, Qs, Qq, Qd, Qf, Qk, Qm, Qr, Q8, Qi, Q5, Q0, Ql, Q4, Qo, Q9, Qy, Za, vw_i, Qam, Qb3, Int.lt_irrefl, beq_self_eq_true, Qj, Qp, Qv, Q7, Zt, Qn, Qx, Qz, Qa, decide_true, decide_false, true_and, and_true, and_self, false_and, and_false, forall_const, implies_true, Q2, Zb, Q6, beq_true, imp_self, Qg, Qh, Qu, Qas, Qa7, eI]
      exact hcon
     ·have hpos : (0 : Int) < i := by omega
      obtain ⟨y, hy⟩ : ∃ y, w.among[i - 1]? = some y := ⟨_, Qc (by omega)⟩
      have hyd : w.among[i - 1]?.getD 0 = y := by rw [hy]; rfl
      have e1 : ((i : Int) - 1).toNat = i - 1 := by omega
      have e2 : (0 : Int) ≤ (i : Int) - 1 ∧ (i : Int) - 1 < w.among.length := by omega
      rw [hyd] at fin con
      by_cases hxy : x ≤ y
      ·simp only [hx, hlt, h3, g1, hgx, hpos, e1, e2, hy, hxy, Qaf, Qa9, Qbx, Qa8, Qab, Qac, Qag, Qa4, Qb9, Qad, Qah, Qa5, Qa2, Fam.step, Qae, Qay, Qaq, ug, runX, eff, Qb8, fpR, fpQ, fpV, Qc9, hits, evO, opv, qv, Qak, binV, ldV, iadV, lenV, Qao, Qaa, Qa6, flat, kp, Qa1, Qa0, Qa3, ↓reduceIte, Nat.reduceEqDiff, Nat.reduceAdd, Nat.reduceLT, Nat.reduceLeDiff, Qb, Qe, Qs, Qq, Qd, Qf, Qk, Qm, Qr, Q8, Qi, Q5, Q0, Ql, Q4, Qo, Q9, Qy, Za, endQ, rvs, rv1, resV, vw_i, vw_b, Qam, Qb3, Q1, beq_self_eq_true, Qj, V.b.injEq, Qp, Qv, Q7, Qn, Qx, Qz, Qa, Qw, decide_true, true_and, and_self, forall_const, implies_true, Q2, Zb, Q6, Qg, Qt, Qh, Qu, Qas, Qa7, eI]
       exact (fin (by simp [hi0]; intro _; omega)).symm
      ·simp only [hx, hlt, h3, g1, hgx, hpos, e1, e2, hy, hxy, Zh, Zg, Qaf, Qa9, Qbx, Qa8, Qab, Qac, Qa4, Qb9, Qad, Qah, Qa5, Qa2, Fam.step, Qae, Qay, Qaq, ug, runX, eff, Qb8, fpR, fpQ, fpV, Qc9, hits, evO, opv, qv, Qak, binV, ldV, iadV, lenV, Qao, Qaa, Qa6, flat, kp, Qa1, Qa0, Qa3, ↓reduceIte, Nat.reduceEqDiff, Nat.reduceAdd, Nat.reduceLT, Nat.reduceLeDiff, Qb, Qe, Qs, Qq, Qd, Qf, Qk, Qm, Qr, Q8, Qi, Q5, Q0, Ql, Q4, Qo, Q9, Qy, Za, vw_i, Qam, Qb3, Q1, beq_self_eq_true, Qj, Qp, Qv, Q7, Qn, Qx, Qz, Qa, Qw, decide_true, decide_false, true_and, and_true, and_self, forall_const, implies_true, Q2, Zb, Q6, Qg, Qt, Qh, Qu, Qas, Qa7, eI]
       exact con (by simp [hgx]; right; omega)
    ·simp only [hx, hlt, h3, g1, hgx, Qaf, Qa9, Qbx, Qa8, Qab, Qac, Qag, Qa4, Qb9, Qad, Qah, Qa5, Qa2, Fam.step, Qae, Qay, Qaq, ug, runX, eff, Qb8, fpR, fpQ, fpV, Qc9, hits, evO, opv, qv, Qdw, binV, ldV, iadV, lenV, Qao, Qaa, Qa6, flat, kp, Qa1, Qa0, Qa3, ↓reduceIte, Nat.reduceEqDiff, Nat.reduceAdd, Nat.reduceLT, Nat.reduceLeDiff, Qb, Qe, Qs, Qq, Qd, Qf, Qk, Qm, Qr, Q8, Qi, Q5, Q0, Ql, Q4, Qo, Q9, Qy, Za, endQ, rvs, rv1, resV, vw_i, vw_b, Qam, Qb3, Q1, Qj, V.b.injEq, Qp, Qv, Q7, Qn, Qx, Qz, Qa, Qw, decide_true, decide_eq_true_eq, decide_eq_false_iff_not, true_and, and_true, and_self, false_and, forall_const, implies_true, Q2, Zb, Q6, beq_true, beq_false, imp_self, Qg, Qt, Qh, Qu, Qas, Qa7, eI]
     exact (fin (by simp [hgx])).symm
   ·intro hc
    have ha : Qbm s.guests w = true := by
     rw [ew]; unfold Qfu
     rw [Z0]
     intro i hi
     exact hc i (Zk.1 hi)
    have hlt : ¬ ((w.among.length : Int) < w.among.length) := by omega
    simp only [hlt, ha, Qa9, Qa8, Qab, Qaw, Qag, Qa4, Qad, Qah, Qa5, Qa2, Fam.step, Qae, evO, opv, qv, binV, ldV, lenV, Qa1, Qa0, Qa3, ↓reduceIte, Nat.reduceEqDiff, Nat.reduceLeDiff, Qb, Qe, Qd, Qf, Qk, Qm, Qi, endQ, rvs, rv1, resV, vw_b, Qj, Qa, decide_false, and_self, Qg, Qas, Qa7]
end Go.C10
set_option linter.unusedSimpArgs false
set_option linter.unusedVariables false
namespace Go.C10
open Go.Fam Go.Proofs
variable {Γ : Gam}
def e65 (a : Stand × Word) : List V := [.ag (Qa7 a.1), .ag (Qas a.2)]
def d65 : List V → Stand × Word | [.ag x0, .ag x1] => (Qb4 x0, Qeu x1) | _ => (Qb4 [], Qeu [])
theorem Qyd (a : Stand × Word) : d65 (e65 a) = a := by simp [d65, e65, Qbn, Qex]
noncomputable def HN1 : Gam := HM3.ext 65 (fnG e65 d65 (fun a => (fun (s : Stand) (w : Word) => w.among.length ≤ 1000000) a.1 a.2) (fun a => (fun (s : Stand) (w : Word) => Qbm s.guests w) a.1 a.2) .b)
theorem Qwt : GOk Try.prog HN1 := Qws.ext (f := 65) (fun a w => Try.call65 a w) (Qaz (e := e65) (d := d65) (ok := (fun a => (fun (s : Stand) (w : Word) => w.among.length ≤ 1000000) a.1 a.2)) (g := (fun a => (fun (s : Stand) (w : Word) => Qbm s.guests w) a.1 a.2)) (eb := .b) fun a h => W65 a.1 a.2 h)
theorem h65 (s : Stand) (w : Word) : HN1 65 [.ag (Qa7 s), .ag (Qas w)] = (w.among.length ≤ 1000000, .b (Qbm s.guests w)) :=
 (show HN1 65 _ = fnG e65 d65 (fun a => (fun (s : Stand) (w : Word) => w.among.length ≤ 1000000) a.1 a.2) (fun a => (fun (s : Stand) (w : Word) => Qbm s.guests w) a.1 a.2) .b (e65 (s, w)) from rfl).trans (Qb1 _ (Qyd _))
theorem W36 (s : Stand) (h : Qb0 s) : Qal Try.prog 36 [.ag (Qa7 s)] (.i (Qba s)) := by
 refine Qaj Qwt hmix Try.func36 cb36 cc36 cs36 cn36 ?_
 by_cases hg : Qbf s.guests 0 7 = true
 rotate_left
 ·have e : Qba s = 100 := by unfold Qba; rw [if_pos (by simp [hg])]
  unfold Qbf at hg
  simp only [Zv, decide_eq_true_eq, not_and] at hg
  by_cases h1 : s.guests < 0
  ·simp only [rc36, rs36, h1, e, Qa9, Qa8, Qab, Qag, Qa4, Qad, Qa5, Qa2, Fam.step, Qae, Qay, Qaq, ug, evO, opv, qv, Qak, binV, ldV, V.cells, Qb2, Qaa, Qa6, Qa1, Qa0, Qa3, ↓reduceIte, Nat.reduceEqDiff, Nat.reduceAdd, Nat.reduceLeDiff, Qb, Qe, Qs, Qq, Qd, Qf, Qk, Qm, Qi, endQ, rvs, rv1, resV, vw_i, Qam, Qb3, zipA, Qj, Qp, Qv, Qn, Qx, Qa, Qw, decide_true, and_true, and_self, forall_const, implies_true, beq_false, imp_self, Qa7]
  ·have h2 : 7 < s.guests := by have := hg (by omega); omega
   simp only [rc36, rs36, h1, h2, e, Qa9, Qa8, Qab, Qag, Qa4, Qad, Qa5, Qa2, Fam.step, Qae, Qay, Qaq, ug, evO, opv, qv, Qak, binV, ldV, V.cells, Qb2, Qaa, Qa6, Qa1, Qa0, Qa3, ↓reduceIte, Nat.reduceEqDiff, Nat.reduceAdd, Nat.reduceLeDiff, Qb, Qe, Qs, Qq, Qd, Qf, Qk, Qm, Qi, endQ, rvs, rv1, resV, vw_i, Qam, Qb3, zipA, beq_self_eq_true, Qj, Qp, Qv, Qn, Qx, Qa, Qw, decide_true, decide_false, and_true, and_self, forall_const, implies_true, beq_false, imp_self, Qa7]
 have hg2 : ¬ s.guests < 0 ∧ ¬ 7 < s.guests := by
  unfold Qbf at hg
  simp only [Zv, decide_eq_true_eq] at hg; omega
 by_cases hw : Qbf s.wrong 0 7 = true
 rotate_left
 ·have e : Qba s = 100 := by unfold Qba; rw [if_pos (by simp [hw])]
  unfold Qbf at hw
  simp only [Zv, decide_eq_true_eq, not_and] at hw
  by_cases h1 : s.wrong < 0
  ·simp only [rc36, rs36, hg2, h1, e, Qa9, Qa8, Qab, Qag, Qa4, Qad, Qa5, Qa2, Fam.step, Qae, Qay, Qaq, ug, evO, opv, qv, Qak, binV, ldV, V.cells, Qb2, Qaa, Qa6, Qa1, Qa0, Qa3, ↓reduceIte, Nat.reduceEqDiff, Nat.reduceAdd, Nat.reduceLeDiff, Qb, Qe, Qs, Qq, Qd, Qf, Qk, Qm, Qi, endQ, rvs, rv1, resV, vw_i, Qam, Qb3, zipA, beq_self_eq_true, Qj, Qp, Qv, Qn, Qx, Qa, Qw, decide_true, decide_false, and_true, and_self, forall_const, implies_true, beq_false, imp_self, Qa7]
  ·have h2 : 7 < s.wrong := by have := hw (by omega); omega
   simp only [rc36, rs36, hg2, h1, h2, e, Qa9, Qa8, Qab, Qag, Qa4, Qad, Qa5, Qa2, Fam.step, Qae, Qay, Qaq, ug, evO, opv, qv, Qak, binV, ldV, V.cells, Qb2, Qaa, Qa6, Qa1, Qa0, Qa3, ↓reduceIte, Nat.reduceEqDiff, Nat.reduceAdd, Nat.reduceLeDiff, Qb, Qe, Qs, Qq, Qd, Qf, Qk, Qm, Qi, endQ, rvs, rv1, resV, vw_i, Qam, Qb3, zipA, beq_self_eq_true, Qj, Qp, Qn, Qa, decide_true, decide_false, and_self, forall_const, implies_true, Qa7]
 have hw2 : ¬ s.wrong < 0 ∧ ¬ 7 < s.wrong := by
  unfold Qbf at hw
  simp only [Zv, decide_eq_true_eq] at hw; omega
 by_cases h20 : (20 : Int) < s.words.length
 ·have e : Qba s = 101 := by unfold Qba; rw [if_neg (by simp [hg, hw]), if_pos (.inl (by omega))]
  simp only [rc36, rs36, hg2, hw2, h20, e, Qaf, Qa9, Qa8, Qab, Qag, Qa4, Qad, Qa5, Qa2, Fam.step, Qae, Qay, Qaq, ug, evO, opv, qv, Qak, binV, ldV, lenV, V.cells, Qb2, Qaa, Qa6, Qa1, Qa0, Qa3, ↓reduceIte, Nat.reduceEqDiff, Nat.reduceAdd, Nat.reduceLeDiff, Qb, Qe, Qs, Qq, Qd, Qf, Qk, Qm, Qi, endQ, rvs, rv1, resV, vw_i, Qam, Qb3, zipA, beq_self_eq_true, Qj, Qp, Qn, Qa, decide_true, decide_false, and_self, forall_const, implies_true, Qg, Qa7]
 ·simp only [rc36, rs36, hg2, hw2, h20, Qaf, Qa9, Qa8, Qab, Qac, Qa4, Qad, Qa5, Qa2, Fam.step, Qae, Qay, Qaq, ug, evO, opv, qv, Qak, binV, ldV, lenV, V.cells, Qb2, Qaa, Qa6, Qa1, Qa0, Qa3, ↓reduceIte, Nat.reduceEqDiff, Nat.reduceAdd, Nat.reduceLeDiff, Qb, Qe, Qs, Qq, Qd, Qf, Qk, Qm, Qi, vw_i, Qam, Qb3, zipA, beq_self_eq_true, Qj, Qp, Qn, Qa, decide_false, true_and, and_self, forall_const, implies_true, Qg, Qa7]
  have hck : Qba s = if (s.words.any fun w => !Qbm s.guests w) = true then 101 else 0 := by
   unfold Qba
   rw [if_neg (by simp [hg, hw])]
   have : ¬ 20 < s.words.length := by omega
   simp only [this, false_or]
  refine Qbc s.words.length (fun i => ⟨lkp [(1, .pa (Qa7 s)), (3, .i i)], []⟩) (fun i => ∀ j w, j < i → s.words[j]? = some w → Qbm s.guests w = true) ?_ ?_ ?_ ?_
  ·simp only [Zf, kp, Qa0, Qa3, ↓reduceIte, Nat.reduceEqDiff, Qb, Qe, Qa7]
  ·intro j w hj; omega
  ·intro i hi hc
   obtain ⟨w, hw⟩ : ∃ x, s.words[i]? = some x := ⟨_, Qc hi⟩
   have hlt : (i : Int) < s.words.length := by omega
   have h3 : inI ((i : Int) + 1) := by unfold inI; omega
   have g1 := h65 s w
   simp only [Qa7, Qas] at g1
   have hs := h w (Q3 hw)
   by_cases e : Qbm s.guests w = true
   ·simp only [hw, hlt, h3, g1, hs, e, Zh, Zg, Qaf, Qa9, Qbx, Qa8, Qab, Qac, Qa4, Qb9, Qad, Qah, Qa5, Qa2, Fam.step, Qae, runX, eff, Qb8, fpR, fpQ, fpV, Qc9, hits, evO, opv, qv, binV, ldV, iadV, lenV, Qao, Qaa, Qa6, flat, kp, Qa1, Qa0, Qa3, ↓reduceIte, Nat.reduceEqDiff, Nat.reduceAdd, Nat.reduceLT, Nat.reduceLeDiff, Qb, Qe, Qq, Qd, Qf, Qk, Qm, Qr, Q8, Qi, Q5, Q0, Ql, Q4, Qo, Q9, Qy, Za, vw_i, Qam, Qb3, Q1, Qj, Qp, Qv, Q7, Qn, Qx, Qz, Qa, decide_true, true_and, and_true, and_self, implies_true, Q2, Zb, Q6, Qg, Qt, Qh, Qu, Qas, Qa7]
    intro j w' hj hjw
    by_cases hji : j < i
    ·exact hc j w' hji hjw
    ·have : j = i := by omega
     subst this
     rw [hw] at hjw; cases hjw; exact e
   ·have he : Qba s = 101 := by
     rw [hck, if_pos]
     rw [Z1]
     exact ⟨w, Q3 hw, by simp [e]⟩
    simp only [hw, hlt, g1, hs, e, he, Qaf, Qa9, Qbx, Qa8, Qab, Qac, Qag, Qa4, Qb9, Qad, Qah, Qa5, Qa2, Fam.step, Qae, runX, eff, Qb8, fpR, fpQ, fpV, Qc9, hits, evO, opv, qv, binV, ldV, iadV, lenV, Qao, Qaa, Qa6, flat, kp, Qa1, Qa0, Qa3, ↓reduceIte, Nat.reduceEqDiff, Nat.reduceAdd, Nat.reduceLT, Nat.reduceLeDiff, Qb, Qe, Qq, Qd, Qf, Qk, Qm, Qr, Q8, Qi, Q5, Q0, Ql, Q4, Qo, Q9, Qy, Za, endQ, rvs, rv1, resV, vw_i, Qam, Qb3, Q1, Qj, Qp, Qv, Q7, Qn, Qx, Qz, Qa, decide_true, and_self, implies_true, Q2, Zb, Q6, Qg, Qt, Qh, Qu, Qas, Qa7]
  ·intro hc
   have hlt : ¬ ((s.words.length : Int) < s.words.length) := by omega
   have he : Qba s = 0 := by
    rw [hck, if_neg]
    rw [Z1]
    rintro ⟨w, hw, e⟩
    obtain ⟨j, hj⟩ := Zc hw
    rw [hc j w (Qai hj) hj] at e
    cases e
   simp only [hlt, he, Qa9, Qa8, Qab, Qaw, Qag, Qa4, Qad, Qah, Qa5, Qa2, Fam.step, Qae, evO, opv, qv, binV, ldV, lenV, Qa1, Qa0, Qa3, ↓reduceIte, Nat.reduceEqDiff, Nat.reduceAdd, Nat.reduceLeDiff, Qb, Qe, Qd, Qf, Qk, Qm, Qi, endQ, rvs, rv1, resV, vw_i, Qj, Qa, decide_false, and_self, Qg, Qa7]
def e36 (a : Stand) : List V := [.ag (Qa7 a)]
def d36 : List V → Stand | [.ag x0] => (Qb4 x0) | _ => (Qb4 [])
theorem Qxz (a : Stand) : d36 (e36 a) = a := by simp [d36, e36, Qbn]
noncomputable def HN2 : Gam := HN1.ext 36 (fnG e36 d36 (fun a => (fun (s : Stand) => Qb0 s) a) (fun a => (fun (s : Stand) => Qba s) a) .i)
theorem Qwu : GOk Try.prog HN2 := Qwt.ext (f := 36) (fun a w => Try.call36 a w) (Qaz (e := e36) (d := d36) (ok := (fun a => (fun (s : Stand) => Qb0 s) a)) (g := (fun a => (fun (s : Stand) => Qba s) a)) (eb := .i) fun a h => W36 a h)
theorem h36 (s : Stand) : HN2 36 [.ag (Qa7 s)] = (Qb0 s, .i (Qba s)) :=
 (show HN2 36 _ = fnG e36 d36 (fun a => (fun (s : Stand) => Qb0 s) a) (fun a => (fun (s : Stand) => Qba s) a) .i (e36 (s)) from rfl).trans (Qb1 _ (Qxz _))
def Qm0 (s : Stand) : Bool := decide (60 < s.words.length) || s.words.any fun w => decide (60 < w.among.length)
def farB (s : Stand) : Bool := Qm0 s || (decide (Qba s = 0) && decide (6 < s.guests))
theorem Ql0 {s : Stand} (h : Qm0 s = false) : Qb0 s ∧ s.words.length ≤ 60 := by
 unfold Qm0 at h
 simp only [Zu, decide_eq_false_iff_not, Xp, decide_eq_true_eq] at h
 exact ⟨fun w hw => by have := h.2 w hw; omega, by omega⟩
theorem W35 (s : Stand) : Qal Try.prog 35 [.ag (Qa7 s)] (.b (farB s)) := by
 refine Qaj Qwu hmix Try.func35 cb35 cc35 cs35 cn35 ?_
 by_cases h60 : (60 : Int) < s.words.length
 ·have e : farB s = true := by
   unfold farB Qm0
   have : 60 < s.words.length := by omega
   simp [this]
  simp only [rc35, rs35, h60, e, Qa9, Qa8, Qab, Qag, Qa4, Qad, Qa5, Qa2, Fam.step, Qae, evO, opv, qv, binV, ldV, lenV, V.cells, Qb2, Qaa, Qa6, Qa1, Qa0, Qa3, ↓reduceIte, Nat.reduceEqDiff, Nat.reduceAdd, Nat.reduceLeDiff, Qb, Qe, Qd, Qf, Qk, Qm, Qi, endQ, rvs, rv1, resV, vw_i, vw_b, Qam, Qb3, zipA, Qj, Qn, Qa, decide_true, and_self, Qg, Qa7]
 ·have h60' : ¬ 60 < s.words.length := by omega
  simp only [rc35, rs35, h60, Qaf, Qa9, Qa8, Qab, Qac, Qa4, Qad, Qa5, Qa2, Fam.step, Qae, evO, opv, qv, binV, ldV, lenV, V.cells, Qb2, Qaa, Qa6, Qa1, Qa0, Qa3, ↓reduceIte, Nat.reduceEqDiff, Nat.reduceAdd, Nat.reduceLeDiff, Qb, Qe, Qd, Qf, Qk, Qm, Qi, vw_i, Qam, Qb3, zipA, Qj, Qn, Qa, decide_false, true_and, and_self, Qg, Qa7]
  refine Qbc s.words.length (fun i => ⟨lkp [(1, .pa (Qa7 s)), (3, .i i)], []⟩) (fun i => ∀ j w, j < i → s.words[j]? = some w → ¬ 60 < w.among.length) ?_ ?_ ?_ ?_
  ·simp only [Zf, kp, Qa0, Qa3, ↓reduceIte, Nat.reduceEqDiff, Qb, Qe, Qa7]
  ·intro j w hj; omega
  ·intro i hi hc
   obtain ⟨w, hw⟩ : ∃ x, s.words[i]? = some x := ⟨_, Qc hi⟩
   have hlt : (i : Int) < s.words.length := by omega
   have h3 : inI ((i : Int) + 1) := by unfold inI; omega
   by_cases e : (60 : Int) < w.among.length
   ·have he : farB s = true := by
     unfold farB Qm0
     have : (s.words.any fun w => decide (60 < w.among.length)) = true := Z1.2 ⟨w, Q3 hw, by simp; omega⟩
     simp [this]
    simp only [hw, hlt, e, he, Qaf, Qa9, Qa8, Qab, Qac, Qag, Qa4, Qad, Qah, Qa5, Qa2, Fam.step, Qae, evO, opv, qv, binV, ldV, iadV, lenV, kp, Qa1, Qa0, Qa3, ↓reduceIte, Nat.reduceEqDiff, Nat.reduceAdd, Nat.reduceLeDiff, Qb, Qe, Qd, Qf, Qk, Qm, Qi, Qo, endQ, rvs, rv1, resV, vw_b, Q1, Qj, Qa, decide_true, and_self, Q2, Qg, Qt, Qh, Qu, Qas, Qa7]
   ·simp only [hw, hlt, h3, e, Zh, Zg, Qaf, Qa9, Qa8, Qab, Qac, Qa4, Qad, Qah, Qa5, Qa2, Fam.step, Qae, evO, opv, qv, binV, ldV, iadV, lenV, kp, Qa1, Qa0, Qa3, ↓reduceIte, Nat.reduceEqDiff, Nat.reduceAdd, Nat.reduceLeDiff, Qb, Qe, Qd, Qf, Qk, Qm, Qi, Qo, Q1, Qj, Qa, decide_true, decide_false, true_and, and_true, and_self, Q2, Qg, Qt, Qh, Qu, Qas, Qa7]
    intro j w' hj hjw
    by_cases hji : j < i
    ·exact hc j w' hji hjw
    ·have : j = i := by omega
     subst this
     rw [hw] at hjw; cases hjw; omega
  ·intro hc
   have hlt : ¬ ((s.words.length : Int) < s.words.length) := by omega
   have hlong : Qm0 s = false := by
    unfold Qm0
    simp only [Zu, decide_eq_false_iff_not, Xp, decide_eq_true_eq]
    refine ⟨h60', fun w hw => ?_⟩
    obtain ⟨j, hj⟩ := Zc hw
    exact hc j w (Qai hj) hj
   obtain ⟨hs, _⟩ := Ql0 hlong
   have g1 := h36 s
   simp only [Qa7] at g1
   by_cases h0 : Qba s = 0
   ·simp only [hlt, g1, hs, h0, farB, hlong, Qa9, Qa8, Qab, Qaw, Qag, Qa4, Qad, Qah, Qa5, Qa2, Fam.step, Qae, Qay, Qaq, ug, evO, opv, qv, Qak, binV, ldV, lenV, Qao, Qaa, Qa6, flat, Qa1, Qa0, Qa3, ↓reduceIte, Nat.reduceEqDiff, Nat.reduceAdd, Nat.reduceLT, Nat.reduceLeDiff, Qb, Qe, Qs, Qq, Qd, Qf, Qk, Qm, Qr, Q8, Qi, Ql, endQ, rvs, rv1, resV, vw_i, vw_b, Qam, Qb3, beq_self_eq_true, Qj, Qp, Z3, Qn, Xb, Qa, Qw, decide_true, decide_false, and_self, forall_const, implies_true, Qg, Qa7]
   ·simp only [hlt, g1, hs, h0, farB, hlong, Qa9, Qa8, Qab, Qaw, Qag, Qa4, Qad, Qah, Qa5, Qa2, Fam.step, Qae, Qay, Qaq, ug, evO, opv, qv, Qak, binV, ldV, lenV, Qao, Qaa, Qa6, flat, Qa1, Qa0, Qa3, ↓reduceIte, Nat.reduceEqDiff, Nat.reduceAdd, Nat.reduceLT, Nat.reduceLeDiff, Qb, Qe, Qs, Qq, Qd, Qf, Qk, Qm, Qr, Q8, Qi, Ql, endQ, rvs, rv1, resV, vw_i, vw_b, Qam, Qb3, Qj, Qp, Qv, Q7, Qn, Qa, decide_false, and_true, and_self, forall_const, implies_true, beq_true, imp_self, Qg, Qa7]
def e35 (a : Stand) : List V := [.ag (Qa7 a)]
def d35 : List V → Stand | [.ag x0] => (Qb4 x0) | _ => (Qb4 [])
theorem Qxy (a : Stand) : d35 (e35 a) = a := by simp [d35, e35, Qbn]
noncomputable def HN3 : Gam := HN2.ext 35 (fnG e35 d35 (fun a => (fun (s : Stand) => True) a) (fun a => (fun (s : Stand) => farB s) a) .b)
theorem Qwv : GOk Try.prog HN3 := Qwu.ext (f := 35) (fun a w => Try.call35 a w) (Qaz (e := e35) (d := d35) (ok := (fun a => (fun (s : Stand) => True) a)) (g := (fun a => (fun (s : Stand) => farB s) a)) (eb := .b) fun a h => W35 a)
theorem h35 (s : Stand) : HN3 35 [.ag (Qa7 s)] = (True, .b (farB s)) :=
 (show HN3 35 _ = fnG e35 d35 (fun a => (fun (s : Stand) => True) a) (fun a => (fun (s : Stand) => farB s) a) .b (e35 (s)) from rfl).trans (Qb1 _ (Qxy _))
theorem Quu (s : Stand)  : HN3 36 [.ag (Qa7 s)] = (Qb0 s, .i (Qba s)) := h36 s
def Qin (s : Stand) : Bool := farB s || (decide (Qba s = 0) && decide (4 < s.guests))
theorem Qnh {s : Stand} (h : farB s = false) : Qm0 s = false := by unfold farB at h; rw [Zu] at h; exact h.1
theorem W29 (s : Stand) : Qal Try.prog 29 [.ag (Qa7 s)] (.b (Qin s)) := by
 refine Qaj Qwv hmix Try.func29 cb29 cc29 cs29 cn29 ?_
 have g1 := h35 s
 have g2 := Quu s
 simp only [Qa7] at g1 g2
 cases hf : farB s with
 | true => simp only [rc29, rs29, g1, g2, hf, Qin, Qa9, Qa8, Qag, Qa4, Qad, Qa5, Qa2, Fam.step, Qae, Qay, Qaq, ug, evO, opv, qv, Qak, binV, ldV, Qao, V.cells, Qb2, Qaa, Qa6, flat, Qa1, Qa0, Qa3, ↓reduceIte, Nat.reduceEqDiff, Nat.reduceAdd, Nat.reduceLT, Nat.reduceLeDiff, Qb, Qe, Qs, Qq, Qd, Qf, Qm, Qr, Q8, Qi, Ql, endQ, rvs, rv1, resV, vw_i, vw_b, Qam, Qb3, zipA, Qj, Qp, Qv, Q7, Qn, Bool.true_or, Qx, Qa, Qw, decide_eq_true_eq, decide_eq_false_iff_not, true_and, and_true, and_self, false_and, forall_const, implies_true, beq_true, beq_false, Qon, imp_self, Qa7]
 | false =>
  obtain ⟨hs, _⟩ := Ql0 (Qnh hf)
  by_cases h0 : Qba s = 0 <;> simp only [rc29, rs29, g1, g2, hs, hf, h0, Qin, Qa9, Qa8, Qag, Qa4, Qad, Qa5, Qa2, Fam.step, Qae, Qay, Qaq, ug, evO, opv, qv, Qak, binV, ldV, Qao, V.cells, Qb2, Qaa, Qa6, flat, Qa1, Qa0, Qa3, ↓reduceIte, Nat.reduceEqDiff, Nat.reduceAdd, Nat.reduceLT, Nat.reduceLeDiff, Qb, Qe, Qs, Qq, Qd, Qf, Qm, Qr, Q8, Qi, Ql, endQ, rvs, rv1, resV, vw_i, vw_b, Qam, Qb3, zipA, beq_self_eq_true, Qj, Qp, Qv, Z3, Q7, Zt, Qn, Xb, Qa, Qw, decide_true, decide_false, and_true, and_self, forall_const, implies_true, beq_true, imp_self, Qa7]
def e29 (a : Stand) : List V := [.ag (Qa7 a)]
def d29 : List V → Stand | [.ag x0] => (Qb4 x0) | _ => (Qb4 [])
theorem Qxx (a : Stand) : d29 (e29 a) = a := by simp [d29, e29, Qbn]
noncomputable def HN4 : Gam := HN3.ext 29 (fnG e29 d29 (fun a => (fun (s : Stand) => True) a) (fun a => (fun (s : Stand) => Qin s) a) .b)
theorem Qww : GOk Try.prog HN4 := Qwv.ext (f := 29) (fun a w => Try.call29 a w) (Qaz (e := e29) (d := d29) (ok := (fun a => (fun (s : Stand) => True) a)) (g := (fun a => (fun (s : Stand) => Qin s) a)) (eb := .b) fun a h => W29 a)
theorem h29 (s : Stand) : HN4 29 [.ag (Qa7 s)] = (True, .b (Qin s)) :=
 (show HN4 29 _ = fnG e29 d29 (fun a => (fun (s : Stand) => True) a) (fun a => (fun (s : Stand) => Qin s) a) .b (e29 (s)) from rfl).trans (Qb1 _ (Qxx _))
theorem Quv (s : Stand)  : HN4 36 [.ag (Qa7 s)] = (Qb0 s, .i (Qba s)) := h36 s
def Qm7 (s : Stand) : Bool := !Qin s && decide (Qba s = 0)
theorem Qrm {s : Stand} (h : Qin s = false) : farB s = false := by unfold Qin at h; rw [Zu] at h; exact h.1
theorem W14 (s : Stand) : Qal Try.prog 14 [.ag (Qa7 s)] (.b (Qm7 s)) := by
 refine Qaj Qww hmix Try.func14 cb14 cc14 cs14 cn14 ?_
 have g1 := h29 s
 have g2 := Quv s
 simp only [Qa7] at g1 g2
 cases hf : Qin s with
 | true => simp only [rc14, rs14, g1, hf, Qm7, Qa9, Qa8, Qag, Qa4, Qad, Qa5, Qa2, Fam.step, Qae, Qay, Qaq, ug, evO, opv, qv, Qkr, binV, ldV, Qao, V.cells, Qb2, Qaa, Qa6, flat, Qa1, Qa0, Qa3, ↓reduceIte, Nat.reduceEqDiff, Nat.reduceAdd, Nat.reduceLT, Nat.reduceLeDiff, Qb, Qe, Qs, Qq, Qd, Qf, Qr, Q8, Ql, endQ, rvs, rv1, resV, vw_i, vw_b, Qam, Qb3, zipA, Qj, Qp, Qv, Q7, Qn, Qx, Qa, true_and, and_true, and_self, false_and, forall_const, false_implies, implies_true, beq_true, imp_self, Qa7]
 | false =>
  obtain ⟨hs, _⟩ := Ql0 (Qnh (Qrm hf))
  by_cases h0 : Qba s = 0 <;> simp only [rc14, rs14, g1, g2, hs, hf, h0, Qm7, Qa9, Qa8, Qag, Qa4, Qad, Qa5, Qa2, Fam.step, Qae, Qay, Qaq, ug, evO, opv, qv, Qak, binV, ldV, Qao, V.cells, Qb2, Qaa, Qa6, flat, Qa1, Qa0, Qa3, ↓reduceIte, Nat.reduceEqDiff, Nat.reduceAdd, Nat.reduceLT, Nat.reduceLeDiff, Qb, Qe, Qs, Qq, Qd, Qf, Qr, Q8, Ql, endQ, rvs, rv1, resV, vw_i, vw_b, Qam, Qb3, zipA, beq_self_eq_true, Qj, Qp, Zt, Qn, Qz, Qa, Qw, decide_true, decide_false, and_self, forall_const, implies_true, Qa7]
def e14 (a : Stand) : List V := [.ag (Qa7 a)]
def d14 : List V → Stand | [.ag x0] => (Qb4 x0) | _ => (Qb4 [])
noncomputable def HN5 : Gam := HN4.ext 14 (fnG e14 d14 (fun a => (fun (s : Stand) => True) a) (fun a => (fun (s : Stand) => Qm7 s) a) .b)
theorem Qwx : GOk Try.prog HN5 := Qww.ext (f := 14) (fun a w => Try.call14 a w) (Qaz (e := e14) (d := d14) (ok := (fun a => (fun (s : Stand) => True) a)) (g := (fun a => (fun (s : Stand) => Qm7 s) a)) (eb := .b) fun a h => W14 a)
theorem Quw (l : List Int) (n : Int)  : HN5 52 [.sl 1 (l.map eI), .i n] = (l.length ≤ 1000000, .b (decide (n ∈ l))) := h52 l n
theorem W43 (w : Word) (t : List Int) (h : OkSo w t.length) : Qal Try.prog 43 [.ag (Qas w), .sl 1 (t.map eI)] (.b (soB w t)) := by
 refine Qaj Qwx hmix Try.func43 cb43 cc43 cs43 cn43 ?_
 have g1 := fun n => Quw w.among n
 simp only [rc43, rs43, Qa9, Qa8, Qac, Qa4, Qad, Qa5, Qa2, Fam.step, Qae, evO, opv, qv, binV, ldV, V.cells, Qb2, Qaa, Qa6, Qa1, Qa0, Qa3, ↓reduceIte, Nat.reduceEqDiff, Nat.reduceAdd, Nat.reduceLeDiff, Qb, Qe, Qd, Qf, Qm, Qi, vw_i, Qam, Qb3, zipA, Qj, Qn, Qa, true_and, and_self, reduceCtorEq, Qas]
 obtain ⟨⟨a1, a2⟩, ⟨b1, b2⟩, hl⟩ := h
 obtain ⟨x, hx⟩ : ∃ x, t[w.guest.toNat]? = some x := ⟨_, Qc (by omega)⟩
 obtain ⟨y, hy⟩ : ∃ x, t[w.other.toNat]? = some x := ⟨_, Qc (by omega)⟩
 have ex : atN t w.guest = x := by unfold atN; rw [hx]; rfl
 have ey : atN t w.other = y := by unfold atN; rw [hy]; rfl
 by_cases k1 : w.kind = 1
 ·simp only [k1, a1, a2, hx, g1, hl, soB, ex, Qbx, Qa8, Qab, Qag, Qb9, Qad, Qah, Qae, runX, eff, Qb8, fpR, fpQ, fpV, Qc9, hits, evO, opv, qv, ldV, iadV, Qao, Qaa, Qa6, flat, Qa1, Qa0, ↓reduceIte, Nat.reduceEqDiff, Nat.reduceAdd, Nat.reduceLT, Nat.reduceLeDiff, Qb, Qe, Qq, Qd, Qf, Qk, Qm, Qi, Q5, Q0, Ql, Q4, Qo, Q9, Qy, Za, endQ, rvs, rv1, resV, vw_i, vw_b, Qam, Qj, Qp, Qv, Q7, Qn, Qx, Qz, Qa, decide_true, and_self, implies_true, Q2, Zb, Q6, Qg, Qh, Qu, eI]
 by_cases k2 : w.kind = 2
 ·simp only [k2, a1, a2, hx, g1, hl, soB, ex, Qa9, Qbx, Qa8, Qab, Qag, Qa4, Qb9, Qad, Qah, Qa5, Qa2, Fam.step, Qae, runX, eff, Qb8, fpR, fpQ, fpV, Qc9, hits, evO, opv, qv, binV, ldV, iadV, Qao, Qaa, Qa6, flat, Qa1, Qa0, Qa3, ↓reduceIte, Nat.reduceEqDiff, Nat.reduceAdd, Nat.reduceLT, Nat.reduceLeDiff, Int.reduceEq, Qb, Qe, Qq, Qd, Qf, Qk, Qm, Qi, Q5, Q0, Ql, Q4, Qo, Q9, Qy, Za, endQ, rvs, rv1, resV, vw_i, vw_b, Qam, Qj, Qp, Qv, Q7, Qn, Qx, Qz, Qa, decide_true, decide_false, and_self, implies_true, Q2, Zb, Q6, Qg, Qh, Qu, eI]
 by_cases k3 : w.kind = 3
 ·by_cases e : x = w.other <;> simp only [k3, a1, a2, b1, b2, hx, hy, soB, ex, ey, e, Qa9, Qbx, Qa8, Qab, Qag, Qa4, Qb9, Qad, Qah, Qa5, Qa2, Fam.step, Qae, Qay, Qaq, ug, runX, eff, Qb8, fpR, fpQ, fpV, Qc9, hits, evO, opv, qv, Qak, binV, ldV, iadV, Qa1, Qa0, Qa3, ↓reduceIte, Nat.reduceEqDiff, Nat.reduceAdd, Nat.reduceLeDiff, Int.reduceEq, Qb, Qe, Qs, Qq, Qd, Qf, Qk, Qm, Qi, Q5, Q0, Ql, Q4, Qo, Q9, Qy, Za, endQ, rvs, rv1, resV, vw_b, beq_self_eq_true, Qj, Qp, Qv, Z3, Q7, Qn, Qx, Qz, Qa, Qw, decide_true, decide_false, and_true, and_self, forall_const, implies_true, Q2, Zb, Q6, beq_true, imp_self, Qg, Qh, Qu, eI]
 ·by_cases e : x = w.guest <;> simp only [k1, k2, k3, a1, a2, b1, b2, hx, hy, soB, ex, ey, e, Qaf, Qa9, Qbx, Qa8, Qab, Qag, Qa4, Qb9, Qad, Qah, Qa5, Qa2, Fam.step, Qae, Qay, Qaq, ug, runX, eff, Qb8, fpR, fpQ, fpV, Qc9, hits, evO, opv, qv, Qak, binV, ldV, iadV, Qa1, Qa0, Qa3, ↓reduceIte, Nat.reduceEqDiff, Nat.reduceAdd, Nat.reduceLeDiff, Qb, Qe, Qs, Qq, Qd, Qf, Qk, Qm, Qi, Q5, Q0, Ql, Q4, Qo, Q9, Qy, Za, endQ, rvs, rv1, resV, vw_b, beq_self_eq_true, Qj, Qp, Qv, Q7, Qn, Xb, Bool.true_or, Qx, Qz, Qa, Qw, decide_true, decide_false, and_true, and_self, forall_const, implies_true, Q2, Zb, Q6, beq_false, imp_self, Qg, Qh, Qu, eI]
def e43 (a : Word × List Int) : List V := [.ag (Qas a.1), .sl 1 (a.2.map eI)]
def d43 : List V → Word × List Int | [.ag x0, .sl _ x1] => (Qeu x0, x1.map dI) | _ => (Qeu [], [])
noncomputable def HN6 : Gam := HN5.ext 43 (fnG e43 d43 (fun a => (fun (w : Word) (t : List Int) => OkSo w t.length) a.1 a.2) (fun a => (fun (w : Word) (t : List Int) => soB w t) a.1 a.2) .b)
theorem Qwy : GOk Try.prog HN6 := Qwx.ext (f := 43) (fun a w => Try.call43 a w) (Qaz (e := e43) (d := d43) (ok := (fun a => (fun (w : Word) (t : List Int) => OkSo w t.length) a.1 a.2)) (g := (fun a => (fun (w : Word) (t : List Int) => soB w t) a.1 a.2)) (eb := .b) fun a h => W43 a.1 a.2 h)
theorem Qux (l : List Int) (n : Int)  : HN6 52 [.sl 1 (l.map eI), .i n] = (l.length ≤ 1000000, .b (decide (n ∈ l))) := h52 l n
theorem W18 (t : List Int) (h : t.length ≤ 1000000) : Qal Try.prog 18 [.sl 1 (t.map eI)] (.b (takB t)) := by
 refine Qaj Qwy hmix Try.func18 cb18 cc18 cs18 cn18 ?_
 simp only [rc18, rs18, Qa9, Qa8, Qac, Qa4, Qad, Qa5, Qa2, Fam.step, Qae, evO, opv, qv, Qa1, Qa0, Qa3, ↓reduceIte, Qb, Qe, zipA, true_and, reduceCtorEq]
 refine Qbc t.length (fun i => ⟨lkp [(0, .sl 1 (t.map eI)), (3, .i i)], []⟩) (fun i => ∀ j : Nat, j < i → (Qbf (t[j]?.getD 0) 0 (t.length - 1) && !decide (t[j]?.getD 0 ∈ t.take j)) = true) ?_ ?_ ?_ ?_
 ·simp only [Zf, kp, Qa0, Qa3, ↓reduceIte, Qb, Qe, reduceCtorEq]
 ·intro j hj; omega
 ·intro i hi hc
  obtain ⟨x, hx⟩ : ∃ x, t[i]? = some x := ⟨_, Qc hi⟩
  have hlt : (i : Int) < t.length := by omega
  have h3 : inI ((i : Int) + 1) := by unfold inI; omega
  have hle : (i : Int) ≤ t.length := by omega
  have g2 := Qux (t.take i) x
  have htl : (t.take i).length ≤ 1000000 := by rw [Xq]; omega
  have hmt : List.take i (t.map eI) = (t.take i).map eI := by rw [List.map_take]
  have bad : (Qbf x 0 (t.length - 1) && !decide (x ∈ t.take i)) = false → takB t = false := fun e => by
   unfold takB
   rw [Xh]; right
   rw [Z7]
   exact ⟨i, Zk.2 hi, by rw [hx, Qo, e]; simp⟩
  have good : (Qbf x 0 (t.length - 1) && !decide (x ∈ t.take i)) = true → ∀ j : Nat, j < i + 1 → (Qbf (t[j]?.getD 0) 0 (t.length - 1) && !decide (t[j]?.getD 0 ∈ t.take j)) = true := fun e j hj => by
   by_cases hji : j < i
   ·exact hc j hji
   ·have : j = i := by omega
    subst this
    rw [hx, Qo]; exact e
  by_cases hx0 : x < 0
  ·simp only [hx, hlt, hle, hx0, Qaf, Qa9, Qbx, Qa8, Qab, Qac, Qag, Qa4, Qb9, Qad, Qah, Qa5, Qa2, Fam.step, Qae, Qay, Qaq, ug, runX, eff, Qb8, fpR, fpQ, fpV, Qc9, hits, evO, opv, qv, Qak, Qdw, binV, ldV, iadV, lenV, slcV, Qhd, Qao, Qaa, Qa6, kp, Qa1, Qa0, Qa3, ↓reduceIte, Nat.reduceEqDiff, Nat.reduceLT, Nat.reduceLeDiff, Zn, Int.reduceLE, Qb, Qe, Qs, Qq, Qd, Qf, Qm, Qi, Q5, Q0, Ql, Q4, Qo, Q9, Qy, Za, endQ, rvs, rv1, resV, vw_i, vw_b, Qam, Q1, Qj, V.b.injEq, Qp, Qv, Q7, Qn, Qx, Qz, Qa, Qw, decide_true, true_and, and_true, and_self, false_and, forall_const, false_implies, implies_true, reduceCtorEq, Q2, Z5, Zb, Q6, beq_false, imp_self, Qg, Qt, Qh, Qu, eI]
   exact (bad (by unfold Qbf; simp; intro h5; omega)).symm
  ·by_cases hx1 : (t.length : Int) ≤ x
   ·simp only [hx, hlt, hle, hx0, hx1, Qaf, Qa9, Qbx, Qa8, Qab, Qac, Qag, Qa4, Qb9, Qad, Qah, Qa5, Qa2, Fam.step, Qae, Qay, Qaq, ug, runX, eff, Qb8, fpR, fpQ, fpV, Qc9, hits, evO, opv, qv, Qak, Qdw, binV, ldV, iadV, lenV, slcV, Qhd, Qao, Qaa, Qa6, kp, Qa1, Qa0, Qa3, ↓reduceIte, Nat.reduceEqDiff, Nat.reduceLT, Nat.reduceLeDiff, Zn, Int.reduceLE, Qb, Qe, Qs, Qq, Qd, Qf, Qm, Qi, Q5, Q0, Ql, Q4, Qo, Q9, Qy, Za, endQ, rvs, rv1, resV, vw_i, vw_b, Qam, Q1, beq_self_eq_true, Qj, V.b.injEq, Qp, Qv, Q7, Qn, Qx, Qz, Qa, Qw, decide_true, decide_false, true_and, and_true, and_self, false_and, forall_const, false_implies, implies_true, reduceCtorEq, Q2, Z5, Zb, Q6, beq_false, imp_self, Qg, Qt, Qh, Qu, eI]
    exact (bad (by unfold Qbf; simp; intro; omega)).symm
   ·have hw : Qbf x 0 (t.length - 1) = true := by unfold Qbf; simp; omega
    by_cases hm : x ∈ t.take i
    ·simp only [hx, hlt, hle, hx0, hx1, g2, htl, hmt, hm, Qaf, Qa9, Qbx, Qa8, Qab, Qac, Qag, Qa4, Qb9, Qad, Qah, Qa5, Qa2, Fam.step, Qae, Qay, Qaq, ug, runX, eff, Qb8, fpR, fpQ, fpV, Qc9, hits, evO, opv, qv, Qak, binV, ldV, iadV, lenV, slcV, Qhd, Qao, Qaa, Qa6, flat, kp, Qa1, Qa0, Qa3, ↓reduceIte, Nat.reduceEqDiff, Nat.reduceLT, Nat.reduceLeDiff, Zn, Int.reduceLE, Qb, Qe, Qs, Qq, Qd, Qf, Qm, Qi, Q5, Q0, Ql, Q4, Qo, Q9, Qy, Za, endQ, rvs, rv1, resV, vw_i, vw_b, Qam, Q1, beq_self_eq_true, Qj, V.b.injEq, Qp, Qv, Q7, Qn, Qx, Qz, Qa, decide_true, decide_false, true_and, and_self, forall_const, implies_true, reduceCtorEq, Q2, Z5, Zb, Q6, Qg, Qt, Qh, Qu, eI]
     exact (bad (by simp [hm])).symm
    ·simp only [hx, hlt, h3, hle, hx0, hx1, g2, htl, hmt, hm, Zh, Zg, Qaf, Qa9, Qbx, Qa8, Qab, Qac, Qa4, Qb9, Qad, Qah, Qa5, Qa2, Fam.step, Qae, Qay, Qaq, ug, runX, eff, Qb8, fpR, fpQ, fpV, Qc9, hits, evO, opv, qv, Qak, binV, ldV, iadV, lenV, slcV, Qhd, Qao, Qaa, Qa6, flat, kp, Qa1, Qa0, Qa3, ↓reduceIte, Nat.reduceEqDiff, Nat.reduceLT, Nat.reduceLeDiff, Zn, Int.reduceLE, Qb, Qe, Qs, Qq, Qd, Qf, Qm, Qi, Q5, Q0, Ql, Q4, Qo, Q9, Qy, Za, vw_i, Qam, Q1, beq_self_eq_true, Qj, Qp, Qv, Q7, Qn, Qx, Qz, Qa, decide_true, decide_false, true_and, and_true, and_self, forall_const, implies_true, reduceCtorEq, Q2, Z5, Zb, Q6, Qg, Qt, Qh, Qu, eI]
     exact good (by simp [hw, hm])
 ·intro hc
  have hlt : ¬ ((t.length : Int) < t.length) := by omega
  have e : takB t = decide (t.length ≤ 7) := by
   unfold takB
   have : ((List.range t.length).all fun i => Qbf (t[i]?.getD 0) 0 (t.length - 1) && !decide (t[i]?.getD 0 ∈ t.take i)) = true := by
    rw [Z0]
    exact fun i hi => hc i (Zk.1 hi)
   rw [this, Qv]
  simp only [hlt, e, Qa9, Qa8, Qab, Qaw, Qag, Qa4, Qad, Qah, Qa5, Qa2, Fam.step, Qae, evO, opv, qv, binV, lenV, Qa1, Qa0, Qa3, ↓reduceIte, Nat.reduceEqDiff, Qb, Qe, endQ, rvs, rv1, resV, vw_b, V.b.injEq, Qa, decide_false, true_and, and_self, reduceCtorEq, Qg]
  rw [decide_eq_decide]; omega
def e18 (a : List Int) : List V := [.sl 1 (a.map eI)]
def d18 : List V → List Int | [.sl _ x0] => (x0.map dI) | _ => ([])
theorem Qxm (a : List Int) : d18 (e18 a) = a := by simp [d18, e18, Function.comp_def, Qcx]
noncomputable def HN7 : Gam := HN6.ext 18 (fnG e18 d18 (fun a => (fun (t : List Int) => t.length ≤ 1000000) a) (fun a => (fun (t : List Int) => takB t) a) .b)
theorem Qwz : GOk Try.prog HN7 := Qwy.ext (f := 18) (fun a w => Try.call18 a w) (Qaz (e := e18) (d := d18) (ok := (fun a => (fun (t : List Int) => t.length ≤ 1000000) a)) (g := (fun a => (fun (t : List Int) => takB t) a)) (eb := .b) fun a h => W18 a h)
theorem h18 (t : List Int) : HN7 18 [.sl 1 (t.map eI)] = (t.length ≤ 1000000, .b (takB t)) :=
 (show HN7 18 _ = fnG e18 d18 (fun a => (fun (t : List Int) => t.length ≤ 1000000) a) (fun a => (fun (t : List Int) => takB t) a) .b (e18 (t)) from rfl).trans (Qb1 _ (Qxm _))
theorem W28 (l m : List Int) (h : l.length ≤ 1000000) : Qal Try.prog 28 [.sl 1 (l.map eI), .sl 1 (m.map eI)] (.b (decide (l = m))) := by
 refine Qaj Qwz hmix Try.func28 cb28 cc28 cs28 cn28 ?_
 simp only [rc28, rs28, Qaf, Qa9, Qa8, Qab, Qiu, Qac, Qag, Qa4, Qad, Qa5, Qa2, Fam.step, Qae, evO, opv, qv, binV, lenV, Qa1, Qa0, Qa3, ↓reduceIte, Nat.reduceEqDiff, Qb, Qe, endQ, rvs, rv1, resV, vw_b, zipA, Qj, V.b.injEq, decide_eq_false_iff_not, true_and, and_self, reduceCtorEq, Bool.not_eq_true', Qg, Classical.not_not]
 refine ⟨fun h1 => ?_, fun h1 => ?_⟩
 ·have : ¬ l = m := fun e => by rw [e] at h1; omega
  simp only [this, decide_false]
 ·have hlm : l.length = m.length := by omega
  refine Qbc l.length (fun i => ⟨lkp [(0, .sl 1 (l.map eI)), (1, .sl 1 (m.map eI)), (5, .i i)], []⟩) (fun i => ∀ j : Nat, j < i → l[j]? = m[j]?) ?_ ?_ ?_ ?_
  ·simp only [Zf, kp, Qa0, Qa3, ↓reduceIte, Nat.reduceEqDiff, Qb, Qe, reduceCtorEq]
  ·intro j hj; omega
  ·intro i hi hc
   obtain ⟨n, hn⟩ : ∃ n, l[i]? = some n := ⟨_, Qc hi⟩
   obtain ⟨n', hn'⟩ : ∃ n, m[i]? = some n := ⟨_, Qc (by omega)⟩
   have hlt : (i : Int) < l.length := by omega
   have hlt2 : (i : Int) < m.length := by omega
   have h3 : inI ((i : Int) + 1) := by unfold inI; omega
   by_cases e : n = n'
   ·subst e
    simp only [hn, hn', hlt, hlt2, h3, Zh, Zg, Qaf, Qa9, Qbx, Qa8, Qab, Qac, Qa4, Qb9, Qad, Qah, Qa5, Qa2, Fam.step, Qae, runX, eff, Qb8, fpR, fpQ, fpV, Qc9, hits, evO, opv, qv, binV, ldV, iadV, lenV, kp, Qa1, Qa0, Qa3, ↓reduceIte, Nat.reduceEqDiff, Nat.reduceLeDiff, Qb, Qe, Qq, Qd, Qf, Qi, Q5, Q0, Ql, Q4, Qo, Q9, Qy, Za, Q1, Qj, Qp, Qv, Q7, Qn, Qx, Qz, Qa, decide_true, true_and, and_true, and_self, reduceCtorEq, Q2, Zb, Q6, Qg, Qt, Qh, Qu, eI]
    intro j hj
    by_cases hji : j < i
    ·exact hc j hji
    ·have : j = i := by omega
     subst this
     rw [hn, hn']
   ·have : ¬ l = m := fun e2 => by rw [e2, hn'] at hn; exact e (Zj.inj hn).symm
    simp only [hn, hn', hlt, hlt2, e, this, Qaf, Qa9, Qbx, Qa8, Qab, Qac, Qag, Qa4, Qb9, Qad, Qah, Qa5, Qa2, Fam.step, Qae, runX, eff, Qb8, fpR, fpQ, fpV, Qc9, hits, evO, opv, qv, binV, ldV, iadV, lenV, kp, Qa1, Qa0, Qa3, ↓reduceIte, Nat.reduceEqDiff, Nat.reduceLeDiff, Qb, Qe, Qq, Qd, Qf, Qi, Q5, Q0, Ql, Q4, Qo, Q9, Qy, Za, endQ, rvs, rv1, resV, vw_b, Q1, Qj, Qp, Qv, Q7, Qn, Qx, Qz, Qa, decide_true, decide_false, and_self, reduceCtorEq, Q2, Zb, Q6, Qg, Qt, Qh, Qu, eI]
  ·intro hc
   have hlt : ¬ ((l.length : Int) < l.length) := by omega
   have e : l = m := by
    apply List.ext_getElem?
    intro j
    by_cases hj : j < l.length
    ·exact hc j hj
    ·rw [Xi (by omega), Xi (by omega)]
   subst e
   simp only [hlt, eq_self, Qa9, Qa8, Qab, Qaw, Qag, Qa4, Qad, Qah, Qa5, Qa2, Fam.step, Qae, evO, opv, qv, binV, lenV, Qa1, Qa0, Qa3, ↓reduceIte, Nat.reduceEqDiff, Qb, Qe, endQ, rvs, rv1, resV, vw_b, Qa, decide_true, decide_false, and_self, reduceCtorEq, Qg]
def e28 (a : List Int × List Int) : List V := [.sl 1 (a.1.map eI), .sl 1 (a.2.map eI)]
def d28 : List V → List Int × List Int | [.sl _ x0, .sl _ x1] => (x0.map dI, x1.map dI) | _ => ([], [])
theorem Qxw (a : List Int × List Int) : d28 (e28 a) = a := by simp [d28, e28, Function.comp_def, Qcx]
noncomputable def HN8 : Gam := HN7.ext 28 (fnG e28 d28 (fun a => (fun (l : List Int) (m : List Int) => l.length ≤ 1000000) a.1 a.2) (fun a => (fun (l : List Int) (m : List Int) => decide (l = m)) a.1 a.2) .b)
theorem Qx0 : GOk Try.prog HN8 := Qwz.ext (f := 28) (fun a w => Try.call28 a w) (Qaz (e := e28) (d := d28) (ok := (fun a => (fun (l : List Int) (m : List Int) => l.length ≤ 1000000) a.1 a.2)) (g := (fun a => (fun (l : List Int) (m : List Int) => decide (l = m)) a.1 a.2)) (eb := .b) fun a h => W28 a.1 a.2 h)
theorem h28 (l : List Int) (m : List Int) : HN8 28 [.sl 1 (l.map eI), .sl 1 (m.map eI)] = (l.length ≤ 1000000, .b (decide (l = m))) :=
 (show HN8 28 _ = fnG e28 d28 (fun a => (fun (l : List Int) (m : List Int) => l.length ≤ 1000000) a.1 a.2) (fun a => (fun (l : List Int) (m : List Int) => decide (l = m)) a.1 a.2) .b (e28 (l, m)) from rfl).trans (Qb1 _ (Qxw _))
def exS0 : Stand := ⟨4, [⟨1, 0, 0, [1, 2]⟩, ⟨2, 3, 0, [3]⟩, ⟨4, 1, 2, []⟩], 0⟩
theorem W49 : Qal Try.prog 49 [] (.ag (Qa7 exS0)) := by
 refine Qaj Qx0 hmix Try.func49 cb49 cc49 cs49 cn49 ?_
 simp only [rc49, rs49, exS0, Z8, Z2, Qa9, Qa8, Qag, Qa4, Qd7, putB, Qad, Qa5, Qa2, Fam.step, Qae, Qci, Qb6, putB, nv, sv, evO, opv, qv, ldV, Qat, putAt, Qbe, Qb5, V.cells, Qb2, Qc3, Qaa, Qa6, Qa1, Qce, Qa0, Qa3, ↓reduceIte, Nat.reduceEqDiff, Nat.reduceAdd, Nat.reduceMul, Nat.reduceLeDiff, Qb, Qe, Qs, Qq, Qd, Qf, Qk, Qm, List.drop_nil, Qr, Z6, Q8, Q5, Q0, Ql, Zd, Zp, Qy, Xj, endQ, rvs, rv1, resV, vw_i, vw_z, Qam, Qb3, zipA, Qj, Qp, Qn, true_and, and_self, reduceCtorEq, not_false_eq_true, ne_eq, Qas, Qa7, eI]
 rfl
noncomputable def HN9 : Gam := HN8.ext 49 fun vs => (vs = [], .ag (Qa7 exS0))
theorem Qx1 : GOk Try.prog HN9 := Qx0.ext (f := 49) (fun a w => Try.call49 a w) fun vs h => by
 have e : vs = [] := h
 subst e
 exact W49
theorem h49 : HN9 49 [] = (True, .ag (Qa7 exS0)) := by
 refine (show HN9 49 [] = ((([] : List V) = []), V.ag (Qa7 exS0)) from rfl).trans ?_
 simp
theorem Qk3 : Qb0 exS0 := by
 intro w hw
 simp [exS0] at hw
 rcases hw with rfl | rfl | rfl <;> simp
theorem Qi5 : Qba exS0 = 0 := by decide
theorem Qdx : Qan exS0 = [[1, 3, 2, 0], [2, 1, 3, 0]] := by decide +kernel
theorem Qnf : Qbz exS0 [] = ([[1, 3, 2, 0], [2, 1, 3, 0]], 0) := by
 unfold Qbz
 rw [if_neg (by rw [Qi5]; simp), if_neg (by simp), Qdx]
 rfl
theorem Qn2 {l : List (List Int)} {g n : Int} (h : ∀ t ∈ l, 0 ≤ atN t g ∧ atN t g ≤ n - 1) : Qd2 l g = (ints 0 (n - 1)).filter fun u => l.any fun t => decide (atN t g = u) := by
 have hd := Qlg (colN l g)
 refine Qjy hd.1 ?_ fun x => ?_
 ·refine Xk.filter _ ?_
  unfold ints
  rw [List.pairwise_map]
  refine Xk.imp ?_ Xf
  intro a b hab; omega
 ·unfold Qd2
  rw [hd.2, List.mem_filter, Qi9, Z1]
  unfold colN
  rw [List.mem_map]
  constructor
  ·rintro ⟨t, ht, rfl⟩
   exact ⟨h t ht, t, ht, by simp⟩
  ·rintro ⟨_, t, ht, e⟩
   exact ⟨t, ht, by simpa using e⟩
theorem Qk4 : ∀ g : Int, 0 ≤ g → g ≤ 3 → Qd2 (Qan exS0) g = (ints 0 3).filter fun u => (Qan exS0).any fun t => decide (atN t g = u) := fun g h1 h2 => by
 refine Qn2 (n := 4) fun t ht => ?_
 have hS : OkS exS0 := Qhu Qi5 Qk3
 have := (Qdb (n := 4) (Qfq.1 ht).1 (x := g) (by omega)).2
 omega
theorem Qpn : Qdh exS0 = ([-1, -1, -1, 0], 0) := by
 unfold Qdh Qd9
 rw [Qnf, if_pos rfl]
 have e : ints 0 (exS0.guests - 1) = [0, 1, 2, 3] := by decide
 rw [e]
 simp only [Qb, Qe]
 rw [Qk4 0 (by decide) (by decide), Qk4 1 (by decide) (by decide), Qk4 2 (by decide) (by decide), Qk4 3 (by decide) (by decide), Qdx]
 decide +kernel
theorem Qtg : Qiy exS0 = (2, 0) := by
 unfold Qiy
 rw [if_pos Qi5, Qdx]; rfl
theorem Qrl : (Qcq exS0).1 = 1 ∧ (Qcq exS0).2.2 = 0 := by
 have hS : OkS exS0 := Qhu Qi5 Qk3
 have hT := Qdl hS
 have hne : Qan exS0 ≠ [] := by rw [Qdx]; simp
 obtain ⟨h1, h2⟩ := Qg6 hT hne
 have c1 : canB 1 (Qan exS0) = true := by rw [Qdx]; decide +kernel
 have c0 : ¬ canB 0 (Qan exS0) = true := by rw [Qdx]; decide +kernel
 have hle := h2 1 c1
 have hge : Qeq (Qan exS0) ≠ 0 := fun e => by rw [e] at h1; exact c0 h1
 have e1 : Qeq (Qan exS0) = 1 := by omega
 unfold Qcq
 rw [Qnf, if_pos rfl]
 exact ⟨by show (Qeq (Qan exS0) : Int) = 1; rw [e1]; rfl, rfl⟩
theorem Qtf : ((Qdg [1, 2, 0, 3]).1.length, (Qdg [1, 2, 0, 3]).2) = (2, 0) := by decide +kernel
theorem Qpo : (Qc1 [1, 2, 0, 3]).2.2 = 0 ∧ 0 < (Qc1 [1, 2, 0, 3]).1.length + (Qc1 [1, 2, 0, 3]).2.1.length ∧ (Qc1 [1, 2, 0, 3]).1.length + (Qc1 [1, 2, 0, 3]).2.1.length ≤ 100 := by decide +kernel
theorem Quy (s : Stand)  : HN9 16 [.ag (Qa7 s)] = (Qb0 s, ((fun r => .tp [.i r.1, .i r.2])) (Qiy s)) := h16 s
theorem Qv3 (s : Stand)  : HN9 41 [.ag (Qa7 s)] = (Qb0 s, ((fun r => .tp [.sl 1 (r.1.map eI), .i r.2])) (Qdh s)) := h41 s
theorem Quz (s : Stand)  : HN9 17 [.ag (Qa7 s)] = (Qb0 s, ((fun r => .tp [.i r.1, .i r.2.2])) (Qcq s)) := h17 s
theorem Qv0 (t : List Int)  : HN9 19 [.sl 1 (t.map eI)] = (t.length ≤ 1000000, ((fun r => .tp [.i r.1.length, .i r.2])) (Qdg t)) := h19 t
theorem Qv1 (t : List Int)  : HN9 24 [.sl 1 (t.map eI)] = (t.length ≤ 1000000, r3V (Qc1 t)) := h24 t
theorem Qv2 (l : List Int) (m : List Int)  : HN9 28 [.sl 1 (l.map eI), .sl 1 (m.map eI)] = (l.length ≤ 1000000, .b (decide (l = m))) := h28 l m
set_option maxHeartbeats 1000000 in
theorem W15 : Qal Try.prog 15 [] (.b true) := by
 refine Qaj Qx1 hmix Try.func15 cb15 cc15 cs15 cn15 ?_
 have g1 := Quy exS0
 have g2 := Qv3 exS0
 have g3 := Quz exS0
 have g4 := Qv0 [1, 2, 0, 3]
 have g5 := Qv1 [1, 2, 0, 3]
 have g6 := Qv2 [-1, -1, -1, 0] [-1, -1, -1, 0]
 obtain ⟨e1, e2⟩ := Qrl
 obtain ⟨e3, e4, e5⟩ := Qpo
 have e6 := Qtf
 rw [Prod.mk.injEq] at e6
 rw [Qtg] at g1
 rw [Qpn] at g2
 simp only [e1, e2] at g3
 simp only [e6.1, e6.2] at g4
 simp only [r3V, e3] at g5
 have hsh := Qk3
 obtain ⟨X, hX⟩ : ∃ X, X = exS0 := ⟨_, rfl⟩
 have hE := h49
 have eX : Qa7 exS0 = [V.i 4, V.sl 4 (exS0.words.map Qas), V.i 0] := rfl
 rw [eX] at g1 g2 g3 hE
 simp only [eI, Qb, Qe, Qd, Qf] at g2 g4 g5 g6
 have c2 : ∀ a b c d : V, Qcj 1 [a, b, c, d] 0 4 = [[a], [b], [c], [d]] := fun _ _ _ _ => rfl
 simp only [rc15, rs15, hE, g1, g2, g3, g4, g5, g6, hsh, Z8, Z2, c2, Qa9, Qa8, Qag, Qa4, putB, Qad, Qa5, Qa2, Fam.step, Qae, Qci, Qay, Qb6, Qaq, ug, putB, nv, sv, evO, opv, qv, Qak, binV, ldV, lenV, Qao, Qat, putAt, Qbe, Qb5, V.cells, Qb2, Qc3, Qaa, Qa6, flat, Qdc, Qa1, Qce, Qa0, Qa3, ↓reduceIte, Nat.reduceEqDiff, Nat.reduceAdd, Nat.reduceMul, Nat.reduceLT, Nat.reduceLeDiff, Int.reduceNeg, Qb, Qe, Qs, Qq, Qd, Qf, Qk, Qm, List.drop_nil, Qr, Z6, Q8, Q5, Q0, Ql, Zd, Zy, Qo, Zp, Qy, Xj, endQ, rvs, rv1, resV, vw_i, vw_b, Qam, Qb3, zipA, beq_self_eq_true, Qj, V.b.injEq, Qp, Qv, Zt, Qn, Qa, Qw, decide_true, decide_eq_true_eq, decide_eq_false_iff_not, true_and, and_true, and_self, forall_const, implies_true, reduceCtorEq, not_false_eq_true, ne_eq, beq_true, Qon, imp_self, Qg]
 have i1 : inI (((Qc1 [1, 2, 0, 3]).1.length : Int) + (Qc1 [1, 2, 0, 3]).2.1.length) := by unfold inI; omega
 have i2 : (0 : Int) < ((Qc1 [1, 2, 0, 3]).1.length : Int) + (Qc1 [1, 2, 0, 3]).2.1.length := by omega
 have i3 : ((2 : Nat) : Int) = 2 := rfl
 simp only [i1, i2, i3, and_self, decide_true, Qp, implies_true]
theorem call15 (hG : GOk Try.prog Γ) : GOk Try.prog (Γ.ext 15 fun vs => (vs = [], .b true)) := hG.ext (f := 15) (fun a w => Try.call15 a w) fun vs h => by
 have e : vs = [] := h
 subst e
 exact W15
noncomputable def HN10 : Gam := HN9.ext 15 fun vs => (vs = [], .b true)
theorem Qsu : GOk Try.prog HN10 := call15 Qx1
theorem h15 : HN10 15 [] = (True, .b true) := by
 refine (show HN10 15 [] = ((([] : List V) = []), V.b true) from rfl).trans ?_
 simp
end Go.C10
set_option maxRecDepth 8000
namespace Go.C10
open Go.Fam Go.Proofs
def rc26 : RC := (.seq (.reg false [(cI 2 0), (cI 3 0)]) (.keep [0] (.seq (.seq (.reg false [(cMv 5 0), (cQ 6 [5] (.call (kF 18) [(.t 5)])), (cN 7 6)]) (.keep [0,7] (.cond (.t 7) (.seq (.reg false [(cI 2 0), (cI 3 1)]) .ret) .skip))) (.keep [0] (.seq (.reg false [(cI 4 0)]) (.keep [0,4] (.seq (.block 0 (.loop [0,4] none (.seq (.seq (.reg false [(cMv 8 0), (cMv 9 4), (cQ 10 [8,9] (.call (kF 58) [(.t 8), (.t 9)])), (cN 11 10)]) (.keep [0,4,11] (.cond (.t 11) .skip (.exit 0)))) (.keep [0,4] (.block 1 (.reg false [(cMv 12 4), (cC 13 .add 12 1), (cMv 4 13)])))))) (.keep [4] (.seq (.reg false [(cMv 14 4), (cMv 2 14), (cI 3 0)]) .ret)))))))))
def pu26 : List Nat := []
def rs26 : List RV := [.t 2, .t 3]
theorem cc26 : CCx Try.prog Try.f26 pu26 rc26 := by unfold CCx; kernel_rfl
theorem cb26 : CBx Try.f26 := by unfold CBx; kernel_rfl
theorem cs26 : CSx Try.prog Try.f26 rs26 := by unfold CSx; kernel_rfl
theorem cn26 : 1 ≤ Try.f26.ntmps := by decide
def rc58 : RC := (.seq (.reg false [(cQ 4 [] (.mv (kB false)))]) (.keep [0,1] (.seq (.seq (.reg false [(cMv 7 0), (cQ 8 [7] (.call (kF 20) [(.t 7)]))]) (.keep [0,1,8] (.cond (.t 8) (.seq (.reg false [(cQ 4 [] (.mv (kB true)))]) .ret) .skip))) (.keep [0,1] (.seq (.seq (.reg false [(cI 5 0)]) (.keep [0,1,5] (.block 0 (.loop [0,1,5] none (.seq (.seq (.reg true [(cMv 9 5), (cMv 10 0), (cLn 11 10), (cB 12 .lss 9 11), (cMv 13 12), (gMv 14 13 true 1), (gQ 15 13 true [14] (.bin .gtr (.t 14) (kI 0))), (cQ 16 [13,15] (.pick (.t 13) (.t 15) (kB false)))]) (.keep [0,1,5,16] (.cond (.t 16) .skip (.exit 0)))) (.keep [0,1,5] (.seq (.block 1 (.seq (.reg false [(cMv 19 0), (cMv 20 5), (cA 21 1 19 20), (cLd 22 21 false 1), (cMv 23 5), (cB 24 .neq 22 23)]) (.keep [0,1,5,24] (.cond (.t 24) (.seq (.seq (.reg false [(cI 6 0)]) (.keep [0,1,5,6] (.block 2 (.loop [0,1,5,6] none (.seq (.seq (.reg false [(cMv 25 6), (cMv 26 0), (cLn 27 26), (cB 28 .lss 25 27)]) (.keep [0,1,5,6,28] (.cond (.t 28) .skip (.exit 2)))) (.keep [0,1,5,6] (.seq (.block 3 (.seq (.reg true [(cMv 31 6), (cMv 32 5), (cB 33 .neq 31 32), (cMv 34 33), (gMv 35 34 true 0), (gMv 36 34 true 5), (gMv 37 34 true 6), (gQ 38 34 true [35,36,37] (.call (kF 21) [(.t 35), (.t 36), (.t 37)])), (gMv 39 34 true 1), (gQ 40 34 true [39] (.bin .sub (.t 39) (kI 1))), (gQ 41 34 true [38,40] (.call (kF 58) [(.t 38), (.t 40)])), (cQ 42 [34,41] (.pick (.t 34) (.t 41) (kB false)))]) (.keep [0,1,5,6,42] (.cond (.t 42) (.seq (.reg false [(cQ 4 [] (.mv (kB true)))]) .ret) .skip)))) (.keep [0,1,5,6] (.reg false [(cMv 29 6), (cC 30 .add 29 1), (cMv 6 30)]))))))))) (.keep [] (.seq (.reg false [(cQ 4 [] (.mv (kB false)))]) .ret))) .skip)))) (.keep [0,1,5] (.reg false [(cMv 17 5), (cC 18 .add 17 1), (cMv 5 18)]))))))))) (.keep [] (.seq (.reg false [(cQ 4 [] (.mv (kB false)))]) .ret)))))))
def pu58 : List Nat := []
def rs58 : List RV := [.t 4]
theorem cc58 : CCx Try.prog Try.f58 pu58 rc58 := by unfold CCx; kernel_rfl
theorem cb58 : CBx Try.f58 := by unfold CBx; kernel_rfl
theorem cs58 : CSx Try.prog Try.f58 rs58 := by unfold CSx; kernel_rfl
theorem cn58 : 2 ≤ Try.f58.ntmps := by decide
def rc20 : RC := (.seq (.reg false [(cQ 2 [] (.mv (kB false)))]) (.keep [0] (.seq (.seq (.reg false [(cI 3 0)]) (.keep [0,3] (.block 0 (.loop [0,3] none (.seq (.seq (.reg false [(cMv 4 3), (cMv 5 0), (cLn 6 5), (cB 7 .lss 4 6)]) (.keep [0,3,7] (.cond (.t 7) .skip (.exit 0)))) (.keep [0,3] (.seq (.block 1 (.seq (.reg false [(cMv 10 0), (cMv 11 3), (cA 12 1 10 11), (cLd 13 12 false 1), (cMv 14 3), (cB 15 .neq 13 14)]) (.keep [0,3,15] (.cond (.t 15) (.seq (.reg false [(cQ 2 [] (.mv (kB false)))]) .ret) .skip)))) (.keep [0,3] (.reg false [(cMv 8 3), (cC 9 .add 8 1), (cMv 3 9)]))))))))) (.keep [] (.seq (.reg false [(cQ 2 [] (.mv (kB true)))]) .ret)))))
def pu20 : List Nat := []
def rs20 : List RV := [.t 2]
theorem cc20 : CCx Try.prog Try.f20 pu20 rc20 := by unfold CCx; kernel_rfl
theorem cb20 : CBx Try.f20 := by unfold CBx; kernel_rfl
theorem cs20 : CSx Try.prog Try.f20 rs20 := by unfold CSx; kernel_rfl
theorem cn20 : 1 ≤ Try.f20.ntmps := by decide
def rc21 : RC := (.seq (.reg false [(cQ 6 [] (.mv (.k (.z 1))))]) (.keep [0,1,2] (.seq (.reg false [⟨(some 8), none, [], none, .w (.bso 1 0 [(.i 0)] [])⟩, (cMv 9 0), ⟨(some 10), none, [8,9], none, .w (.app 1 (.t 8) (.t 9))⟩, (cMv 7 10)]) (.keep [1,2,7] (.seq (.any false 0 [⟨(cMv 11 7), [], []⟩, ⟨(cMv 12 1), [], []⟩, ⟨(cMv 13 7), [], []⟩, ⟨(cMv 14 2), [], []⟩, ⟨(cMv 15 7), [], []⟩, ⟨(cMv 16 2), [], []⟩, ⟨(cA 17 1 15 16), [], [4,5]⟩, ⟨(cLd 18 17 false 1), [], [6,4,5]⟩, ⟨(cMv 19 7), [], []⟩, ⟨(cMv 20 1), [], []⟩, ⟨(cA 21 1 19 20), [], [8,9]⟩, ⟨(cLd 22 21 false 1), [], [10,8,9]⟩, ⟨(cA 23 1 11 12), [], [0,1,4,5,6,7,11,10,8,9]⟩, ⟨⟨none, none, [23,18], none, .w (.st 1 (.t 23) (.t 18))⟩, [2,3], [12,0,1,4,5,6,7,11,10,8,9]⟩, ⟨(cA 24 1 13 14), [], [2,3,0,1,4,5,6,7,8,9,10,11,12,13]⟩, ⟨⟨none, none, [24,22], none, .w (.st 1 (.t 24) (.t 22))⟩, [], [14,2,3,0,1,4,5,6,7,8,9,10,11,12,13]⟩]) (.keep [7] (.seq (.reg false [(cMv 25 7), (cMv 6 25)]) .ret)))))))
def pu21 : List Nat := []
def rs21 : List RV := [.t 6]
theorem cc21 : CCx Try.prog Try.f21 pu21 rc21 := by unfold CCx; kernel_rfl
theorem cb21 : CBx Try.f21 := by unfold CBx; kernel_rfl
theorem cs21 : CSx Try.prog Try.f21 rs21 := by unfold CSx; kernel_rfl
theorem cn21 : 3 ≤ Try.f21.ntmps := by decide
def rc53 : RC := (.seq (.reg false [(cQ 4 [] (.mv (kB false)))]) (.keep [0,1] (.seq (.any true 0 [⟨(cMv 5 0), [], []⟩, ⟨(cLn 6 5), [], [0]⟩, ⟨(cC 7 .eql 6 2), [], [1,0]⟩, ⟨(cMv 8 7), [], [2,1,0]⟩, ⟨(gMv 9 8 true 0), [], [3,2,1,0]⟩, ⟨(gQ 10 8 true [9] (.iad 1 (.t 9) (kI 0))), [], [4,3,2,1,0]⟩, ⟨(gQ 11 8 true [10] (.ld false 1 (.t 10))), [], [5,4,3,2,1,0]⟩, ⟨(gQ 12 8 true [11] (.bin .geq (.t 11) (kI 0))), [], [6,5,4,3,2,1,0]⟩, ⟨(cQ 13 [8,12] (.pick (.t 8) (.t 12) (kB false))), [], [3,2,1,0,7,6,5,4]⟩, ⟨(cMv 14 13), [], [8,3,2,1,0,7,6,5,4]⟩, ⟨(gMv 15 14 true 0), [], [9,8,3,2,1,0,7,6,5,4]⟩, ⟨(gQ 16 14 true [15] (.iad 1 (.t 15) (kI 0))), [], [10,9,8,3,2,1,0,7,6,5,4]⟩, ⟨(gQ 17 14 true [16] (.ld false 1 (.t 16))), [], [11,10,9,8,3,2,1,0,7,6,5,4]⟩, ⟨(gMv 18 14 true 0), [], [9,8,3,2,1,0,7,6,5,4]⟩, ⟨(gQ 19 14 true [18] (.iad 1 (.t 18) (kI 1))), [], [13,9,8,3,2,1,0,7,6,5,4]⟩, ⟨(gQ 20 14 true [19] (.ld false 1 (.t 19))), [], [14,13,9,8,3,2,1,0,7,6,5,4]⟩, ⟨(gQ 21 14 true [17,20] (.bin .lss (.t 17) (.t 20))), [], [12,11,10,9,8,3,2,1,0,7,6,5,4,15,14,13]⟩, ⟨(cQ 22 [14,21] (.pick (.t 14) (.t 21) (kB false))), [], [9,8,3,2,1,0,7,6,5,4,16,12,11,10,15,14,13]⟩, ⟨(cMv 23 22), [], [17,9,8,3,2,1,0,7,6,5,4,16,12,11,10,15,14,13]⟩, ⟨(gMv 24 23 true 0), [], [18,17,9,8,3,2,1,0,7,6,5,4,16,12,11,10,15,14,13]⟩, ⟨(gQ 25 23 true [24] (.iad 1 (.t 24) (kI 1))), [], [19,18,17,9,8,3,2,1,0,7,6,5,4,16,12,11,10,15,14,13]⟩, ⟨(gQ 26 23 true [25] (.ld false 1 (.t 25))), [], [20,19,18,17,9,8,3,2,1,0,7,6,5,4,16,12,11,10,15,14,13]⟩, ⟨(gMv 27 23 true 1), [], [18,17,9,8,3,2,1,0,7,6,5,4,16,12,11,10,15,14,13]⟩, ⟨(gQ 28 23 true [26,27] (.bin .lss (.t 26) (.t 27))), [], [21,20,19,18,17,9,8,3,2,1,0,7,6,5,4,16,12,11,10,15,14,13,22]⟩, ⟨(cQ 29 [23,28] (.pick (.t 23) (.t 28) (kB false))), [], [18,17,9,8,3,2,1,0,7,6,5,4,16,12,11,10,15,14,13,23,21,20,19,22]⟩, ⟨(cMv 4 29), [], [24,18,17,9,8,3,2,1,0,7,6,5,4,16,12,11,10,15,14,13,23,21,20,19,22]⟩]) .ret)))
def pu53 : List Nat := []
def rs53 : List RV := [.t 4]
theorem cc53 : CCx Try.prog Try.f53 pu53 rc53 := by unfold CCx; kernel_rfl
theorem cb53 : CBx Try.f53 := by unfold CBx; kernel_rfl
theorem cs53 : CSx Try.prog Try.f53 rs53 := by unfold CSx; kernel_rfl
theorem cn53 : 2 ≤ Try.f53.ntmps := by decide
def rc23 : RC := (.seq (.reg false [(cQ 2 [] (.mv (.k (.z 1))))]) (.keep [0] (.seq (.reg false [(cMv 5 0), (cLn 6 5), ⟨(some 7), none, [6,6], none, .w (.mks 1 [(.i 0)] (.t 6) (.t 6))⟩, (cMv 3 7)]) (.keep [0,3] (.seq (.seq (.reg false [(cI 4 0)]) (.keep [0,3,4] (.block 0 (.loop [0,3,4] none (.seq (.seq (.reg false [(cMv 8 4), (cMv 9 0), (cLn 10 9), (cB 11 .lss 8 10)]) (.keep [0,3,4,11] (.cond (.t 11) .skip (.exit 0)))) (.keep [0,3,4] (.seq (.block 1 (.reg false [(cMv 14 3), (cMv 15 0), (cMv 16 4), (cA 17 1 15 16), (cLd 18 17 false 1), (cMv 19 4), (cA 20 1 14 18), ⟨none, none, [20,19], none, .w (.st 1 (.t 20) (.t 19))⟩])) (.keep [0,3,4] (.reg false [(cMv 12 4), (cC 13 .add 12 1), (cMv 4 13)]))))))))) (.keep [3] (.seq (.reg false [(cMv 21 3), (cMv 2 21)]) .ret)))))))
def pu23 : List Nat := []
def rs23 : List RV := [.t 2]
theorem cc23 : CCx Try.prog Try.f23 pu23 rc23 := by unfold CCx; kernel_rfl
theorem cb23 : CBx Try.f23 := by unfold CBx; kernel_rfl
theorem cs23 : CSx Try.prog Try.f23 rs23 := by unfold CSx; kernel_rfl
theorem cn23 : 1 ≤ Try.f23.ntmps := by decide
end Go.C10
set_option maxRecDepth 8000
namespace Go.C10
open Go.Fam Go.Proofs
def rc22 : RC := (.seq (.reg false [(cQ 4 [] (.mv (.k (.z 1)))), (cQ 5 [] (.mv (kB false)))]) (.keep [0,1] (.seq (.reg false [⟨(some 8), none, [], none, .w (.bso 1 0 [(.i 0)] [])⟩, (cMv 9 0), ⟨(some 10), none, [8,9], none, .w (.app 1 (.t 8) (.t 9))⟩, (cMv 6 10)]) (.keep [0,1,6] (.seq (.seq (.drp 0 (.reg false [(cI 7 0)])) (.keep [0,1,6,7] (.block 0 (.loop [0,1,6,7] none (.seq (.seq (.reg false [(cMv 11 7), (cMv 12 1), (cLn 13 12), (cB 14 .lss 11 13)]) (.keep [0,1,6,7,14] (.cond (.t 14) .skip (.exit 0)))) (.keep [0,1,6,7] (.seq (.block 1 (.seq (.seq (.reg false [(cMv 17 1), (cMv 18 7), (cA 19 1 17 18), (cLd 20 19 false 1), (cMv 21 0), (cLn 22 21), (cQ 23 [20,22] (.call (kF 53) [(.t 20), (.t 22)])), (cN 24 23)]) (.keep [0,1,6,7,24] (.cond (.t 24) (.seq (.reg false [(cQ 4 [] (.mv (.k (.z 1)))), (cQ 5 [] (.mv (kB false)))]) .ret) .skip))) (.keep [0,1,6,7] (.any false 0 [⟨(cMv 25 6), [], []⟩, ⟨(cMv 26 1), [], []⟩, ⟨(cMv 27 7), [], []⟩, ⟨(cA 28 1 26 27), [], [1,2]⟩, ⟨(cLd 29 28 false 1), [], [3,1,2]⟩, ⟨(cQ 30 [29] (.iad 1 (.t 29) (kI 0))), [], [4,3,1,2]⟩, ⟨(cLd 31 30 false 1), [], [5,4,3,1,2]⟩, ⟨(cMv 32 1), [], []⟩, ⟨(cMv 33 7), [], []⟩, ⟨(cA 34 1 32 33), [], [7,8]⟩, ⟨(cLd 35 34 false 1), [], [9,7,8]⟩, ⟨(cQ 36 [35] (.iad 1 (.t 35) (kI 1))), [], [10,9,7,8]⟩, ⟨(cLd 37 36 false 1), [], [11,10,9,7,8]⟩, ⟨(cQ 38 [25,31,37] (.call (kF 21) [(.t 25), (.t 31), (.t 37)])), [], [0,6,5,4,3,1,2,12,11,10,9,7,8]⟩, ⟨(cMv 6 38), [], [13,0,6,5,4,3,1,2,12,11,10,9,7,8]⟩])))) (.keep [0,1,6,7] (.drp 0 (.reg false [(cMv 15 7), (cC 16 .add 15 1), (cMv 7 16)])))))))))) (.keep [6] (.seq (.reg false [(cMv 39 6), (cMv 4 39), (cQ 5 [] (.mv (kB true)))]) .ret)))))))
def pu22 : List Nat := []
def rs22 : List RV := [.t 4, .t 5]
theorem cc22 : CCx Try.prog Try.f22 pu22 rc22 := by unfold CCx; kernel_rfl
theorem cb22 : CBx Try.f22 := by unfold CBx; kernel_rfl
theorem cs22 : CSx Try.prog Try.f22 rs22 := by unfold CSx; kernel_rfl
theorem cn22 : 2 ≤ Try.f22.ntmps := by decide
end Go.C10
set_option linter.unusedSimpArgs false
set_option linter.unusedVariables false
namespace Go.C10
open Go.Fam Go.Proofs
variable {Γ : Gam}
theorem Qov {α : Type} {l : List α} {k : Nat} {x : α} (h : l[k]? = some x) : l.take k ++ [x] ++ l.drop (k + 1) = l := by
 obtain ⟨hk, rfl⟩ := Zl.1 h
 rw [Zr, List.singleton_append, ← List.drop_eq_getElem_cons hk, List.take_append_drop]
theorem Qsa (n : Nat) : ∀ l : List Int, upL n (l.map eI).flatten = (l.map eI).flatten
 | [] => rfl
 | a :: l => by
  have := Qsa n l
  simp only [Qb, Z8, eI, Q5, Q0, upL, upV] at this ⊢
  rw [this]
theorem Qp8 {t : List Int} {i : Nat} {x : Int} (h : t[i]? = some x) : atN t i = x := by unfold atN; rw [Qt, h]; rfl
theorem W20 (t : List Int) (h : t.length ≤ 1000000) : Qal Try.prog 20 [.sl 1 (t.map eI)] (.b (Qbq t)) := by
 refine Qaj Qsu hmix Try.func20 cb20 cc20 cs20 cn20 ?_
 simp only [rc20, rs20, Qa9, Qa8, Qac, Qa4, Qad, Qa5, Qa2, Fam.step, Qae, evO, opv, qv, Qa1, Qa0, Qa3, ↓reduceIte, Qb, Qe, zipA, true_and, reduceCtorEq]
 refine Qbc t.length (fun i => ⟨lkp [(0, .sl 1 (t.map eI)), (3, .i i)], []⟩) (fun i => ∀ j : Nat, j < i → atN t j = j) ?_ ?_ ?_ ?_
 ·simp only [Zf, kp, Qa0, Qa3, ↓reduceIte, Qb, Qe, reduceCtorEq]
 ·intro j hj; omega
 ·intro i hi hc
  obtain ⟨x, hx⟩ : ∃ x, t[i]? = some x := ⟨_, Qc hi⟩
  have ex := Qp8 hx
  have hlt : (i : Int) < t.length := by omega
  have h3 : inI ((i : Int) + 1) := by unfold inI; omega
  by_cases e : x = i
  ·simp only [hx, hlt, h3, e, Zh, Zg, Qaf, Qa9, Qa8, Qab, Qac, Qa4, Qad, Qah, Qa5, Qa2, Fam.step, Qae, evO, opv, qv, binV, ldV, iadV, lenV, kp, Qa1, Qa0, Qa3, ↓reduceIte, Nat.reduceEqDiff, Nat.reduceLeDiff, Qb, Qe, Qd, Qf, Qi, Qo, Q1, Qj, Qx, Qa, decide_true, true_and, and_true, and_self, reduceCtorEq, Q2, Qg, Qt, Qh, Qu, eI]
   intro j hj
   by_cases hji : j < i
   ·exact hc j hji
   ·have : j = i := by omega
    subst this
    rw [ex, e]
  ·have : Qbq t = false := by
    rw [Bool.eq_false_iff]
    intro h2
    have := Qd8.1 h2 i hi
    rw [ex] at this; exact e this
   simp only [hx, hlt, e, this, Qaf, Qa9, Qa8, Qab, Qac, Qag, Qa4, Qad, Qah, Qa5, Qa2, Fam.step, Qae, evO, opv, qv, binV, ldV, iadV, lenV, kp, Qa1, Qa0, Qa3, ↓reduceIte, Nat.reduceEqDiff, Nat.reduceLeDiff, Qb, Qe, Qd, Qf, Qi, Qo, endQ, rvs, rv1, resV, vw_b, Q1, Qj, Qz, Qa, decide_true, decide_false, and_self, reduceCtorEq, Q2, Qg, Qt, Qh, Qu, eI]
 ·intro hc
  have hlt : ¬ ((t.length : Int) < t.length) := by omega
  have := Qd8.2 hc
  simp only [hlt, this, Qa9, Qa8, Qab, Qaw, Qag, Qa4, Qad, Qah, Qa5, Qa2, Fam.step, Qae, evO, opv, qv, binV, lenV, Qa1, Qa0, Qa3, ↓reduceIte, Nat.reduceEqDiff, Qb, Qe, endQ, rvs, rv1, resV, vw_b, Qa, decide_false, and_self, reduceCtorEq, Qg]
def e20 (a : List Int) : List V := [.sl 1 (a.map eI)]
def d20 : List V → List Int | [.sl _ x0] => (x0.map dI) | _ => ([])
theorem Qxo (a : List Int) : d20 (e20 a) = a := by simp [d20, e20, Function.comp_def, Qcx]
noncomputable def HZ1 : Gam := HN10.ext 20 (fnG e20 d20 (fun a => (fun (t : List Int) => t.length ≤ 1000000) a) (fun a => (fun (t : List Int) => Qbq t) a) .b)
theorem Qx2 : GOk Try.prog HZ1 := Qsu.ext (f := 20) (fun a w => Try.call20 a w) (Qaz (e := e20) (d := d20) (ok := (fun a => (fun (t : List Int) => t.length ≤ 1000000) a)) (g := (fun a => (fun (t : List Int) => Qbq t) a)) (eb := .b) fun a h => W20 a h)
theorem h20 (t : List Int) : HZ1 20 [.sl 1 (t.map eI)] = (t.length ≤ 1000000, .b (Qbq t)) :=
 (show HZ1 20 _ = fnG e20 d20 (fun a => (fun (t : List Int) => t.length ≤ 1000000) a) (fun a => (fun (t : List Int) => Qbq t) a) .b (e20 (t)) from rfl).trans (Qb1 _ (Qxo _))
def inB (t : List Int) (x : Int) : Prop := 0 ≤ x ∧ x ≤ t.length - 1
theorem W21 (t : List Int) (a b : Int) (h : t.length ≤ 1000000 ∧ inB t a ∧ inB t b) : Qal Try.prog 21 [.sl 1 (t.map eI), .i a, .i b] (.sl 1 ((Qc6 t a b).map eI)) := by
 refine Qaj Qx2 hmix Try.func21 cb21 cc21 cs21 cn21 ?_
 obtain ⟨hl, ⟨a0, a1⟩, b0, b1⟩ := h
 have f0 : Qar t.length := by unfold Qar; omega
 have f1 : Qar (0 + t.length) := by unfold Qar; omega
 obtain ⟨x, hx⟩ : ∃ x, t[a.toNat]? = some x := ⟨_, Qc (by omega)⟩
 obtain ⟨y, hy⟩ : ∃ x, t[b.toNat]? = some x := ⟨_, Qc (by omega)⟩
 have ex : atN t a = x := by unfold atN; rw [hx]; rfl
 have ey : atN t b = y := by unfold atN; rw [hy]; rfl
 have d1 := Qey hx
 have d2 := Qey hy
 have s1 := Qgy t a.toNat y (by omega)
 have s2 := Qgy (t.set a.toNat y) b.toNat x (by simp; omega)
 unfold putAt at s1 s2
 simp only [Qd, Qf, Qj] at s1 s2
 have hsw : (t.set a.toNat y).set b.toNat x = Qc6 t a b := by unfold Qc6; rw [ex, ey]
 rw [hsw] at s2
 have l1 := Qdo (t.set a.toNat y)
 rw [List.length_set] at l1
 have l2 := Qdo (Qc6 t a b)
 rw [Qej] at l2
 have c1 := Qdt (Qc6 t a b)
 rw [Qej] at c1
 have k1 : a < t.length ∧ b < t.length ∧ a.toNat + 1 ≤ t.length ∧ b.toNat + 1 ≤ t.length := by omega
 simp only [rc21, rs21, f0, Qdo, a0, b0, k1, d1, d2, s1, s2, l1, l2, c1, Z9, Z4, vw_I, Z2, Q0, Qa9, Qbx, Qa8, Qag, Qa4, Qb9, optL, putB, Qad, Qa5, Qa2, Fam.step, Qae, Qci, Qb6, runX, eff, Qb8, fpR, fpQ, fpV, Qc9, hits, putB, nv, sv, Qcf, evO, opv, qv, ldV, iadV, Qat, putAt, Qbe, Qb5, V.cells, Qb2, Qc3, Qa1, Qce, Qa0, Qa3, ↓reduceIte, Nat.reduceEqDiff, Nat.reduceAdd, Qb, Qe, Qs, Qq, Qd, Qf, Q5, Q0, Ql, Zd, Zy, Q4, Qo, Q9, Zp, Qy, Za, List.isEmpty_cons, endQ, rvs, rv1, resV, Qdm, zipA, Qj, Qp, Qv, Z3, Q7, Qn, Xb, Qx, Qz, Qa, and_self, reduceCtorEq, List.any_cons, Zb, List.contains_cons, Q6, Qg, Qh]
def e21 (a : List Int × Int × Int) : List V := [.sl 1 (a.1.map eI), .i a.2.1, .i a.2.2]
def d21 : List V → List Int × Int × Int | [.sl _ x0, .i x1, .i x2] => (x0.map dI, x1, x2) | _ => ([], 0, 0)
theorem Qxp (a : List Int × Int × Int) : d21 (e21 a) = a := by simp [d21, e21, Function.comp_def, Qcx]
noncomputable def HZ2 : Gam := HZ1.ext 21 (fnG e21 d21 (fun a => (fun (t : List Int) (a : Int) (b : Int) => t.length ≤ 1000000 ∧ inB t a ∧ inB t b) a.1 a.2.1 a.2.2) (fun a => (fun (t : List Int) (a : Int) (b : Int) => Qc6 t a b) a.1 a.2.1 a.2.2) (fun l => .sl 1 (l.map eI)))
theorem Qx3 : GOk Try.prog HZ2 := Qx2.ext (f := 21) (fun a w => Try.call21 a w) (Qaz (e := e21) (d := d21) (ok := (fun a => (fun (t : List Int) (a : Int) (b : Int) => t.length ≤ 1000000 ∧ inB t a ∧ inB t b) a.1 a.2.1 a.2.2)) (g := (fun a => (fun (t : List Int) (a : Int) (b : Int) => Qc6 t a b) a.1 a.2.1 a.2.2)) (eb := (fun l => .sl 1 (l.map eI))) fun a h => W21 a.1 a.2.1 a.2.2 h)
theorem h21 (t : List Int) (a : Int) (b : Int) : HZ2 21 [.sl 1 (t.map eI), .i a, .i b] = (t.length ≤ 1000000 ∧ inB t a ∧ inB t b, ((fun l => .sl 1 (l.map eI))) (Qc6 t a b)) :=
 (show HZ2 21 _ = fnG e21 d21 (fun a => (fun (t : List Int) (a : Int) (b : Int) => t.length ≤ 1000000 ∧ inB t a ∧ inB t b) a.1 a.2.1 a.2.2) (fun a => (fun (t : List Int) (a : Int) (b : Int) => Qc6 t a b) a.1 a.2.1 a.2.2) (fun l => .sl 1 (l.map eI)) (e21 (t, a, b)) from rfl).trans (Qb1 _ (Qxp _))
theorem W53 (l : List Int) (n : Int) : Qal Try.prog 53 [.sl 1 (l.map eI), .i n] (.b (Qbl l n)) := by
 refine Qaj Qx3 hmix Try.func53 cb53 cc53 cs53 cn53 ?_
 by_cases h2 : l.length = 2
 ·obtain ⟨x, y, rfl⟩ : ∃ x y, l = [x, y] := by
   match l, h2 with
   | [x, y], _ => exact ⟨x, y, rfl⟩
  have e : Qbl [x, y] n = (decide (0 ≤ x) && (decide (x < y) && decide (y < n))) := by
   unfold Qbl atN; simp
  rw [e]
  have i2 : ((2 : Nat) : Int) = 2 := rfl
  have i3 : (0 : Int) < 2 ∧ (1 : Int) < 2 := by omega
  by_cases h0 : 0 ≤ x <;> by_cases h1 : x < y <;> by_cases h3 : y < n <;> simp only [rc53, rs53, h0, h1, h3, i2, i3, Qa9, Qbx, Qa8, Qag, Qa4, Qb9, Qad, Qa5, Qa2, Fam.step, Qae, Qay, Qaq, ug, runX, eff, Qb8, fpR, fpQ, fpV, Qc9, hits, evO, opv, qv, Qak, binV, ldV, iadV, lenV, Qa1, Qa0, Qa3, ↓reduceIte, Nat.reduceEqDiff, Nat.reduceAdd, Nat.reduceLeDiff, Int.reduceToNat, Zn, Int.reduceLE, Qb, Qe, Qs, Qq, Qd, Qf, Qi, Q5, Q0, Ql, Zd, Zy, Q4, Qo, Q9, Qy, Za, endQ, rvs, rv1, resV, vw_b, zipA, beq_self_eq_true, Qj, Qp, Qv, Q7, Zt, Qn, Qx, Qz, Qa, Qw, decide_true, decide_false, and_true, and_self, forall_const, implies_true, reduceCtorEq, Zb, Q6, beq_true, imp_self, Qh, eI]
 ·have h2' : ¬ (l.length : Int) = 2 := by omega
  have e : Qbl l n = false := by unfold Qbl; simp [h2]
  simp only [rc53, rs53, h2', e, Qa9, Qbx, Qa8, Qag, Qa4, Qb9, Qad, Qa5, Qa2, Fam.step, Qae, Qay, Qaq, ug, runX, eff, Qb8, fpR, fpQ, fpV, Qc9, hits, evO, opv, qv, Qkr, binV, ldV, iadV, lenV, Qa1, Qa0, Qa3, ↓reduceIte, Nat.reduceEqDiff, Int.reduceToNat, Zn, Int.reduceLE, Qb, Qe, Qs, Qq, Q5, Q0, Ql, Q4, Q9, Qy, Za, endQ, rvs, rv1, resV, vw_b, zipA, Qj, Qp, Qv, Q7, Qn, Qx, Qz, Qa, decide_false, true_and, and_self, false_and, forall_const, implies_true, reduceCtorEq, Zb, Q6, beq_true, imp_self, Qg, Qh, Qu]
def e53 (a : List Int × Int) : List V := [.sl 1 (a.1.map eI), .i a.2]
def d53 : List V → List Int × Int | [.sl _ x0, .i x1] => (x0.map dI, x1) | _ => ([], 0)
theorem Qy5 (a : List Int × Int) : d53 (e53 a) = a := by simp [d53, e53, Function.comp_def, Qcx]
noncomputable def HZ3 : Gam := HZ2.ext 53 (fnG e53 d53 (fun a => (fun (l : List Int) (n : Int) => True) a.1 a.2) (fun a => (fun (l : List Int) (n : Int) => Qbl l n) a.1 a.2) .b)
theorem Qx4 : GOk Try.prog HZ3 := Qx3.ext (f := 53) (fun a w => Try.call53 a w) (Qaz (e := e53) (d := d53) (ok := (fun a => (fun (l : List Int) (n : Int) => True) a.1 a.2)) (g := (fun a => (fun (l : List Int) (n : Int) => Qbl l n) a.1 a.2)) (eb := .b) fun a h => W53 a.1 a.2)
theorem h53 (l : List Int) (n : Int) : HZ3 53 [.sl 1 (l.map eI), .i n] = (True, .b (Qbl l n)) :=
 (show HZ3 53 _ = fnG e53 d53 (fun a => (fun (l : List Int) (n : Int) => True) a.1 a.2) (fun a => (fun (l : List Int) (n : Int) => Qbl l n) a.1 a.2) .b (e53 (l, n)) from rfl).trans (Qb1 _ (Qy5 _))
def Qcn (t : List Int) (l : List (List Int)) : List Int × Bool := match Qc7 t.length l t with | some p => (p, true) | none => ([], false)
theorem Qh4 {n : Int} : ∀ (l : List (List Int)) (t p : List Int), Qc7 n l t = some p → p.length = t.length
 | [], t, p, e => by cases e; rfl
 | q :: l, t, p, e => by
  rw [Qc7] at e
  by_cases hq : Qbl q n = true
  ·rw [if_pos hq] at e
   rw [Qh4 l _ p e, Qej]
  ·rw [if_neg hq] at e; cases e
theorem Qv5 (l : List Int) (n : Int)  : HZ3 53 [.sl 1 (l.map eI), .i n] = (True, .b (Qbl l n)) := h53 l n
theorem Qv4 (t : List Int) (a : Int) (b : Int)  : HZ3 21 [.sl 1 (t.map eI), .i a, .i b] = (t.length ≤ 1000000 ∧ inB t a ∧ inB t b, ((fun l => .sl 1 (l.map eI))) (Qc6 t a b)) := h21 t a b
set_option maxHeartbeats 1000000 in
theorem W22 (t : List Int) (l : List (List Int)) (h : t.length ≤ 1000000 ∧ l.length ≤ 1000000) : Qal Try.prog 22 [.sl 1 (t.map eI), .sl 1 (l.map eCan)] (.tp [.sl 1 ((Qcn t l).1.map eI), .b (Qcn t l).2]) := by
 refine Qaj Qx4 hmix Try.func22 cb22 cc22 cs22 cn22 ?_
 obtain ⟨ht, hl⟩ := h
 have f0 : Qar t.length := by unfold Qar; omega
 have f1 : Qar (0 + t.length) := by unfold Qar; omega
 simp only [rc22, rs22, f0, Z2, Q0, Qa9, Qa8, Qac, Qa4, Qcw, ↓Qc4, cutH, putB, Qad, Qa5, Qa2, Fam.step, Qae, Qci, Qb6, putB, nv, sv, Qcf, evO, opv, qv, Qat, Qbe, Qb5, cutV, Qa1, Qa0, Qa3, ↓reduceIte, Nat.reduceEqDiff, Nat.reduceMul, Nat.reduceLT, Qb, Qe, Qf, Z6, Q0, Zd, Zp, Qy, Qdm, zipA, Qj, true_and, and_self, reduceCtorEq, Qg]
 have c0 := Qdt t
 simp only [Z9]
 refine Qbc l.length (fun i => ⟨lkp [(0, .sl 1 (t.map eI)), (1, .sl 1 (l.map eCan)), (6, .sl 1 (((Qc7 t.length (l.take i) t).getD []).map eI)), (7, .i i)], []⟩) (fun i => ∃ p, Qc7 t.length (l.take i) t = some p) ?_ ?_ ?_ ?_
 ·have e0 : (Qc7 t.length (l.take 0) t).getD [] = t := rfl
  rw [e0]
  simp only [Zf, hpF, upB, Qsa, c0, Qdo, Z9, Z4, vw_I, kp, Qa0, Qa3, ↓reduceIte, Nat.reduceEqDiff, Qb, Qe, Qm, Z6, Q0, Zd, and_self, reduceCtorEq]
 ·exact ⟨t, rfl⟩
 ·rintro i hi ⟨p, hp⟩
  have hpl := Qh4 _ _ _ hp
  obtain ⟨q, hq⟩ : ∃ q, l[i]? = some q := ⟨_, Qc hi⟩
  have hlt : (i : Int) < l.length := by omega
  have h3 : inI ((i : Int) + 1) := by unfold inI; omega
  have ec : eCan q = [.sl 1 (q.map eI)] := rfl
  have g1 := Qv5 q t.length
  by_cases hqp : Qbl q t.length = true
  ·obtain ⟨q2, q0, q1, qn⟩ := Qfg.1 hqp
   obtain ⟨x, hx⟩ : ∃ x, q[0]? = some x := ⟨_, Qc (by omega)⟩
   obtain ⟨y, hy⟩ : ∃ x, q[1]? = some x := ⟨_, Qc (by omega)⟩
   have e0 : atN q 0 = x := by unfold atN; rw [show (0 : Int).toNat = 0 from rfl, hx]; rfl
   have e1 : atN q 1 = y := by unfold atN; rw [show (1 : Int).toNat = 1 from rfl, hy]; rfl
   rw [e0] at q0 q1
   rw [e1] at q1 qn
   have q3 : (0 : Int) < q.length ∧ (1 : Int) < q.length := by omega
   have t0 : (0 : Int).toNat = 0 := rfl
   have t1 : (1 : Int).toNat = 1 := rfl
   have hn : Qc7 t.length (l.take (i + 1)) t = some (Qc6 p x y) := by
    rw [Qbh hq, Qgc, hp, Xr, Qc7, if_pos hqp, e0, e1]; rfl
   have g2 := Qv4 p x y
   have hb : (p.length ≤ 1000000 ∧ inB p x ∧ inB p y) = True := eq_true (by unfold inB; rw [hpl]; exact ⟨ht, by omega, by omega⟩)
   rw [hb] at g2
   rw [hp, hn, Qo, Qo]
   simp only [hq, hlt, h3, g1, hqp, g2, q3, t0, t1, hx, hy, Zh, Zg, Qaf, Qa9, Qbx, Qa8, Qab, Qac, Qa4, Qcw, ↓Qc4, Qb9, cutH, Qad, Qah, Qa5, Qa2, Fam.step, Qae, runX, eff, Qb8, fpR, fpQ, fpV, Qc9, hits, evO, opv, qv, binV, ldV, iadV, lenV, Qao, Qaa, Qa6, flat, kp, cutV, Qa1, Qa0, Qa3, ↓reduceIte, Nat.reduceEqDiff, Nat.reduceLT, Nat.reduceLeDiff, Int.reduceLE, Qb, Qe, Qq, Qd, Qf, Q8, Qi, Q5, Q0, Ql, Q4, Qo, Q9, Qy, Za, vw_i, Qam, Q1, Qj, Zj.injEq, Qp, Qv, Q7, Qn, Qx, Qz, Qa, decide_true, true_and, and_true, and_self, implies_true, reduceCtorEq, Q2, Zb, Q6, imp_self, Qg, Qt, Qh, Qu, eI, eCan]
   exact ⟨_, rfl⟩
  ·have hn : Qc7 t.length l t = none := by
    have : l = l.take i ++ q :: l.drop (i + 1) := by
     have := Qov hq
     rw [Zr] at this
     exact this.symm
    rw [this, Qgc, hp, Xr, Qc7, if_neg hqp]
   simp only [hq, hlt, g1, hqp, Qcn, hn, Qaf, Qa9, Qa8, Qab, Qac, Qag, Qa4, Qad, Qah, Qa5, Qa2, Fam.step, Qae, evO, opv, qv, binV, ldV, iadV, lenV, Qao, Qaa, Qa6, flat, kp, Qa1, Qa0, Qa3, ↓reduceIte, Nat.reduceEqDiff, Nat.reduceLT, Nat.reduceLeDiff, Qb, Qe, Qd, Qf, Qi, Ql, Q4, Qo, endQ, rvs, rv1, resV, vw_i, vw_b, vw_z, Qam, Qcy, Q1, Qj, Qn, Qz, Qa, decide_true, and_self, implies_true, reduceCtorEq, Q2, Qg, Qt, Qh, Qu, eCan]
 ·rintro ⟨p, hp⟩
  have hlt : ¬ ((l.length : Int) < l.length) := by omega
  rw [Xe] at hp
  have hr : Qcn t l = (p, true) := by unfold Qcn; rw [hp]
  simp only [hlt, hr, hp, Xe, Qa9, Qa8, Qab, Qaw, Qag, Qa4, Qad, Qah, Qa5, Qa2, Fam.step, Qae, evO, opv, qv, binV, ldV, lenV, Qa1, Qa0, Qa3, ↓reduceIte, Nat.reduceEqDiff, Qb, Qe, Q4, Qo, endQ, rvs, rv1, resV, vw_b, Qam, Qcy, Qa, decide_false, and_self, reduceCtorEq, Qg]
def e22 (a : List Int × List (List Int)) : List V := [.sl 1 (a.1.map eI), .sl 1 (a.2.map eCan)]
def d22 : List V → List Int × List (List Int) | [.sl _ x0, .sl _ x1] => (x0.map dI, x1.map dCan) | _ => ([], [])
theorem Qxq (a : List Int × List (List Int)) : d22 (e22 a) = a := by simp [d22, e22, Function.comp_def, Qcx, Qik]
noncomputable def HZ4 : Gam := HZ3.ext 22 (fnG e22 d22 (fun a => (fun (t : List Int) (l : List (List Int)) => t.length ≤ 1000000 ∧ l.length ≤ 1000000) a.1 a.2) (fun a => (fun (t : List Int) (l : List (List Int)) => Qcn t l) a.1 a.2) (fun r => .tp [.sl 1 (r.1.map eI), .b r.2]))
theorem Qx5 : GOk Try.prog HZ4 := Qx4.ext (f := 22) (fun a w => Try.call22 a w) (Qaz (e := e22) (d := d22) (ok := (fun a => (fun (t : List Int) (l : List (List Int)) => t.length ≤ 1000000 ∧ l.length ≤ 1000000) a.1 a.2)) (g := (fun a => (fun (t : List Int) (l : List (List Int)) => Qcn t l) a.1 a.2)) (eb := (fun r => .tp [.sl 1 (r.1.map eI), .b r.2])) fun a h => W22 a.1 a.2 h)
theorem h22 (t : List Int) (l : List (List Int)) : HZ4 22 [.sl 1 (t.map eI), .sl 1 (l.map eCan)] = (t.length ≤ 1000000 ∧ l.length ≤ 1000000, ((fun r => .tp [.sl 1 (r.1.map eI), .b r.2])) (Qcn t l)) :=
 (show HZ4 22 _ = fnG e22 d22 (fun a => (fun (t : List Int) (l : List (List Int)) => t.length ≤ 1000000 ∧ l.length ≤ 1000000) a.1 a.2) (fun a => (fun (t : List Int) (l : List (List Int)) => Qcn t l) a.1 a.2) (fun r => .tp [.sl 1 (r.1.map eI), .b r.2]) (e22 (t, l)) from rfl).trans (Qb1 _ (Qxq _))
theorem W23 (t : List Int) (h : IsTak t.length t ∧ t.length ≤ 1000000) : Qal Try.prog 23 [.sl 1 (t.map eI)] (.sl 1 ((bkN t t.length).map eI)) := by
 refine Qaj Qx5 hmix Try.func23 cb23 cc23 cs23 cn23 ?_
 obtain ⟨hT, hl⟩ := h
 have f0 : Qar t.length := by unfold Qar; omega
 simp only [rc23, rs23, Int.le_refl, Qt, Qa9, Qa8, Qac, Qa4, Qad, Qa5, Qa2, Fam.step, Qae, Qci, Qb6, nv, evO, opv, qv, lenV, Qa1, Qa0, Qa3, ↓reduceIte, Nat.reduceEqDiff, Qb, Qe, Qf, Q0, zipA, Q1, true_and, reduceCtorEq, Qg, Qt]
 refine ⟨by omega, ?_⟩
 refine Qcl t.length (fun i => ⟨lkp [(0, .sl 1 (t.map eI)), (3, .rf 0 0 0 t.length 1), (4, .i i)], [.cells 0 ((bkN t i).map eI).flatten]⟩) ?_ ?_ ?_
 ·have e0 : ((bkN t 0).map eI).flatten = (List.replicate t.length [V.i 0]).flatten := by
   unfold bkN
   rw [List.map_replicate]; rfl
  simp only [Zf, e0, kp, Qa0, Qa3, ↓reduceIte, Nat.reduceEqDiff, Qb, Qe, reduceCtorEq]
 ·intro i hi
  obtain ⟨x, hx⟩ : ∃ x, t[i]? = some x := ⟨_, Qc hi⟩
  have ex := Qp8 hx
  have hx2 := hT.at hi
  rw [ex] at hx2
  have hlt : (i : Int) < t.length := by omega
  have h3 : inI ((i : Int) + 1) := by unfold inI; omega
  have s1 := Qgy (bkN t i) x.toNat i (by rw [Qhp]; omega)
  have e1 : (bkN t i).set x.toNat i = bkN t (i + 1) := by rw [bkN, ex]
  rw [e1] at s1
  unfold putAt at s1
  simp only [Qd, Qf, Qj] at s1
  have l1 := Qdo (bkN t i)
  rw [Qhp] at l1
  have k1 : x.toNat + 1 ≤ t.length := by omega
  simp only [hx, hlt, h3, hx2, s1, l1, k1, Z9, Zh, Zg, Qaf, Qa9, Qa8, Qab, Qac, Qa4, putB, Qad, Qah, Qa5, Qa2, Fam.step, Qae, Qci, Qb6, putB, nv, sv, evO, opv, qv, binV, ldV, iadV, lenV, putAt, V.cells, Qb2, Qc3, kp, Qa1, Qce, Qa0, Qa3, ↓reduceIte, Nat.reduceEqDiff, Nat.reduceLeDiff, Qb, Qe, Qs, Qq, Qd, Qf, Qi, Zd, Qo, Zp, Q1, Qj, Qp, Qa, decide_true, and_self, reduceCtorEq, Q2, Qg, Qt, Qh, Qu, eI]
 ·have hlt : ¬ ((t.length : Int) < t.length) := by omega
  have l1 := Qdo (bkN t t.length)
  rw [Qhp] at l1
  have c1 := Qdt (bkN t t.length)
  rw [Qhp] at c1
  simp only [hlt, l1, c1, Z9, Z4, vw_I, Qa9, Qa8, Qab, Qaw, Qag, Qa4, Qad, Qah, Qa5, Qa2, Fam.step, Qae, evO, opv, qv, binV, lenV, Qa1, Qa0, Qa3, ↓reduceIte, Nat.reduceEqDiff, Qb, Qe, Zd, endQ, rvs, rv1, resV, Qdm, Qj, Qa, decide_false, and_self, reduceCtorEq, Qg]
def e23 (a : List Int) : List V := [.sl 1 (a.map eI)]
def d23 : List V → List Int | [.sl _ x0] => (x0.map dI) | _ => ([])
theorem Qxr (a : List Int) : d23 (e23 a) = a := by simp [d23, e23, Function.comp_def, Qcx]
noncomputable def HZ5 : Gam := HZ4.ext 23 (fnG e23 d23 (fun a => (fun (t : List Int) => IsTak t.length t ∧ t.length ≤ 1000000) a) (fun a => (fun (t : List Int) => bkN t t.length) a) (fun l => .sl 1 (l.map eI)))
theorem Qx6 : GOk Try.prog HZ5 := Qx5.ext (f := 23) (fun a w => Try.call23 a w) (Qaz (e := e23) (d := d23) (ok := (fun a => (fun (t : List Int) => IsTak t.length t ∧ t.length ≤ 1000000) a)) (g := (fun a => (fun (t : List Int) => bkN t t.length) a)) (eb := (fun l => .sl 1 (l.map eI))) fun a h => W23 a h)
theorem h23 (t : List Int) : HZ5 23 [.sl 1 (t.map eI)] = (IsTak t.length t ∧ t.length ≤ 1000000, ((fun l => .sl 1 (l.map eI))) (bkN t t.length)) :=
 (show HZ5 23 _ = fnG e23 d23 (fun a => (fun (t : List Int) => IsTak t.length t ∧ t.length ≤ 1000000) a) (fun a => (fun (t : List Int) => bkN t t.length) a) (fun l => .sl 1 (l.map eI)) (e23 (t)) from rfl).trans (Qb1 _ (Qxr _))
end Go.C10
set_option linter.unusedSimpArgs false
set_option linter.unusedVariables false
namespace Go.C10
open Go.Fam Go.Proofs
variable {Γ : Gam}
theorem Qth {t : List Int} (hT : IsTak t.length t) (h7 : t.length ≤ 7) : ∃ L, Qdg t = (L, 0) ∧ L.length = mN t ∧ Qc7 t.length L t = some (exS t t.length).1 ∧ Qbq (exS t t.length).1 = true := by
 have hB : takB t = true := (Qek t).2 ⟨h7, hT⟩
 have h0 : takE t = 0 := by unfold takE; rw [if_pos hB]
 obtain ⟨h1, _, _⟩ := Qlj hT t.length (Z4 _)
 refine ⟨(exS t t.length).2, by unfold Qdg; rw [if_pos h0], Qte hT, Qne hT _ (Z4 _), ?_⟩
 rw [Qkw h1]
 exact Qpq hT
end Go.C10
