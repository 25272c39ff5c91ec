import Derived.Test.YtcdgojonaloclaaG3
import Derived.Test.YtcdgojonaloclaaChecked
import Derived.Test.YtcdgojonaloclaaG9
set_option linter.all false
open List renaming getD_eq_getElem?_getD → Qa, getElem?_eq_getElem → Qc, length_nil → Qd, length_cons → Qf, take_succ_cons → Qg, map_cons → Qh, append_nil → Qi, length_map → Qj, all_cons → Qk, all_nil → Ql, map_nil → Qm, getElem?_map → Qp, drop_succ_cons → Qr, mem_of_getElem? → Qw, take_nil → Qy, all_eq_true → Q1, length_drop → Q2, length_set → Q4, headD_cons → Q5, drop_zero → Q7, take_length → Q8, getElem?_take_of_lt → Zg, length_take → Zh, getElem?_eq_none → Zi, mem_range → Zj, getElem?_of_mem → Zk, replicate_zero → Zn, getElem?_drop → Zo, getElem?_set → Zq, getElem?_nil → Zs, contains_nil → Zt, cons_append → Zv, isEmpty_nil → Zx, foldl_cons → Z5, sum_append → Z6, nil_append → Z7
open Nat renaming mod_lt → Qb, mod_add_mod → Qq, zero_add → Qs, mod_eq_of_lt → Qu, le_refl → Za, lt_or_gt_of_ne → Zd, lt_trichotomy → Ze, add_assoc → Zf, mul_le_mul_left → Zm, add_mod_right → Zr, div_add_mod → Z2, strongRecOn → Z4
open Bool renaming false_eq_true → Qe, and_self → Qn, or_false → Qo, and_eq_true → Qt, true_eq_false → Qv, and_true → Qx, not_true → Qz, not_false → Zl, or_eq_true → Z3, false_and → Z8, and_false → Z9
open Option renaming getD_some → Q3, map_some → Q9, getD_none → Zw, some → Zz
open Int renaming lt_irrefl → Q0, toNat_zero → Q6, natCast_add → Zb, natCast_one → Zc, natCast_nonneg → Zp, toNat_natCast → Zu, le_refl → Zy, add_mul → Z0, one_mul → Z1
set_option maxRecDepth 8000
namespace Go.C02
open Go.Fam Go.Proofs
def rc5 : RC := (.seq (.reg false [(cX 2 0), (cQ 4 [] (.mv (kB false)))]) (.keep [1,2] (.seq (.seq (.reg true [(cLd 10 2 true 11), (cQ 11 [10] (.call (kF 24) [(.t 10)])), (cMv 12 11), (gQ 13 12 false [2] (.ld true 11 (.t 2))), (gQ 14 12 false [13] (.call (kF 25) [(.t 13)])), (gQ 15 12 false [14] (.bin .neq (.t 14) (kI 0))), (cQ 16 [12,15] (.pick (.t 12) (kB true) (.t 15))), (cMv 17 16), (gMv 18 17 false 1), (gQ 19 17 false [18] (.len (.t 18))), (gQ 20 17 false [19] (.bin .gtr (.t 19) (kI 60))), (cQ 21 [17,20] (.pick (.t 17) (kB true) (.t 20)))]) (.keep [1,2,21] (.cond (.t 21) (.seq (.reg false [(cQ 22 [] (.call (kF 17) [])), (cMv 4 22)]) .ret) .skip))) (.keep [1,2] (.seq (.reg false [(cLd 24 2 true 11), (cQ 25 [24] (.call (kF 26) [(.t 24)])), (cMv 23 25), (cEx 26 23 0), (cEx 27 23 1), (cMv 5 26), (cMv 6 27)]) (.keep [1,2,5,6] (.seq (.seq (.reg false [(cMv 28 6), (cC 29 .neq 28 0)]) (.keep [1,2,5,29] (.cond (.t 29) (.seq (.reg false [(cQ 4 [] (.mv (kB false)))]) .ret) .skip))) (.keep [1,2,5] (.seq (.reg false [(cI 7 0), (cQ 8 [] (.mv (kB true)))]) (.keep [1,2,5,7,8] (.seq (.seq (.reg false [(cI 9 0)]) (.keep [1,2,5,7,8,9] (.block 0 (.loop [1,2,5,7,8,9] none (.seq (.seq (.reg false [(cMv 30 9), (cFa 31 2 10), (cLd 32 31 false 1), (cLn 33 32), (cB 34 .lss 30 33)]) (.keep [1,2,5,7,8,9,34] (.cond (.t 34) .skip (.exit 0)))) (.keep [1,2,5,7,8,9] (.seq (.block 1 (.seq (.reg false [(cMv 37 7), (cFa 38 2 10), (cLd 39 38 false 1), (cMv 40 9), (cA 41 1 39 40), (cLd 42 41 false 1), (cB 43 .add 37 42), (cMv 7 43)]) (.keep [1,2,5,7,8,9] (.seq (.any true 0 [⟨(cMv 44 8), [], []⟩, ⟨(cMv 45 44), [], [0]⟩, ⟨(gQ 46 45 true [2] (.fad 10 (.t 2))), [], [1,0]⟩, ⟨(gQ 47 45 true [46] (.ld false 1 (.t 46))), [], [2,1,0]⟩, ⟨(gMv 48 45 true 9), [], [1,0]⟩, ⟨(gQ 49 45 true [47,48] (.iad 1 (.t 47) (.t 48))), [], [3,2,1,0,4]⟩, ⟨(gQ 50 45 true [49] (.ld false 1 (.t 49))), [], [5,3,2,1,0,4]⟩, ⟨(gQ 51 45 true [2] (.fad 10 (.t 2))), [], [1,0]⟩, ⟨(gQ 52 45 true [51] (.ld false 1 (.t 51))), [], [7,1,0]⟩, ⟨(gQ 53 45 true [52] (.iad 1 (.t 52) (kI 0))), [], [8,7,1,0]⟩, ⟨(gQ 54 45 true [53] (.ld false 1 (.t 53))), [], [9,8,7,1,0]⟩, ⟨(gQ 55 45 true [50,54] (.bin .eql (.t 50) (.t 54))), [], [6,5,3,2,1,0,4,10,9,8,7]⟩, ⟨(cQ 56 [45,55] (.pick (.t 45) (.t 55) (kB false))), [], [1,0,11,6,5,3,2,4,10,9,8,7]⟩, ⟨(cMv 8 56), [], [12,1,0,11,6,5,3,2,4,10,9,8,7]⟩]) (.keep [1,2,5,7,8,9] (.seq (.reg false [(cMv 57 5), (cFa 58 2 10), (cLd 59 58 false 1), (cMv 60 9), (cA 61 1 59 60), (cLd 62 61 false 1), (cB 63 .lss 57 62)]) (.keep [1,2,5,7,8,9,63] (.cond (.t 63) (.seq (.reg false [(cQ 4 [] (.mv (kB false)))]) .ret) .skip)))))))) (.keep [1,2,5,7,8,9] (.reg false [(cMv 35 9), (cC 36 .add 35 1), (cMv 9 36)]))))))))) (.keep [1,2,5,7,8] (.seq (.seq (.reg true [(cMv 64 5), (cMv 65 7), (cB 66 .gtr 64 65), (cMv 67 66), (gMv 68 67 false 8), (gMv 69 67 false 68), (gMv 70 69 true 5), (gQ 71 69 true [2] (.fad 10 (.t 2))), (gQ 72 69 true [71] (.ld false 1 (.t 71))), (gQ 73 69 true [72] (.iad 1 (.t 72) (kI 0))), (gQ 74 69 true [73] (.ld false 1 (.t 73))), (gQ 75 69 true [70,74] (.bin .rem (.t 70) (.t 74))), (gQ 76 69 true [75] (.bin .neq (.t 75) (kI 0))), (gQ 77 67 false [69,76] (.pick (.t 69) (.t 76) (kB false))), (cQ 78 [67,77] (.pick (.t 67) (kB true) (.t 77)))]) (.keep [1,2,5,78] (.cond (.t 78) (.seq (.reg false [(cQ 4 [] (.mv (kB false)))]) .ret) .skip))) (.keep [1,2,5] (.seq (.seq (.reg true [(cLd 79 2 true 11), (cMv 80 1), (cQ 81 [79,80] (.call (kF 27) [(.t 79), (.t 80)])), (cMv 82 81), (gQ 83 82 true [2] (.ld true 11 (.t 2))), (gMv 84 82 true 1), (gQ 85 82 true [83,84] (.call (kF 28) [(.t 83), (.t 84)])), (gMv 86 82 true 5), (gQ 87 82 true [85,86] (.bin .lss (.t 85) (.t 86))), (cQ 88 [82,87] (.pick (.t 82) (.t 87) (kB false)))]) (.keep [88] (.cond (.t 88) (.seq (.reg false [(cQ 4 [] (.mv (kB false)))]) .ret) .skip))) (.keep [] (.seq (.reg false [(cQ 89 [] (.call (kF 17) [])), (cMv 4 89)]) .ret)))))))))))))))))
def pu5 : List Nat := [2]
def rs5 : List RV := [.t 4]
theorem cc5 : comp Try.prog pu5 (Try.f5.ntmps, 0) 0 1 rc5 (Try.f5.body.getD .skip) = some rc5 := by kernel_rfl
theorem cb5 : Try.f5.body = some (Try.f5.body.getD .skip) := by kernel_rfl
theorem cs5 : resRV Try.prog Try.f5.results.toList = some rs5 := by kernel_rfl
theorem cn5 : 2 ≤ Try.f5.ntmps := by decide
end Go.C02
set_option linter.unusedSimpArgs false
set_option linter.unusedVariables false
namespace Go.C02
open Go.Fam Go.Proofs
section
variable (f : Fig) (l k : List Int) (n : Int)
theorem b26 : HB 26 [.ag (eFig f)] = (True, eNE (soonR f)) := y26 f
theorem b25 : HB 25 [.ag (eFig f)] = (f.starts.length < 10000000 ∧ f.times.length < 10000000, .i (figCheck f)) := q25 f
theorem b24 : HB 24 [.ag (eFig f)] = (True, .b (farRing f)) := z24 f
theorem b27 : HB 27 [.ag (eFig f), .sl 1 (l.map eI)] = (OkT f.times ∧ l.length < 10000000, .b (canSewR f.times l)) := y27 f l
theorem b28 : HB 28 [.ag (eFig f), .sl 1 (l.map eI)] = ((l.length ≤ f.times.length ∧ f.times.length < 100000) ∧ (∀ x ∈ f.times, tame 1000000 x) ∧ ∀ x ∈ l, tame 10000000 x, .i (endF f.times l l.length)) := y28 f l
end
theorem Ok21.lens {f : Fig} (h : Ok21 f) : f.starts.length < 10000000 ∧ f.times.length < 10000000 := ⟨by have := h.s; omega, by have := h.t; omega⟩
end Go.C02
set_option maxRecDepth 8000
namespace Go.C02.N
open Go.Fam Go.Proofs
end Go.C02.N
set_option linter.unusedSimpArgs false
set_option linter.unusedVariables false
namespace Go.C02
open Go.Fam Go.Proofs
end Go.C02
set_option linter.unusedSimpArgs false
set_option linter.unusedVariables false
namespace Go.C02
open Go.Fam Go.Proofs
end Go.C02
set_option linter.unusedSimpArgs false
set_option linter.unusedVariables false
namespace Go.C02
open Go.Fam Go.Proofs
end Go.C02
set_option linter.unusedSimpArgs false
set_option linter.unusedVariables false
namespace Go.C02
open Go.Fam Go.Proofs
end Go.C02
set_option linter.unusedSimpArgs false
set_option linter.unusedVariables false
namespace Go.C02
open Go.Fam Go.Proofs
inductive Sch (t : List Int) (b : Nat → Int) : Nat → Nat → Int → Prop
  | nil (f : Nat) : Sch t b f 0 0
  | cut (f c k : Nat) (D1 D2 : Int) (hk : k < c) (h1 : Sch t b f k D1) (h2 : Sch t b (f + k + 1) (c - k - 1) D2) (hb : b (f + k) = max D1 D2) : Sch t b f c (max D1 D2 + t.getD ((f + k) % t.length) 0)
theorem Sch.congr {t : List Int} {b b' : Nat → Int} {f c : Nat} {D : Int} (h : Sch t b f c D) : (∀ q, f ≤ q → q < f + c → b q = b' q) → Sch t b' f c D := by
  induction h with
  | nil f => intro _; exact .nil f
  | cut f c k D1 D2 hk h1 h2 hb ih1 ih2 =>
    intro he
    exact .cut f c k D1 D2 hk (ih1 fun q h3 h4 => he q h3 (by omega)) (ih2 fun q h3 h4 => he q (by omega) (by omega)) (by rw [← he _ (by omega) (by omega)]; exact hb)
theorem Sch.in_ {t : List Int} (ht : ∀ x ∈ t, 1 ≤ x) (hn : 0 < t.length) {b : Nat → Int} {f c : Nat} {D : Int} (h : Sch t b f c D) : 0 ≤ D ∧ ∀ q, f ≤ q → q < f + c → 0 ≤ b q ∧ b q + t.getD (q % t.length) 0 ≤ D := by
  induction h with
  | nil f => exact ⟨by omega, fun q h1 h2 => by omega⟩
  | cut f c k D1 D2 hk h1 h2 hb ih1 ih2 =>
    obtain ⟨a1, a2⟩ := ih1
    obtain ⟨b1, b2⟩ := ih2
    have hx := getD_in (P := fun x => 1 ≤ x) (Qb (f + k) hn) ht
    refine ⟨by omega, fun q h3 h4 => ?_⟩
    rcases Ze q (f + k) with h | h | h
    · have := a2 q h3 (by omega); omega
    · subst h
      rw [hb]
      have := Zy (max D1 D2 + t.getD ((f + k) % t.length) 0)
      omega
    · have := b2 q (by omega) (by omega); omega
theorem Sch.apart {t : List Int} (ht : ∀ x ∈ t, 1 ≤ x) (hn : 0 < t.length) {b : Nat → Int} {f c : Nat} {D : Int} (h : Sch t b f c D) : ∀ q, f ≤ q → q < f + c → ∃ lo hi, (f ≤ lo ∧ lo ≤ q ∧ q < hi ∧ hi ≤ f + c) ∧
    (lo = f ∨ b q < b (lo - 1) + t.getD ((lo - 1) % t.length) 0 ∧ b q + t.getD (q % t.length) 0 ≤ b (lo - 1)) ∧ (hi = f + c ∨ b q < b hi + t.getD (hi % t.length) 0 ∧ b q + t.getD (q % t.length) 0 ≤ b hi) ∧
    ∀ q', f ≤ q' → q' < f + c → q' ≠ q → (lo ≤ q' ∧ q' < hi → b q' + t.getD (q' % t.length) 0 ≤ b q) := by
  induction h with
  | nil f => intro q h1 h2; omega
  | cut f c k D1 D2 hk h1 h2 hb ih1 ih2 =>
    intro q h3 h4
    have i1 := h1.in_ ht hn
    have i2 := h2.in_ ht hn
    rcases Ze q (f + k) with h | h | h
    · obtain ⟨lo, hi, hr, hl, hh, hin⟩ := ih1 q h3 h
      have hq := i1.2 q h3 h
      have htq := getD_in (P := fun x => 1 ≤ x) (Qb q hn) ht
      have htk := getD_in (P := fun x => 1 ≤ x) (Qb (f + k) hn) ht
      refine ⟨lo, hi, by omega, hl, ?_, fun q' h5 h6 hne h7 => hin q' h5 (by omega) hne h7⟩
      right
      rcases hh with hh | hh
      · subst hh; rw [hb]; omega
      · exact hh
    · subst h
      refine ⟨f, f + c, by omega, .inl rfl, .inl rfl, fun q' h5 h6 hne _ => ?_⟩
      rw [hb]
      rcases Zd hne with h7 | h7
      · have := i1.2 q' h5 h7; omega
      · have := i2.2 q' (by omega) (by omega); omega
    · obtain ⟨lo, hi, hr, hl, hh, hin⟩ := ih2 q (by omega) (by omega)
      have hq := i2.2 q (by omega) (by omega)
      have htq := getD_in (P := fun x => 1 ≤ x) (Qb q hn) ht
      have htk := getD_in (P := fun x => 1 ≤ x) (Qb (f + k) hn) ht
      refine ⟨lo, hi, by omega, ?_, ?_, fun q' h5 h6 hne h7 => hin q' (by omega) (by omega) hne h7⟩
      · right
        rcases hl with hl | hl
        · subst hl
          rw [show f + k + 1 - 1 = f + k by omega, hb]; omega
        · exact hl
      · rcases hh with hh | hh
        · left; omega
        · exact .inr hh
def atB (t out : List Int) (q : Nat) : Int := out.getD (q % t.length) 0
theorem getD_set {l : List Int} {i j : Nat} {v : Int} (hi : i < l.length) : (l.set i v).getD j 0 = if j = i then v else l.getD j 0 := by
  simp only [Qa, Zq]
  by_cases h : i = j
  · subst h; simp [hi]
  · rw [if_neg h, if_neg (fun e => h e.symm)]
theorem mod_inj {n f q q' : Nat} (h1 : f ≤ q ∧ q < f + n) (h2 : f ≤ q' ∧ q' < f + n) (h : q % n = q' % n) : q = q' := by
  have hn : 0 < n := by omega
  have a1 := Z2 q n
  have a2 := Z2 q' n
  rcases Ze (q / n) (q' / n) with e | e | e
  · have : n * (q / n + 1) ≤ n * (q' / n) := Zm n e
    rw [Nat.mul_add, Nat.mul_one] at this; omega
  · rw [e] at a1; omega
  · have : n * (q' / n + 1) ≤ n * (q / n) := Zm n e
    rw [Nat.mul_add, Nat.mul_one] at this; omega
theorem begF_out {t : List Int} (hn : 0 < t.length) : ∀ (k f c : Nat) (out : List Int), out.length = t.length → c ≤ t.length → ∀ j, j < t.length → (∀ q, f ≤ q → q < f + c → q % t.length ≠ j) → (begF k t (f % t.length) c out).getD j 0 = out.getD j 0 := by
  intro k
  induction k with
  | zero => intros; rfl
  | succ k ih =>
    intro f c out ho hc j hj hne
    simp only [begF]
    split
    · rfl
    · rename_i h0
      rw [seg_mod]
      obtain ⟨b, hb⟩ : ∃ b, b = lastOf (seg t f c) := ⟨_, rfl⟩
      rw [← hb]
      have hbc : b < c := by rw [hb]; exact last_lt h0
      have e1 : (f % t.length + b) % t.length = (f + b) % t.length := Qq _ _ _
      have e2 : (f % t.length + b + 1) % t.length = (f + b + 1) % t.length := by rw [Zf, Qq, Zf]
      rw [e1, e2]
      have hlen : (begF k t (f % t.length) b (out.set ((f + b) % t.length) (max (Dn (seg t (f % t.length) b)) (Dn (seg t ((f + b + 1) % t.length) (c - b - 1)))))).length = t.length := by rw [begF_len, Q4, ho]
      rw [ih (f + b + 1) (c - b - 1) _ hlen (by omega) j hj fun q h1 h2 => hne q (by omega) (by omega)]
      rw [ih f b _ (by rw [Q4, ho]) (by omega) j hj fun q h1 h2 => hne q h1 (by omega)]
      rw [getD_set (by rw [ho]; exact Qb _ hn), if_neg (fun e => hne (f + b) (by omega) (by omega) e.symm)]
theorem begF_sch {t : List Int} (hn : 0 < t.length) : ∀ (k f c : Nat) (out : List Int), out.length = t.length → c ≤ t.length → c ≤ k → Sch t (atB t (begF k t (f % t.length) c out)) f c (Dn (seg t f c)) := by
  intro k
  induction k with
  | zero =>
    intro f c out ho hc hk
    have : c = 0 := by omega
    subst this
    exact .nil f
  | succ k ih =>
    intro f c out ho hc hk
    by_cases h0 : c = 0
    · subst h0; exact .nil f
    · simp only [begF, if_neg h0]
      rw [seg_mod]
      obtain ⟨b, hb⟩ : ∃ b, b = lastOf (seg t f c) := ⟨_, rfl⟩
      rw [← hb]
      have hbc : b < c := by rw [hb]; exact last_lt h0
      have e1 : (f % t.length + b) % t.length = (f + b) % t.length := Qq _ _ _
      have e2 : (f % t.length + b + 1) % t.length = (f + b + 1) % t.length := by rw [Zf, Qq, Zf]
      rw [e1, e2, seg_mod, seg_mod]
      obtain ⟨v, hv⟩ : ∃ v, v = max (Dn (seg t f b)) (Dn (seg t (f + b + 1) (c - b - 1))) := ⟨_, rfl⟩
      rw [← hv]
      obtain ⟨o1, ho1⟩ : ∃ o1, o1 = begF k t (f % t.length) b (out.set ((f + b) % t.length) v) := ⟨_, rfl⟩
      have ho1l : o1.length = t.length := by rw [ho1, begF_len, Q4, ho]
      rw [← ho1]
      have hne : seg t f c ≠ [] := fun e => h0 (by rw [← seg_len t f c, e]; rfl)
      have hD := Dn_cut hne
      rw [← hb, seg_take (Nat.le_of_lt hbc), seg_get hbc, seg_drop, seg_mod, ← hv] at hD
      rw [hD, hv]
      have s1 := ih f b (out.set ((f + b) % t.length) v) (by rw [Q4, ho]) (by omega) (by omega)
      rw [← ho1] at s1
      have s2 := ih (f + b + 1) (c - b - 1) o1 ho1l (by omega) (by omega)
      have hrest : ∀ q, f ≤ q → q ≤ f + b → atB t (begF k t ((f + b + 1) % t.length) (c - b - 1) o1) q = atB t o1 q := fun q h1 h2 => by
        unfold atB
        refine begF_out hn k (f + b + 1) (c - b - 1) o1 ho1l (by omega) _ (Qb _ hn) fun q' h3 h4 e => ?_
        have := mod_inj (n := t.length) (f := f) (q := q') (q' := q) (by omega) (by omega) e
        omega
      refine .cut f c b _ _ hbc (s1.congr fun q h1 h2 => (hrest q h1 (by omega)).symm) s2 ?_
      rw [hrest _ (by omega) (by omega), ← hv, ho1]
      unfold atB
      rw [begF_out hn k f b _ (by rw [Q4, ho]) (by omega) _ (Qb _ hn) fun q' h3 h4 e => by
        have := mod_inj (n := t.length) (f := f) (q := q') (q' := f + b) (by omega) (by omega) e
        omega]
      rw [getD_set (by rw [ho]; exact Qb _ hn), if_pos rfl]
end Go.C02
set_option linter.unusedSimpArgs false
set_option linter.unusedVariables false
namespace Go.C02
open Go.Fam Go.Proofs
theorem getDB_set {l : List Bool} {i j : Nat} {v : Bool} (hi : i < l.length) : (l.set i v).getD j false = if j = i then v else l.getD j false := by
  simp only [Qa, Zq]
  by_cases h : i = j
  · subst h; simp [hi]
  · rw [if_neg h, if_neg (fun e => h e.symm)]
theorem occ1_get {t b : List Int} {seam : Nat} {out : List Bool} {i g : Nat} (hl : out.length = b.length) (hi : i < b.length) :
    (occ1 t b seam out i).getD g false = true ↔ out.getD g false = true ∨ ((b.getD i 0 + t.getD i 0 ≤ b.getD seam 0 ∧ (out.getD i false = true ∨ out.getD ((i + 1) % b.length) false = true)) ∧ (g = i ∨ g = (i + 1) % b.length)) := by
  unfold occ1
  have hn : (i + 1) % b.length < b.length := Qb _ (by omega)
  split
  · rename_i h
    rw [getDB_set (by rw [Q4]; omega), getDB_set (by omega)]
    by_cases h1 : g = (i + 1) % b.length
    · rw [if_pos h1]
      exact ⟨fun _ => .inr ⟨h, .inr h1⟩, fun _ => rfl⟩
    · rw [if_neg h1]
      by_cases h2 : g = i
      · rw [if_pos h2]
        exact ⟨fun _ => .inr ⟨h, .inl h2⟩, fun _ => rfl⟩
      · rw [if_neg h2]
        exact ⟨.inl, fun h' => h'.resolve_right fun h'' => h''.2.elim h2 h1⟩
  · rename_i h
    constructor
    · exact .inl
    · rintro (h' | ⟨h', _⟩)
      · exact h'
      · exact absurd h' h
theorem occR_mono {t b : List Int} {seam : Nat} {out : List Bool} (hl : out.length = b.length) {g : Nat} (hg : out.getD g false = true) : ∀ j, j ≤ b.length → (occR t b seam out j).getD g false = true := by
  intro j
  induction j with
  | zero => intro _; exact hg
  | succ j ih =>
    intro hj
    rw [occR_succ, occ1_get (by rw [occR_len, hl]) (by omega)]
    exact .inl (ih (by omega))
theorem occR_step {t b : List Int} {seam : Nat} {out : List Bool} (hl : out.length = b.length) {i : Nat} (hi : i < b.length) (he : b.getD i 0 + t.getD i 0 ≤ b.getD seam 0) (ho : out.getD i false = true ∨ out.getD ((i + 1) % b.length) false = true) :
    (occR t b seam out b.length).getD i false = true ∧ (occR t b seam out b.length).getD ((i + 1) % b.length) false = true := by
  have key : ∀ j, i < j → j ≤ b.length → (occR t b seam out j).getD i false = true ∧ (occR t b seam out j).getD ((i + 1) % b.length) false = true := by
    intro j
    induction j with
    | zero => intro h; omega
    | succ j ih =>
      intro h1 h2
      rw [occR_succ, occ1_get (by rw [occR_len, hl]) (by omega), occ1_get (by rw [occR_len, hl]) (by omega)]
      by_cases e : i = j
      · subst e
        have := ho.imp (fun h => occR_mono (t := t) (seam := seam) hl h i (by omega)) (fun h => occR_mono (t := t) (seam := seam) hl h i (by omega))
        exact ⟨.inr ⟨⟨he, this⟩, .inl rfl⟩, .inr ⟨⟨he, this⟩, .inr rfl⟩⟩
      · obtain ⟨k1, k2⟩ := ih (by omega) (by omega)
        exact ⟨.inl k1, .inl k2⟩
  exact key b.length hi (Za _)
theorem occI_mono {t b : List Int} {seam g k : Nat} (hg : (occI t b seam k).getD g false = true) : ∀ j, k ≤ j → (occI t b seam j).getD g false = true := by
  intro j hj
  induction j with
  | zero => have : k = 0 := by omega
            subst this; exact hg
  | succ j ih =>
    by_cases e : k = j + 1
    · subst e; exact hg
    · exact occR_mono (occI_len _ _ _ _) (ih (by omega)) _ (Za _)
theorem occI_start {t b : List Int} {seam : Nat} (hs : seam < b.length) (k : Nat) : (occI t b seam k).getD seam false = true ∧ (occI t b seam k).getD ((seam + 1) % b.length) false = true := by
  have hn : (seam + 1) % b.length < b.length := Qb _ (by omega)
  have h0 : (occI t b seam 0).getD seam false = true ∧ (occI t b seam 0).getD ((seam + 1) % b.length) false = true := by
    unfold occI occ0
    constructor
    · rw [getDB_set (by simp; omega), getDB_set (by simp; omega)]
      split <;> simp
    · rw [getDB_set (by simp; omega), if_pos rfl]
  exact ⟨occI_mono h0.1 k (Nat.zero_le _), occI_mono h0.2 k (Nat.zero_le _)⟩
theorem occ_right {t b : List Int} {q : Nat} (hn : 0 < b.length) : ∀ r, r < b.length → (∀ j, 1 ≤ j → j ≤ r → b.getD ((q + j) % b.length) 0 + t.getD ((q + j) % b.length) 0 ≤ b.getD (q % b.length) 0) → (occI t b (q % b.length) r).getD ((q + r + 1) % b.length) false = true := by
  intro r
  induction r with
  | zero =>
    intro _ _
    have := (occI_start (t := t) (b := b) (seam := q % b.length) (Qb _ hn) 0).2
    rwa [Qq] at this
  | succ r ih =>
    intro hr he
    have h1 := ih (by omega) fun j h1 h2 => he j h1 (by omega)
    have := (occR_step (t := t) (b := b) (seam := q % b.length) (out := occI t b (q % b.length) r) (i := (q + (r + 1)) % b.length) (occI_len _ _ _ _) (Qb _ hn) (he (r + 1) (by omega) (Za _)) (.inl h1)).2
    rw [Qq] at this
    exact this
theorem occ_left {t b : List Int} {q : Nat} (hn : 0 < b.length) : ∀ r, r < b.length → r ≤ q → (∀ j, 1 ≤ j → j ≤ r → b.getD ((q - j) % b.length) 0 + t.getD ((q - j) % b.length) 0 ≤ b.getD (q % b.length) 0) → (occI t b (q % b.length) r).getD ((q - r) % b.length) false = true := by
  intro r
  induction r with
  | zero =>
    intro _ _ _
    exact (occI_start (t := t) (b := b) (seam := q % b.length) (Qb _ hn) 0).1
  | succ r ih =>
    intro hr hq he
    have h1 := ih (by omega) (by omega) fun j h1 h2 => he j h1 (by omega)
    have e1 : ((q - (r + 1)) % b.length + 1) % b.length = (q - r) % b.length := by rw [Qq, show q - (r + 1) + 1 = q - r by omega]
    exact (occR_step (t := t) (b := b) (seam := q % b.length) (out := occI t b (q % b.length) r) (i := (q - (r + 1)) % b.length) (occI_len _ _ _ _) (Qb _ hn) (he (r + 1) (by omega) (Za _)) (.inr (by rw [e1]; exact h1))).1
theorem no_clash {t b : List Int} (hc : canSewR t b = true) {x y : Nat} (hx : x < b.length) (hy : y < b.length) (hne : x ≠ y) (h1 : ¬ b.getD x 0 + t.getD x 0 ≤ b.getD y 0) (h2 : ¬ b.getD y 0 + t.getD y 0 ≤ b.getD x 0) (g : Nat) (hg : g < b.length) : ¬ ((occN t b x).getD g false = true ∧ (occN t b y).getD g false = true) := by
  unfold canSewR at hc
  rw [Qt, Q1] at hc
  have key : ∀ a c, a < b.length → c < a → ¬ b.getD a 0 + t.getD a 0 ≤ b.getD c 0 → ¬ b.getD c 0 + t.getD c 0 ≤ b.getD a 0 → ¬ ((occN t b a).getD g false = true ∧ (occN t b c).getD g false = true) := by
    intro a c ha hca k1 k2 k3
    have := Q1.1 (hc.2 a (Zj.2 ha)) c (Zj.2 hca)
    unfold noClash at this
    rw [Z3, Z3, decide_eq_true_eq, decide_eq_true_eq, Q1] at this
    rcases this with (h | h) | h
    · exact k2 h
    · exact k1 h
    · have := h g (Zj.2 hg)
      rw [k3.1, k3.2] at this
      cases this
  rcases Zd hne with h | h
  · exact fun hh => key y x hy h h2 h1 ⟨hh.2, hh.1⟩
  · exact key x y hx h h1 h2
theorem last_ended {t b : List Int} (ht : ∀ x ∈ t, 1 ≤ x) (hbt : b.length = t.length) (hc : canSewR t b = true) {f c q0 : Nat} (hcn : c ≤ b.length) (h0 : f ≤ q0 ∧ q0 < f + c) (hmax : ∀ q, f ≤ q → q < f + c → b.getD (q % b.length) 0 ≤ b.getD (q0 % b.length) 0) :
    ∀ q, f ≤ q → q < f + c → q ≠ q0 → b.getD (q % b.length) 0 + t.getD (q % b.length) 0 ≤ b.getD (q0 % b.length) 0 := by
  have hn : 0 < b.length := by omega
  have htp : ∀ q, 1 ≤ t.getD (q % b.length) 0 := fun q => getD_in (P := fun x => 1 ≤ x) (by rw [← hbt]; exact Qb _ hn) ht
  have right : ∀ r, q0 + r < f + c → 1 ≤ r → b.getD ((q0 + r) % b.length) 0 + t.getD ((q0 + r) % b.length) 0 ≤ b.getD (q0 % b.length) 0 := by
    intro r
    induction r using Z4 with
    | _ r ih =>
      intro h1 h2
      refine Classical.byContradiction fun hne => ?_
      have hocc := occ_right (t := t) (b := b) (q := q0) hn (r - 1) (by omega) fun j hj1 hj2 => ih j (by omega) (by omega) hj1
      rw [show q0 + (r - 1) + 1 = q0 + r by omega] at hocc
      have hocc := occI_mono hocc b.length (by omega)
      have hself := (occI_start (t := t) (b := b) (seam := (q0 + r) % b.length) (Qb _ hn) b.length).1
      have hm := hmax (q0 + r) (by omega) h1
      have hp := htp q0
      exact no_clash hc (x := (q0 + r) % b.length) (y := q0 % b.length) (Qb _ hn) (Qb _ hn) (fun e => by
        have := mod_inj (n := b.length) (f := f) (q := q0 + r) (q' := q0) (by omega) (by omega) e; omega) hne (by omega) _ (Qb _ hn) ⟨hself, hocc⟩
  have left : ∀ r, r ≤ q0 → f ≤ q0 - r → 1 ≤ r → b.getD ((q0 - r) % b.length) 0 + t.getD ((q0 - r) % b.length) 0 ≤ b.getD (q0 % b.length) 0 := by
    intro r
    induction r using Z4 with
    | _ r ih =>
      intro h0' h1 h2
      refine Classical.byContradiction fun hne => ?_
      have hocc := occ_left (t := t) (b := b) (q := q0) hn (r - 1) (by omega) (by omega) fun j hj1 hj2 => ih j (by omega) (by omega) (by omega) hj1
      have hocc := occI_mono hocc b.length (by omega)
      have hself := (occI_start (t := t) (b := b) (seam := (q0 - r) % b.length) (Qb _ hn) b.length).2
      rw [Qq, show q0 - r + 1 = q0 - (r - 1) by omega] at hself
      have hm := hmax (q0 - r) (by omega) (by omega)
      have hp := htp q0
      exact no_clash hc (x := (q0 - r) % b.length) (y := q0 % b.length) (Qb _ hn) (Qb _ hn) (fun e => by
        have := mod_inj (n := b.length) (f := f) (q := q0 - r) (q' := q0) (by omega) (by omega) e; omega) hne (by omega) _ (Qb _ hn) ⟨hself, hocc⟩
  intro q h1 h2 h3
  rcases Zd h3 with h | h
  · have := left (q0 - q) (by omega) (by omega) (by omega)
    rwa [show q0 - (q0 - q) = q by omega] at this
  · have := right (q - q0) (by omega) (by omega)
    rwa [show q0 + (q - q0) = q by omega] at this
theorem exists_max (g : Nat → Int) : ∀ (c f : Nat), 0 < c → ∃ q0, (f ≤ q0 ∧ q0 < f + c) ∧ ∀ q, f ≤ q → q < f + c → g q ≤ g q0 := by
  intro c
  induction c with
  | zero => intro f h; omega
  | succ c ih =>
    intro f _
    by_cases h0 : c = 0
    · subst h0
      exact ⟨f, by omega, fun q h1 h2 => by have : q = f := by omega
                                            rw [this]; exact Zy _⟩
    · obtain ⟨q0, h1, h2⟩ := ih f (by omega)
      by_cases h : g q0 ≤ g (f + c)
      · refine ⟨f + c, by omega, fun q h3 h4 => ?_⟩
        by_cases e : q = f + c
        · rw [e]; exact Zy _
        · have := h2 q h3 (by omega); omega
      · refine ⟨q0, by omega, fun q h3 h4 => ?_⟩
        by_cases e : q = f + c
        · rw [e]; omega
        · exact h2 q h3 (by omega)
theorem row_lower {t b : List Int} (ht : ∀ x ∈ t, 1 ≤ x) (hb0 : ∀ x ∈ b, 0 ≤ x) (hbt : b.length = t.length) (hc : canSewR t b = true) : ∀ (n c f : Nat) (M : Int), c ≤ n → c ≤ b.length → 0 ≤ M → (∀ q, f ≤ q → q < f + c → b.getD (q % b.length) 0 + t.getD (q % b.length) 0 ≤ M) → Dn (seg t f c) ≤ M := by
  intro n
  induction n with
  | zero =>
    intro c f M h1 _ hM _
    have : c = 0 := by omega
    subst this
    exact hM
  | succ n ih =>
    intro c f M h1 h2 hM hq
    by_cases h0 : c = 0
    · subst h0; exact hM
    obtain ⟨q0, hq0, hmax⟩ := exists_max (fun q => b.getD (q % b.length) 0) c f (by omega)
    have hend := last_ended ht hbt hc h2 hq0 hmax
    obtain ⟨k, rfl⟩ : ∃ k, q0 = f + k := ⟨q0 - f, by omega⟩
    have hbp : 0 ≤ b.getD ((f + k) % b.length) 0 := getD_in (P := fun x => 0 ≤ x) (Qb _ (by omega)) hb0
    have d1 := ih k f _ (by omega) (by omega) hbp fun q h3 h4 => hend q h3 (by omega) (by omega)
    have d2 := ih (c - k - 1) (f + k + 1) _ (by omega) (by omega) hbp fun q h3 h4 => hend q (by omega) (by omega) (by omega)
    have d3 := Dn_le (l := seg t f c) (i := k) (by rw [seg_len]; omega)
    rw [seg_take (by omega), seg_get (by omega), seg_drop, seg_mod] at d3
    have d4 := hq (f + k) (by omega) (by omega)
    rw [hbt] at d4 d1 d2
    omega
theorem endF_ge (t b : List Int) : ∀ (n i : Nat), i < n → b.getD i 0 + t.getD i 0 ≤ endF t b n ∧ 0 ≤ endF t b n := by
  intro n
  induction n with
  | zero => intro i h; omega
  | succ n ih =>
    intro i hi
    unfold endF
    by_cases e : i = n
    · subst e
      refine ⟨by omega, ?_⟩
      cases i with
      | zero => unfold endF; omega
      | succ i => have := (ih 0 (by omega)).2; omega
    · have := ih i (by omega); omega
theorem sooner {t b : List Int} (hT : OkT t) (hc : canSewR t b = true) : minL (ringC t) ≤ endF t b b.length := by
  have hT1 := hT.1
  have ht : ∀ x ∈ t, 1 ≤ x := fun x hx => (hT.2.2 x hx).1
  have hc' := hc
  unfold canSewR at hc'
  rw [Qt, allN_eq, Qt, decide_eq_true_eq, Q1] at hc'
  obtain ⟨⟨hbt, hbx⟩, _⟩ := hc'
  have hb0 : ∀ x ∈ b, 0 ≤ x := fun x hx => by have := hbx x hx; simp only [within, Qt, decide_eq_true_eq] at this; omega
  obtain ⟨q0, hq0, hmax⟩ := exists_max (fun q => b.getD (q % b.length) 0) b.length 0 (by omega)
  have hend := last_ended ht hbt hc (Za _) hq0 hmax
  have hq0m : q0 % b.length = q0 := Qu (by omega)
  have hbp : 0 ≤ b.getD (q0 % b.length) 0 := getD_in (P := fun x => 0 ≤ x) (Qb _ (by omega)) hb0
  have d1 := row_lower ht hb0 hbt hc b.length (b.length - 1) (q0 + 1) _ (by omega) (by omega) hbp fun q h1 h2 => by
    have h3 : q % b.length < b.length := Qb _ (by omega)
    have h4 : q % b.length ≠ q0 := fun e => by
      have := mod_inj (n := b.length) (f := q0) (q := q) (q' := q0) (by omega) (by omega) (by rw [e, hq0m]); omega
    have := hend (q % b.length) (by omega) (by omega) h4
    rwa [Nat.mod_mod] at this
  have hg := ringC_get (t := t) (s := q0) (by omega)
  rw [seg_mod, ← hbt] at hg
  have h5 := minL_le (Qw hg)
  have h6 := (endF_ge t b b.length q0 (by omega)).1
  rw [hq0m] at d1
  omega
end Go.C02
set_option linter.unusedSimpArgs false
set_option linter.unusedVariables false
namespace Go.C02
open Go.Fam Go.Proofs
theorem plan_sch {t : List Int} (h : OkT t) : Sch t (atB t (planN t)) (closeN t + 1) (t.length - 1) (restN t) ∧ (planN t).getD (closeN t) 0 = restN t := by
  have h1 := h.1
  have hcl := closeN_lt h
  have hl : ((List.replicate t.length (0 : Int)).set (closeN t) (restN t)).length = t.length := by simp
  have e : restN t = Dn (seg t (closeN t + 1) (t.length - 1)) := by unfold restN; rw [seg_mod]
  constructor
  · rw [e]
    unfold planN begN
    rw [e]
    exact begF_sch (by omega) (t.length - 1) (closeN t + 1) (t.length - 1) _ (by simp) (by omega) (Za _)
  · unfold planN begN
    rw [begF_out (by omega) (t.length - 1) (closeN t + 1) (t.length - 1) _ hl (by omega) _ hcl fun q h3 h4 e => by
      have := mod_inj (n := t.length) (f := closeN t) (q := q) (q' := closeN t) (by omega) (by omega) (by rw [e, Qu hcl])
      omega]
    rw [getD_set (by simp; omega), if_pos rfl]
theorem min_ring {t : List Int} (h : OkT t) : minL (ringC t) = restN t + t.getD (closeN t) 0 := by
  have h1 := h.1
  have hne : ringC t ≠ [] := fun e => by have := ringC_len t; rw [e, Qd] at this; omega
  have h2 := argL_get hne
  have h3 := ringC_get (closeN_lt h)
  unfold closeN at h3 ⊢
  rw [h2] at h3
  exact Zz.inj h3
theorem pos_of {t : List Int} {c i : Nat} (hc : c < t.length) (hi : i < t.length) (hne : i ≠ c) : ∃ q, (c + 1 ≤ q ∧ q < c + t.length) ∧ q % t.length = i := by
  by_cases h : c < i
  · exact ⟨i, by omega, Qu hi⟩
  · exact ⟨i + t.length, by omega, by rw [Zr, Qu hi]⟩
theorem plan_ends {t : List Int} (h : OkT t) : ∀ i, i < t.length → i ≠ closeN t → 0 ≤ (planN t).getD i 0 ∧ (planN t).getD i 0 + t.getD i 0 ≤ restN t := by
  intro i hi hne
  obtain ⟨s1, s2⟩ := plan_sch h
  have h1 := h.1
  have ht : ∀ x ∈ t, 1 ≤ x := fun x hx => (h.2.2 x hx).1
  obtain ⟨q, hq, he⟩ := pos_of (closeN_lt h) hi hne
  have := (s1.in_ ht (by omega)).2 q hq.1 (by omega)
  unfold atB at this
  rwa [he] at this
theorem maxL_ge {l : List Int} {x : Int} (h : x ∈ l) : x ≤ maxL l := by
  have key : ∀ (l : List Int) (a : Int), a ≤ l.foldl max a ∧ ∀ x ∈ l, x ≤ l.foldl max a := by
    intro l
    induction l with
    | nil => intro a; simp
    | cons y l ih =>
      intro a
      obtain ⟨h1, h2⟩ := ih (max a y)
      rw [Z5]
      refine ⟨by omega, fun x hx => ?_⟩
      rcases List.mem_cons.1 hx with rfl | hx
      · omega
      · exact h2 x hx
  cases l with
  | nil => cases h
  | cons a l =>
    obtain ⟨h1, h2⟩ := key l a
    rcases List.mem_cons.1 h with rfl | h
    · exact h1
    · exact h2 x h
theorem maxL_le {l : List Int} {M : Int} (hne : l ≠ []) (h : ∀ x ∈ l, x ≤ M) : maxL l ≤ M := by
  have key : ∀ (l : List Int) (a : Int), a ≤ M → (∀ x ∈ l, x ≤ M) → l.foldl max a ≤ M := by
    intro l
    induction l with
    | nil => intro a ha _; exact ha
    | cons y l ih =>
      intro a ha hl
      rw [Z5]
      have := hl y (by simp)
      exact ih _ (by omega) fun x hx => hl x (by simp [hx])
  cases l with
  | nil => exact absurd rfl hne
  | cons a l => exact key l a (h a (by simp)) fun x hx => h x (by simp [hx])
theorem endsN_getD {t b : List Int} (hl : b.length = t.length) {i : Nat} (hi : i < t.length) : (endsN t b)[i]? = some (b.getD i 0 + t.getD i 0) := by
  refine endsN_get ?_ ?_
  · rw [Qc hi, Qa, Qc hi]; rfl
  · rw [Qc (by omega), Qa, Qc (by omega)]; rfl
theorem soon_eq {t : List Int} (h : OkT t) : maxL (endsN t (planN t)) = minL (ringC t) := by
  have h1 := h.1
  have hpl := planN_len t
  have hcl := closeN_lt h
  have hmr := min_ring h
  obtain ⟨s1, s2⟩ := plan_sch h
  have hg := endsN_getD hpl hcl
  rw [s2] at hg
  have h2 := maxL_ge (Qw hg)
  have h3 : maxL (endsN t (planN t)) ≤ minL (ringC t) := by
    refine maxL_le (fun e => by have := endsN_len hpl; rw [e, Qd] at this; omega) fun x hx => ?_
    obtain ⟨i, hi⟩ := Zk hx
    have hil := getElemLt hi
    rw [endsN_len hpl] at hil
    rw [endsN_getD hpl hil] at hi
    have hi := Zz.inj hi
    have htc := getD_in (P := fun x => 1 ≤ x ∧ x ≤ 99) hcl h.2.2
    by_cases e : i = closeN t
    · rw [e, s2] at hi; omega
    · have := plan_ends h i hil e; omega
  omega
end Go.C02
set_option linter.unusedSimpArgs false
set_option linter.unusedVariables false
namespace Go.C02
open Go.Fam Go.Proofs
theorem seg_all {t : List Int} {s : Nat} (h : s ≤ t.length) (hn : 0 < t.length) : seg t s t.length = t.drop s ++ t.take s := by
  apply List.ext_getElem?
  intro i
  unfold seg
  rw [Qp]
  by_cases hi : i < t.length
  · rw [List.getElem?_range hi, Q9]
    by_cases h1 : i < t.length - s
    · rw [List.getElem?_append_left (by rw [Q2]; exact h1), Zo, Qu (by omega), Qa, Qc (by omega)]; rfl
    · rw [List.getElem?_append_right (by rw [Q2]; omega), Q2, Zg (by omega)]
      have e : (s + i) % t.length = i - (t.length - s) := by
        rw [show s + i = i - (t.length - s) + t.length by omega, Zr, Qu (by omega)]
      rw [e, Qa, Qc (by omega)]; rfl
  · rw [Zi (by simp; omega), Zi (by simp; omega)]; rfl
theorem seg_cons {t : List Int} {s m : Nat} : seg t s (m + 1) = t.getD (s % t.length) 0 :: seg t (s + 1) m := by
  unfold seg
  rw [List.range_succ_eq_map, Qh, List.map_map]
  congr 1
  refine List.map_congr_left fun q _ => ?_
  simp only [Function.comp_apply]
  rw [show s + (q + 1) = s + 1 + q by omega]
theorem seg_sum {t : List Int} {s : Nat} (h : s < t.length) : t.getD s 0 + (seg t (s + 1) (t.length - 1)).sum = t.sum := by
  have h1 := seg_cons (t := t) (s := s) (m := t.length - 1)
  rw [show t.length - 1 + 1 = t.length by omega, seg_all (by omega) (by omega), Qu h] at h1
  have h2 := congrArg List.sum h1
  rw [Z6, List.sum_cons] at h2
  have h3 : t.sum = (t.take s).sum + (t.drop s).sum := by rw [← Z6, List.take_append_drop]
  omega
theorem ring_get {t : List Int} {s : Nat} (h : s < t.length) : (ringC t)[s]? = some (Dn (seg t (s + 1) (t.length - 1)) + t.getD s 0) := by
  have := ringC_get h
  rwa [seg_mod] at this
theorem soon_sum {t : List Int} (h : OkT t) : minL (ringC t) ≤ t.sum := by
  have h1 := h.1
  have := minL_le (Qw (ring_get (t := t) (s := 0) (by omega)))
  have h2 := (Dn_in (seg t (0 + 1) (t.length - 1)) fun x hx => by have := h.2.2 x (seg_mem (by omega) x hx); omega).2
  have h3 := seg_sum (t := t) (s := 0) (by omega)
  omega
theorem soon_each {t : List Int} (h : OkT t) {i : Nat} (hi : i < t.length) : t.getD i 0 ≤ minL (ringC t) := by
  have hpl := planN_len t
  rw [← soon_eq h]
  have hg := endsN_getD hpl hi
  have h2 := maxL_ge (Qw hg)
  have h3 := getD_in (P := fun x => 0 ≤ x ∧ x ≤ 1584) (l := planN t) (i := i) (by omega) (planN_in h)
  omega
theorem Dn_mult {k : Int} (l : List Int) : (∀ x ∈ l, x = k) → ∃ m : Nat, Dn l = m * k := by
  refine row_ind (p := fun l => (∀ x ∈ l, x = k) → ∃ m : Nat, Dn l = m * k) (fun _ => ⟨0, by simp [Dn_nil]⟩) (fun l ih hne h => ?_) l
  have hc := lastOf_lt hne
  obtain ⟨m1, h1⟩ := (ih _ hc).1 fun x hx => h x (List.mem_of_mem_take hx)
  obtain ⟨m2, h2⟩ := (ih _ hc).2 fun x hx => h x (List.mem_of_mem_drop hx)
  have h3 := h _ (getD_mem' hc)
  have h4 := Dn_cut hne
  rw [h1, h2, h3] at h4
  rcases Int.le_total ((m1 : Int) * k) (m2 * k) with h5 | h5
  · exact ⟨m2 + 1, by rw [h4, Int.max_eq_right h5, Zb, Zc, Z0, Z1]⟩
  · exact ⟨m1 + 1, by rw [h4, Int.max_eq_left h5, Zb, Zc, Z0, Z1]⟩
theorem soon_mult {t : List Int} (h : OkT t) {k : Int} (hk : ∀ x ∈ t, x = k) : (minL (ringC t)).tmod k = 0 := by
  have h1 := h.1
  have hne : ringC t ≠ [] := fun e => by have := ringC_len t; rw [e, Qd] at this; omega
  obtain ⟨s, hs⟩ := Zk (minL_mem hne)
  have hsl := getElemLt hs
  rw [ringC_len] at hsl
  rw [ring_get hsl] at hs
  have hs := Zz.inj hs
  obtain ⟨m, hm⟩ := Dn_mult (k := k) (seg t (s + 1) (t.length - 1)) fun x hx => hk x (seg_mem (by omega) x hx)
  rw [← hs, hm, hk _ (getD_mem' hsl)]
  have : (m : Int) * k + k = ((m : Int) + 1) * k := by rw [Z0, Z1]
  rw [this, Int.mul_tmod_left]
def Below (l' l : List Int) : Prop := l'.length = l.length ∧ ∀ i, i < l.length → l'.getD i 0 ≤ l.getD i 0
theorem getD_take {l : List Int} {k i : Nat} (h : i < k) : (l.take k).getD i 0 = l.getD i 0 := by
  simp only [Qa]; rw [Zg h]
theorem getD_drop {l : List Int} {k i : Nat} : (l.drop k).getD i 0 = l.getD (k + i) 0 := by
  simp only [Qa]; rw [Zo]
theorem Below.take {l' l : List Int} (h : Below l' l) (k : Nat) : Below (l'.take k) (l.take k) :=
  ⟨by rw [Zh, Zh, h.1], fun i hi => by
    rw [Zh] at hi
    rw [getD_take (by omega), getD_take (by omega)]; exact h.2 i (by omega)⟩
theorem Below.drop {l' l : List Int} (h : Below l' l) (k : Nat) : Below (l'.drop k) (l.drop k) :=
  ⟨by rw [Q2, Q2, h.1], fun i hi => by
    rw [Q2] at hi
    rw [getD_drop, getD_drop]; exact h.2 _ (by omega)⟩
end Go.C02
set_option maxRecDepth 8000
set_option linter.unusedSimpArgs false
namespace Go.C02
open Go.Fam Go.Proofs
def alikeB (t : List Int) (i : Nat) : Bool := (t.take i).all fun x => decide (x = t.getD 0 0)
theorem alike_step {t : List Int} {i : Nat} {x : Int} (hx : t[i]? = some x) : alikeB t (i + 1) = (alikeB t i && decide (x = t.getD 0 0)) := by
  unfold alikeB
  rw [List.take_succ, hx]
  simp only [Option.toList_some, List.all_append, Qk, Ql, Qx]
theorem can_lens {t b : List Int} (hc : canSewR t b = true) : b.length = t.length ∧ ∀ x ∈ b, 0 ≤ x ∧ x ≤ 1000000 := by
  unfold canSewR at hc
  rw [Qt, allN_eq, Qt, decide_eq_true_eq, Q1] at hc
  refine ⟨hc.1.1, fun x hx => ?_⟩
  have := hc.1.2 x hx
  simp only [within, Qt, decide_eq_true_eq] at this
  exact this
set_option maxRecDepth 20000 in
set_option maxHeartbeats 4000000 in
theorem P5 (f : Fig) (begins : List Int) : PureCall Try.prog 5 [.ag (eFig f), .sl 1 (begins.map eI)] (.b true) := by
  refine pure_body okHB hmix Try.func5 cb5 cc5 cs5 cn5 ?_
  have g1 := b24 f
  have g2 := b25 f
  have g3 := b26 f
  have g4 := b27 f begins
  have g5 := b28 f begins
  have g9 := b17
  cases hf : farRing f with
  | true =>
    simp only [eFig] at g1
    simp only [rc5, rs5, g1, g9, hf, ru_reg, ru_seq, ru_cnd, ru_ret, ru_keep, thenQ, run_nil, run_cons, Fam.step, stepQ, needQ, condB, ug, evO, opv, qv, pickV_bb, pickV_t, binV, ldV, lenV, callV, V.cells, solid, hasRef, hasRefL, flat, upd_some, lkp_cons, lkp_nil, ↓reduceIte, Nat.reduceEqDiff, Nat.reduceAdd, Nat.reduceLT, Nat.reduceLeDiff, Qh, Qm, Qk, Ql, Qf, Qd, Qg, Qy, Qi, endQ, rvs, rv1, resV, vw_i, vw_b, vw_sl, vw_ag, zipA, Qs, Qn, Qx, Qo, Qz, Qe, Qv, true_and, and_true, and_self, false_and, forall_const, false_implies, implies_true, reduceCtorEq, beq_false, imp_self, Qj, eFig]
  | false =>
    have h21 := farRing_ok hf
    obtain ⟨hs, ht⟩ := h21.lens
    by_cases hc : figCheck f = 0
    case neg =>
      simp only [eFig] at g1 g2
      simp only [rc5, rs5, g1, g2, g9, hf, hs, ht, hc, eq_self, ru_reg, ru_seq, ru_cnd, ru_ret, ru_keep, thenQ, run_nil, run_cons, Fam.step, stepQ, needQ, condB, ug, evO, opv, qv, pickV_bb, binV, ldV, lenV, callV, V.cells, solid, hasRef, hasRefL, flat, upd_some, lkp_cons, lkp_nil, ↓reduceIte, Nat.reduceEqDiff, Nat.reduceAdd, Nat.reduceLT, Nat.reduceLeDiff, Qh, Qm, Qk, Ql, Qf, Qd, Qg, Qy, Qi, endQ, rvs, rv1, resV, vw_i, vw_b, vw_sl, vw_ag, zipA, beq_self_eq_true, Qs, Qn, Qx, Qo, Qz, Zl, Qe, Qv, decide_false, and_true, and_self, forall_const, implies_true, reduceCtorEq, beq_false, imp_self, Qj, eFig]
    case pos =>
      by_cases hl60 : (60 : Int) < begins.length
      case pos =>
        simp only [eFig] at g1 g2
        simp only [rc5, rs5, g1, g2, g9, hf, hs, ht, hc, hl60, eq_self, ru_reg, ru_seq, ru_cnd, ru_ret, ru_keep, thenQ, run_nil, run_cons, Fam.step, stepQ, needQ, condB, ug, evO, opv, qv, pickV_bb, binV, ldV, lenV, callV, V.cells, solid, hasRef, hasRefL, flat, upd_some, lkp_cons, lkp_nil, ↓reduceIte, Nat.reduceEqDiff, Nat.reduceAdd, Nat.reduceLT, Nat.reduceLeDiff, Qh, Qm, Qk, Ql, Qf, Qd, Qg, Qy, Qi, endQ, rvs, rv1, resV, vw_i, vw_b, vw_sl, vw_ag, zipA, beq_self_eq_true, Qs, Qn, Qo, Qz, Qe, decide_true, and_self, forall_const, implies_true, reduceCtorEq, Qj, eFig]
      have hT := okT_of hc
      have hbl : begins.length < 10000000 := by omega
      have e1 : soonR f = (minL (ringC f.times), 0) := by unfold soonR; rw [if_neg (by simp [hc]), soon_eq hT]
      rw [e1] at g3
      simp only [eFig, eNE] at g1 g2 g3 g4 g5
      have hT2 := hT.2.1
      have hT1 := hT.1
      have hsb : ∀ i, 0 ≤ (f.times.take i).sum ∧ (f.times.take i).sum ≤ 1584 := fun i => by
        have h1 := sum_le (l := f.times) (fun x hx => by have := (hT.2.2 x hx).1; omega) i
        have h2 := sum_le_mul (l := f.times) (b := 99) fun x hx => (hT.2.2 x hx).2
        omega
      obtain ⟨t0, ht0⟩ : ∃ t0, f.times[0]? = some t0 := ⟨_, Qc (by omega)⟩
      have htb := hT.2.2 t0 (Qw ht0)
      have hd0 : f.times.getD 0 0 = t0 := by rw [Qa, ht0]; rfl
      have hl0 : (0 : Int) < f.times.length := by omega
      simp only [rc5, rs5, g1, g2, g3, hf, hs, ht, hc, hl60, eq_self, ru_skip, ru_reg, ru_seq, ru_cnd, ru_block, ru_keep, thenQ, run_nil, run_cons, Fam.step, stepQ, needQ, condB, ug, evO, opv, qv, pickV_bb, binV, ldV, lenV, callV, V.cells, solid, hasRef, hasRefL, flat, flatL, upd_some, lkp_cons, lkp_nil, ↓reduceIte, Nat.reduceEqDiff, Nat.reduceAdd, Nat.reduceLT, Nat.reduceLeDiff, Qh, Qm, Qk, Ql, Qf, Qd, Qg, Qy, Qi, List.getElem?_cons_zero, List.getElem?_cons_succ, Q3, vw_i, vw_sl, vw_ag, zipA, beq_self_eq_true, Qs, Qn, Qo, Qz, Qe, decide_true, decide_false, true_and, and_self, forall_const, implies_true, reduceCtorEq, Qj, eFig]
      refine ru_count f.times.length (fun i => ⟨lkp [(1, .sl 1 (begins.map eI)), (2, .pa (eFig f)), (5, .i (minL (ringC f.times))), (7, .i (f.times.take i).sum), (8, .b (alikeB f.times i)), (9, .i i)], []⟩) ?_ ?_ ?_
      · simp only [Int.natCast_zero, List.sum_nil, alikeB, kp, lkp_cons, lkp_nil, ↓reduceIte, Nat.reduceEqDiff, Qh, Qm, Ql, List.take_zero, Qa, eFig]
      · intro i hi
        obtain ⟨x, hx⟩ : ∃ x, f.times[i]? = some x := ⟨_, Qc hi⟩
        have hlt : (i : Int) < f.times.length := by omega
        have h3 : inI ((i : Int) + 1) := by unfold inI; omega
        have h5 := hsb (i + 1)
        rw [sum_take hx] at h5
        have h6 : inI ((f.times.take i).sum + x) := by unfold inI; omega
        have h7 := soon_each hT hi
        rw [Qa, hx, Q3] at h7
        have h8 : ¬ minL (ringC f.times) < x := by omega
        cases ha : alikeB f.times i with
        | false => simp only [hx, hlt, h3, h6, h8, ht0, hl0, ha, hd0, sum_take hx, alike_step hx, Zb, Zc, ru_skip, ru_reg, ru_any, ru_seq, ru_cnd, ru_block, ru_keep, putBs, thenQ, blockQ, run_nil, run_cons, Fam.step, stepQ, needQ, condB, ug, runX, eff, nextD, fpR, fpQ, fpV, disjB, hits, evO, opv, qv, pickV_bb, binV, ldV, iadV, lenV, kp, upd_some, lkp_cons, lkp_nil, ↓reduceIte, Nat.reduceEqDiff, Nat.reduceLeDiff, Q6, Int.reduceLE, Qh, Qm, Qk, Ql, Qf, Qd, Qr, Q7, Q5, Zv, Z7, Qi, Zs, Q3, Zw, Zn, Zx, Zp, Qs, Qn, Qx, Z8, Qo, Qz, Zl, Qe, decide_true, decide_false, and_true, and_self, forall_const, implies_true, Q9, List.any_nil, Zt, beq_true, imp_self, Qj, Zu, Qa, Qp, eI, eFig]
        | true => simp only [hx, hlt, h3, h6, h8, ht0, hl0, ha, hd0, sum_take hx, alike_step hx, Zb, Zc, ru_skip, ru_reg, ru_any, ru_seq, ru_cnd, ru_block, ru_keep, putBs, thenQ, blockQ, run_nil, run_cons, Fam.step, stepQ, needQ, condB, ug, runX, eff, nextD, fpR, fpQ, fpV, disjB, hits, evO, opv, qv, pickV_bb, binV, ldV, iadV, lenV, kp, upd_some, lkp_cons, lkp_nil, ↓reduceIte, Nat.reduceEqDiff, Nat.reduceLeDiff, Q6, Int.reduceLE, Qh, Qm, Qk, Ql, Qf, Qd, Qr, Q7, Q5, Zv, Z7, Qi, Zs, Q3, Zw, Zn, Zx, Zp, beq_self_eq_true, Qs, Qn, Qx, Bool.true_and, Z8, Qo, Qz, Zl, Qe, Qv, decide_true, decide_false, and_self, forall_const, implies_true, Q9, List.any_nil, Zt, Qj, Zu, Qa, Qp, eI, eFig]
      · have hsum := soon_sum hT
        have h8 : ¬ f.times.sum < minL (ringC f.times) := by omega
        have hz : t0 ≠ 0 := by omega
        cases ha : alikeB f.times f.times.length with
        | false =>
          cases hcs : canSewR f.times begins with
          | false => simp only [Q8, Q0, h8, hcs, hT, hbl, g4, g9, ru_skip, ru_reg, ru_seq, ru_cnd, ru_exit, ru_ret, ru_keep, thenQ, blockQ, run_nil, run_cons, Fam.step, stepQ, needQ, condB, ug, evO, opv, qv, pickV_bb, pickV_f, binV, ldV, iadV, lenV, callV, hasRef, hasRefL, flat, upd_some, lkp_cons, lkp_nil, ↓reduceIte, Nat.reduceEqDiff, Nat.reduceAdd, Nat.reduceLT, Nat.reduceLeDiff, Q6, Int.reduceLE, Qh, Qm, Qk, Ql, Qf, Qd, Qr, Q7, Qg, Qy, Q5, Qi, endQ, rvs, rv1, resV, vw_i, vw_b, vw_sl, vw_ag, Q0, beq_self_eq_true, Qs, Qn, Qx, Z9, Qo, Qe, decide_false, true_and, and_true, and_self, false_and, forall_const, false_implies, implies_true, ne_eq, beq_true, imp_self, Qj, Qa, Qp, eFig]
          | true =>
            obtain ⟨c1, c2⟩ := can_lens hcs
            have hso := sooner hT hcs
            have h9 : ¬ endF f.times begins begins.length < minL (ringC f.times) := by omega
            have a1 : begins.length ≤ f.times.length := by omega
            have a2 : f.times.length < 100000 := by omega
            have a3 : ∀ x ∈ f.times, tame 1000000 x := fun x hx => by have := hT.2.2 x hx; unfold tame; omega
            have a4 : ∀ x ∈ begins, tame 10000000 x := fun x hx => by have := c2 x hx; unfold tame; omega
            have g5' : HB 28 _ = _ := g5.trans (congrArg (fun p => (p, V.i (endF f.times begins begins.length))) (eq_true ⟨⟨a1, a2⟩, a3, a4⟩))
            simp only [Q8, Q0, h8, h9, hcs, hT, hbl, g4, g5', g9, ru_skip, ru_reg, ru_seq, ru_cnd, ru_exit, ru_ret, ru_keep, thenQ, blockQ, run_nil, run_cons, Fam.step, stepQ, needQ, condB, ug, evO, opv, qv, pickV_bb, pickV_f, binV, ldV, iadV, lenV, callV, hasRef, hasRefL, flat, upd_some, lkp_cons, lkp_nil, ↓reduceIte, Nat.reduceEqDiff, Nat.reduceAdd, Nat.reduceLT, Nat.reduceLeDiff, Q6, Int.reduceLE, Qh, Qm, Qk, Ql, Qf, Qd, Qr, Q7, Qg, Qy, Q5, Qi, endQ, rvs, rv1, resV, vw_i, vw_b, vw_sl, vw_ag, Q0, beq_self_eq_true, Qs, Qn, Qx, Z9, Qo, Qe, Qv, decide_false, true_and, and_true, and_self, false_and, forall_const, implies_true, ne_eq, beq_true, imp_self, Qj, Qa, Qp, eFig]
        | true =>
          have hm : (minL (ringC f.times)).tmod t0 = 0 := soon_mult hT fun x hx => by
            unfold alikeB at ha
            rw [Q8, Q1] at ha
            have := ha x hx
            rw [decide_eq_true_eq, hd0] at this
            exact this
          cases hcs : canSewR f.times begins with
          | false => simp only [Q8, Q0, h8, hcs, hT, hbl, g4, g9, hz, ht0, hl0, hm, ru_skip, ru_reg, ru_seq, ru_cnd, ru_exit, ru_ret, ru_keep, thenQ, blockQ, run_nil, run_cons, Fam.step, stepQ, needQ, condB, ug, evO, opv, qv, pickV_bb, pickV_f, binV, ldV, iadV, lenV, callV, hasRef, hasRefL, flat, upd_some, lkp_cons, lkp_nil, ↓reduceIte, Nat.reduceEqDiff, Nat.reduceAdd, Nat.reduceLT, Nat.reduceLeDiff, Q6, Int.reduceLE, Qh, Qm, Qk, Ql, Qf, Qd, Qr, Q7, Qg, Qy, Q5, Qi, Q3, endQ, rvs, rv1, resV, vw_i, vw_b, vw_sl, vw_ag, Q0, beq_self_eq_true, Qs, Qn, Qx, Qo, Qz, Qe, Qv, decide_true, decide_false, true_and, and_true, and_self, false_and, forall_const, false_implies, implies_true, not_false_eq_true, ne_eq, Q9, beq_true, imp_self, Qj, Qa, Qp, eI, eFig]
          | true =>
            obtain ⟨c1, c2⟩ := can_lens hcs
            have hso := sooner hT hcs
            have h9 : ¬ endF f.times begins begins.length < minL (ringC f.times) := by omega
            have a1 : begins.length ≤ f.times.length := by omega
            have a2 : f.times.length < 100000 := by omega
            have a3 : ∀ x ∈ f.times, tame 1000000 x := fun x hx => by have := hT.2.2 x hx; unfold tame; omega
            have a4 : ∀ x ∈ begins, tame 10000000 x := fun x hx => by have := c2 x hx; unfold tame; omega
            have g5' : HB 28 _ = _ := g5.trans (congrArg (fun p => (p, V.i (endF f.times begins begins.length))) (eq_true ⟨⟨a1, a2⟩, a3, a4⟩))
            simp only [Q8, Q0, h8, h9, hcs, hT, hbl, g4, g5', g9, hz, ht0, hl0, hm, ru_skip, ru_reg, ru_seq, ru_cnd, ru_exit, ru_ret, ru_keep, thenQ, blockQ, run_nil, run_cons, Fam.step, stepQ, needQ, condB, ug, evO, opv, qv, pickV_bb, binV, ldV, iadV, lenV, callV, hasRef, hasRefL, flat, upd_some, lkp_cons, lkp_nil, ↓reduceIte, Nat.reduceEqDiff, Nat.reduceAdd, Nat.reduceLT, Nat.reduceLeDiff, Q6, Int.reduceLE, Qh, Qm, Qk, Ql, Qf, Qd, Qr, Q7, Qg, Qy, Q5, Qi, Q3, endQ, rvs, rv1, resV, vw_i, vw_b, vw_sl, vw_ag, Q0, beq_self_eq_true, Qs, Qn, Qo, Qz, Qe, Qv, decide_true, decide_false, and_self, forall_const, implies_true, not_false_eq_true, ne_eq, Q9, Qj, Qa, Qp, eI, eFig]
end Go.C02
