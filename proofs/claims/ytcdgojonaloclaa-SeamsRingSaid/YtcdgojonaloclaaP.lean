import Derived.Test.YtcdgojonaloclaaG3
import Derived.Test.YtcdgojonaloclaaChecked
import Derived.Test.YtcdgojonaloclaaG9
set_option linter.all false
open List renaming getD_eq_getElem?_getD → Qa, getElem?_eq_getElem → Qc, length_map → Qd, drop_succ_cons → Qe, append_nil → Qf, length_nil → Qi, map_cons → Qj, take_succ_cons → Qk, length_cons → Qm, drop_zero → Qn, getElem?_cons_zero → Qo, getElem?_cons_succ → Qp, map_nil → Qq, headD_cons → Qr, all_cons → Qs, all_nil → Qv, take_nil → Qw, all_eq_true → Qy, length_drop → Q0, set_cons_zero → Q3, length_set → Q5, nil_append → Q6, getElem?_eq_none → Q7, getElem?_map → Za, take_zero → Zb, take_of_length_le → Zc, drop_of_length_le → Zd, length_take → Ze, cons_append → Zf, mem_of_getElem? → Zg, replicate_zero → Zi, mem_range → Zk, set_cons_succ → Zl, getElem?_nil → Zs, contains_nil → Zt, getElem?_take_of_lt → Zv, drop_nil → Zw, isEmpty_nil → Z0, map_append → Z2, getElem?_of_mem → Z4, filter_eq_self → Z5, getElem?_range → Z7, map_congr_left → Z8, getElem?_drop → Xa, contains_cons → Xb, getElem?_set → Xc, ext_getElem? → Xd, isEmpty_cons → Xe, any_nil → Xf, foldl_cons → Xj, sum_append → Xl
open Nat renaming mod_lt → Qb, mod_add_mod → Qh, zero_add → Qt, mod_eq_of_lt → Qz, le_refl → Q9, lt_or_gt_of_ne → Zj, lt_trichotomy → Zp, add_mod_right → Zr, add_assoc → Zu, div_add_mod → Z1, mul_one → Z3, mul_le_mul_left → Z6, strongRecOn → Xi
open Bool renaming false_eq_true → Qg, and_eq_true → Ql, and_self → Qu, or_false → Qx, and_true → Q1, not_true → Q2, true_eq_false → Q4, false_and → Zm, not_false → Zn, true_and → Z9, or_eq_true → Xh, and_false → Xm
open Option renaming getD_some → Zy, getD_none → Zz, map_some → Xk
open Int renaming tmod_eq_emod_of_nonneg → Q8, natCast_add → Zh, toNat_natCast → Zo, le_refl → Zq, natCast_emod → Zx, natCast_one → Xg
set_option maxRecDepth 8000
namespace Go.C02
open Go.Fam Go.Proofs
def rc11 : RC := (.seq (.reg false [(cX 3 0), (cQ 6 [] (.mv (kB false)))]) (.keep [1,2,3] (.seq (.seq (.reg true [(cLd 24 3 true 11), (cQ 25 [24] (.call (kF 16) [(.t 24)])), (cN 26 25), (cMv 27 26), (gMv 28 27 false 1), (gQ 29 27 false [28] (.bin .lss (.t 28) (kI 0))), (cQ 30 [27,29] (.pick (.t 27) (kB true) (.t 29))), (cMv 31 30), (gMv 32 31 false 1), (gQ 33 31 false [32] (.bin .gtr (.t 32) (kI 1000))), (cQ 34 [31,33] (.pick (.t 31) (kB true) (.t 33))), (cMv 35 34), (gMv 36 35 false 2), (gQ 37 35 false [36] (.bin .lss (.t 36) (kI 0))), (cQ 38 [35,37] (.pick (.t 35) (kB true) (.t 37))), (cMv 39 38), (gMv 40 39 false 2), (gQ 41 39 false [3] (.fad 9 (.t 3))), (gQ 42 39 false [41] (.ld false 1 (.t 41))), (gQ 43 39 false [42] (.len (.t 42))), (gQ 44 39 false [40,43] (.bin .geq (.t 40) (.t 43))), (cQ 45 [39,44] (.pick (.t 39) (kB true) (.t 44)))]) (.keep [1,2,3,45] (.cond (.t 45) (.seq (.reg false [(cQ 46 [] (.call (kF 17) [])), (cMv 6 46)]) .ret) .skip))) (.keep [1,2,3] (.seq (.reg false [(cLd 47 3 true 11), (cMv 48 1), (cQ 49 [47,48] (.call (kF 40) [(.t 47), (.t 48)])), ⟨(some 7), none, [], none, .w (.alc [(.z 4), (.z 1), (.i 0), (.z 2), (.z 1), (.i 0), (.i 0), (.i 0), (.i 0), (.z 1), (.z 1)])⟩, ⟨none, none, [7,49], none, .w (.st 11 (.t 7) (.t 49))⟩]) (.keep [1,2,3,7] (.seq (.any false 0 [⟨(cLd 51 3 true 11), [], []⟩, ⟨(cMv 52 2), [], []⟩, ⟨(cMv 53 1), [], []⟩, ⟨(cB 54 .add 52 53), [], [1,2]⟩, ⟨(cFa 55 3 9), [], []⟩, ⟨(cLd 56 55 false 1), [], [4]⟩, ⟨(cLn 57 56), [], [5,4]⟩, ⟨(cB 58 .rem 54 57), [], [3,1,2,6,5,4]⟩, ⟨(cQ 59 [51,58] (.call (kF 38) [(.t 51), (.t 58)])), [], [0,7,3,1,2,6,5,4]⟩, ⟨(cMv 50 59), [], [8,0,7,3,1,2,6,5,4]⟩, ⟨(cEx 60 50 0), [], [9,8,0,7,3,1,2,6,5,4]⟩, ⟨(cEx 61 50 1), [], [9,8,0,7,3,1,2,6,5,4]⟩, ⟨(cMv 8 60), [], [10,9,8,0,7,3,1,2,6,5,4]⟩, ⟨(cMv 9 61), [], [11,9,8,0,7,3,1,2,6,5,4,12,10]⟩]) (.keep [2,3,7,8,9] (.seq (.reg false [(cLd 63 7 true 11), (cMv 64 2), (cQ 65 [63,64] (.call (kF 38) [(.t 63), (.t 64)])), (cMv 62 65), (cEx 66 62 0), (cEx 67 62 1), (cMv 10 66), (cMv 11 67)]) (.keep [3,7,8,9,10,11] (.seq (.reg false [(cLd 69 3 true 11), (cQ 70 [69] (.call (kF 18) [(.t 69)])), (cMv 68 70), (cEx 71 68 0), (cEx 72 68 1), (cMv 12 71), (cMv 13 72)]) (.keep [3,7,8,9,10,11,12,13] (.seq (.reg false [(cLd 74 7 true 11), (cQ 75 [74] (.call (kF 18) [(.t 74)])), (cMv 73 75), (cEx 76 73 0), (cEx 77 73 1), (cMv 14 76), (cMv 15 77)]) (.keep [3,7,8,9,10,11,12,13,14,15] (.seq (.reg false [(cLd 79 3 true 11), (cQ 80 [79] (.call (kF 22) [(.t 79)])), (cMv 78 80), (cEx 81 78 0), (cEx 82 78 1), (cMv 16 81), (cMv 17 82)]) (.keep [3,7,8,9,10,11,12,13,14,15,16,17] (.seq (.reg false [(cLd 84 7 true 11), (cQ 85 [84] (.call (kF 22) [(.t 84)])), (cMv 83 85), (cEx 86 83 0), (cEx 87 83 1), (cMv 18 86), (cMv 19 87)]) (.keep [3,7,8,9,10,11,12,13,14,15,16,17,18,19] (.seq (.reg false [(cLd 89 3 true 11), (cQ 90 [89] (.call (kF 26) [(.t 89)])), (cMv 88 90), (cEx 91 88 0), (cEx 92 88 1), (cMv 20 91), (cMv 21 92)]) (.keep [7,8,9,10,11,12,13,14,15,16,17,18,19,20,21] (.seq (.reg false [(cLd 94 7 true 11), (cQ 95 [94] (.call (kF 26) [(.t 94)])), (cMv 93 95), (cEx 96 93 0), (cEx 97 93 1), (cMv 22 96), (cMv 23 97)]) (.keep [8,9,10,11,12,13,14,15,16,17,18,19,20,21,22,23] (.seq (.reg true [(cMv 98 8), (cMv 99 10), (cB 100 .eql 98 99), (cMv 101 100), (gMv 102 101 true 9), (gMv 103 101 true 11), (gQ 104 101 true [102,103] (.bin .eql (.t 102) (.t 103))), (cQ 105 [101,104] (.pick (.t 101) (.t 104) (kB false))), (cMv 106 105), (gMv 107 106 true 12), (gMv 108 106 true 14), (gQ 109 106 true [107,108] (.bin .eql (.t 107) (.t 108))), (cQ 110 [106,109] (.pick (.t 106) (.t 109) (kB false))), (cMv 111 110), (gMv 112 111 true 13), (gMv 113 111 true 15), (gQ 114 111 true [112,113] (.bin .eql (.t 112) (.t 113))), (cQ 115 [111,114] (.pick (.t 111) (.t 114) (kB false))), (cMv 116 115), (gMv 117 116 true 16), (gMv 118 116 true 18), (gQ 119 116 true [117,118] (.bin .eql (.t 117) (.t 118))), (cQ 120 [116,119] (.pick (.t 116) (.t 119) (kB false))), (cMv 121 120), (gMv 122 121 true 17), (gMv 123 121 true 19), (gQ 124 121 true [122,123] (.bin .eql (.t 122) (.t 123))), (cQ 125 [121,124] (.pick (.t 121) (.t 124) (kB false))), (cMv 126 125), (gMv 127 126 true 20), (gMv 128 126 true 22), (gQ 129 126 true [127,128] (.bin .eql (.t 127) (.t 128))), (cQ 130 [126,129] (.pick (.t 126) (.t 129) (kB false))), (cMv 131 130), (gMv 132 131 true 21), (gMv 133 131 true 23), (gQ 134 131 true [132,133] (.bin .eql (.t 132) (.t 133))), (cQ 135 [131,134] (.pick (.t 131) (.t 134) (kB false))), (cMv 136 135), (gQ 137 136 true [] (.call (kF 17) [])), (cQ 138 [136,137] (.pick (.t 136) (.t 137) (kB false))), (cMv 6 138)]) .ret)))))))))))))))))))))))
def pu11 : List Nat := [3]
def rs11 : List RV := [.t 6]
theorem cc11 : comp Try.prog pu11 (Try.f11.ntmps, 0) 0 1 rc11 (Try.f11.body.getD .skip) = some rc11 := by kernel_rfl
theorem cb11 : Try.f11.body = some (Try.f11.body.getD .skip) := by kernel_rfl
theorem cs11 : resRV Try.prog Try.f11.results.toList = some rs11 := by kernel_rfl
theorem cn11 : 3 ≤ Try.f11.ntmps := by decide
end Go.C02
set_option linter.unusedSimpArgs false
set_option linter.unusedVariables false
namespace Go.C02
open Go.Fam Go.Proofs
section
variable (f : Fig) (l k : List Int) (n : Int)
theorem b18 : HB 18 [.ag (eFig f)] = (True, eNE (leastR f)) := y18 f
theorem b22 : HB 22 [.ag (eFig f)] = (True, eNE (closestR f)) := y22 f
theorem b26 : HB 26 [.ag (eFig f)] = (True, eNE (soonR f)) := y26 f
theorem b38 : HB 38 [.ag (eFig f), .i n] = (f.dome.gores.length < 1000000, eNE (meetsR f n)) := y38 f n
theorem b16 : HB 16 [.ag (eFig f)] = (True, .b (readyF f)) :=
 (show HB 16 _ = fnG (fun f => [.ag (eFig f)]) decF (fun _ => True) readyF .b [.ag (eFig f)] from rfl).trans (fnG_at _ (dFig_e _))
end
end Go.C02
set_option maxRecDepth 8000
namespace Go.C02.N
open Go.Fam Go.Proofs
end Go.C02.N
set_option linter.unusedSimpArgs false
set_option linter.unusedVariables false
namespace Go.C02
open Go.Fam Go.Proofs
theorem ownN_get {f : Fig} (h : figCheck f = 0) {i : Nat} (hi : i < f.starts.length) :
  ownN (ringOf f) i = meetsN f.period (movesAt (ringOf f) i) (modN (f.starts.getD ((i + 1) % f.starts.length) 0 - f.starts.getD i 0) f.period) f.near := by
 have hns := (validF_of h).ns
 have hml : (ringOf f).moves.length = f.starts.length := by rw [hns]; simp [ringOf]
 have e1 : ((i : Int) + 1).tmod f.starts.length = (((i + 1) % f.starts.length : Nat) : Int) := by
  rw [Q8 (by omega), Zx]; simp only [Zh, Xg]
 unfold ownN
 rw [hml, e1]
 have hs : ∀ k : Nat, startAt f (k : Nat) = f.starts.getD k 0 := fun k => by unfold startAt; rw [Zo, Qa]
 show meetsN f.period _ (modN (startAt f _ - startAt f _) f.period) f.near = _
 rw [hs, hs]
theorem least_cases {f : Fig} (h : openE f true = 0) : (leastR f = (0, 3) ∧ ∀ l, ¬ NB (ringOf f) f.near l) ∨ (∃ l, NB (ringOf f) f.near l ∧ leastR f = (l.sum, 0) ∧ 0 ≤ l.sum ∧ ∀ l', NB (ringOf f) f.near l' → l.sum ≤ l'.sum) := by
 obtain ⟨h1, _, _⟩ := openE_ok h
 have hb := fun l => begs_iff (okR_of h1) f.near l
 unfold leastR
 rw [if_pos h]
 rcases leastV_spec h1 with ⟨e, hno⟩ | ⟨l, hl, e, h0, hmin⟩
 ·have : BestOf (Begs (ringOf f) f.near) none := fun l hl => hno l ((hb l).1 hl)
  rw [leastB_eq this]
  exact .inl ⟨rfl, hno⟩
 ·have : BestOf (Begs (ringOf f) f.near) (some l) := ⟨(hb l).2 hl, fun l' hl' => hmin l' ((hb l').1 hl')⟩
  rw [leastB_eq this]
  exact .inr ⟨l, hl, rfl, h0, hmin⟩
end Go.C02
set_option linter.unusedSimpArgs false
set_option linter.unusedVariables false
namespace Go.C02
open Go.Fam Go.Proofs
end Go.C02
set_option linter.unusedSimpArgs false
set_option linter.unusedVariables false
namespace Go.C02
open Go.Fam Go.Proofs
theorem good_all {p : Int} {ms : List Int} {later near : Int} : goodN p ms later near = ms.length ↔ ∀ x ∈ ms, farN p x later ≤ near := by
 unfold goodN
 constructor
 ·intro h x hx
  have := Z5.1 (List.Sublist.eq_of_length List.filter_sublist h) x hx
  simpa using this
 ·intro h
  rw [Z5.2 fun x hx => decide_eq_true (h x hx)]
theorem meets_mono {p : Int} {ms : List Int} {later near near' : Int} (h : meetsN p ms later near = 1) (hn : near ≤ near') : meetsN p ms later near' = 1 := by
 rw [meets_one, good_all] at h ⊢
 intro x hx
 have := h x hx
 omega
theorem nb_mono {r : Ring} {near near' : Int} (hn : near ≤ near') {l : List Int} (h : NB r near l) : NB r near' l :=
 ⟨h.len, h.in_, fun i hi => meets_mono (h.meet i hi) hn⟩
theorem closest_iff {r : Ring} (h : OkR r) {near : Int} (h0 : 0 ≤ near) : (∃ l, NB r near l) ↔ (closestN r : Int) ≤ near := by
 obtain ⟨c1, c2, c3⟩ := closestN_spec h
 constructor
 ·intro hx
  rw [← closed_iff h near, ← closedB_iff] at hx
  refine Classical.byContradiction fun hn => ?_
  have := c3 near.toNat (by omega)
  rw [show ((near.toNat : Nat) : Int) = near by omega, hx] at this
  cases this
 ·intro hx
  rw [closedB_iff, closed_iff h] at c2
  obtain ⟨l, hl⟩ := c2
  exact ⟨l, nb_mono hx hl⟩
end Go.C02
set_option linter.unusedSimpArgs false
set_option linter.unusedVariables false
namespace Go.C02
open Go.Fam Go.Proofs
theorem fl_I (l : List Int) : (l.map eI).flatten = l.map V.i := by
 induction l with
 | nil => rfl
 | cons a l ih => rw [Qj, List.flatten_cons, ih]; rfl
theorem nr_i (o : List Int) : hasRefL (o.map V.i) = false := by induction o <;> simp_all [hasRefL, hasRef]
end Go.C02
set_option linter.unusedSimpArgs false
set_option linter.unusedVariables false
namespace Go.C02
open Go.Fam Go.Proofs
inductive Sch (t : List Int) (b : Nat → Int) : Nat → Nat → Int → Prop
 | nil (f : Nat) : Sch t b f 0 0
 | cut (f c k : Nat) (D1 D2 : Int) (hk : k < c) (h1 : Sch t b f k D1) (h2 : Sch t b (f + k + 1) (c - k - 1) D2) (hb : b (f + k) = max D1 D2) : Sch t b f c (max D1 D2 + t.getD ((f + k) % t.length) 0)
theorem Sch.congr {t : List Int} {b b' : Nat → Int} {f c : Nat} {D : Int} (h : Sch t b f c D) : (∀ q, f ≤ q → q < f + c → b q = b' q) → Sch t b' f c D := by
 induction h with
 | nil f => intro _; exact .nil f
 | cut f c k D1 D2 hk h1 h2 hb ih1 ih2 =>
  intro he
  exact .cut f c k D1 D2 hk (ih1 fun q h3 h4 => he q h3 (by omega)) (ih2 fun q h3 h4 => he q (by omega) (by omega)) (by rw [← he _ (by omega) (by omega)]; exact hb)
theorem Sch.in_ {t : List Int} (ht : ∀ x ∈ t, 1 ≤ x) (hn : 0 < t.length) {b : Nat → Int} {f c : Nat} {D : Int} (h : Sch t b f c D) : 0 ≤ D ∧ ∀ q, f ≤ q → q < f + c → 0 ≤ b q ∧ b q + t.getD (q % t.length) 0 ≤ D := by
 induction h with
 | nil f => exact ⟨by omega, fun q h1 h2 => by omega⟩
 | cut f c k D1 D2 hk h1 h2 hb ih1 ih2 =>
  obtain ⟨a1, a2⟩ := ih1
  obtain ⟨b1, b2⟩ := ih2
  have hx := getD_in (P := fun x => 1 ≤ x) (Qb (f + k) hn) ht
  refine ⟨by omega, fun q h3 h4 => ?_⟩
  rcases Zp q (f + k) with h | h | h
  ·have := a2 q h3 (by omega); omega
  ·subst h
   rw [hb]
   have := Zq (max D1 D2 + t.getD ((f + k) % t.length) 0)
   omega
  ·have := b2 q (by omega) (by omega); omega
theorem Sch.apart {t : List Int} (ht : ∀ x ∈ t, 1 ≤ x) (hn : 0 < t.length) {b : Nat → Int} {f c : Nat} {D : Int} (h : Sch t b f c D) : ∀ q, f ≤ q → q < f + c → ∃ lo hi, (f ≤ lo ∧ lo ≤ q ∧ q < hi ∧ hi ≤ f + c) ∧
  (lo = f ∨ b q < b (lo - 1) + t.getD ((lo - 1) % t.length) 0 ∧ b q + t.getD (q % t.length) 0 ≤ b (lo - 1)) ∧ (hi = f + c ∨ b q < b hi + t.getD (hi % t.length) 0 ∧ b q + t.getD (q % t.length) 0 ≤ b hi) ∧
  ∀ q', f ≤ q' → q' < f + c → q' ≠ q → (lo ≤ q' ∧ q' < hi → b q' + t.getD (q' % t.length) 0 ≤ b q) := by
 induction h with
 | nil f => intro q h1 h2; omega
 | cut f c k D1 D2 hk h1 h2 hb ih1 ih2 =>
  intro q h3 h4
  have i1 := h1.in_ ht hn
  have i2 := h2.in_ ht hn
  rcases Zp q (f + k) with h | h | h
  ·obtain ⟨lo, hi, hr, hl, hh, hin⟩ := ih1 q h3 h
   have hq := i1.2 q h3 h
   have htq := getD_in (P := fun x => 1 ≤ x) (Qb q hn) ht
   have htk := getD_in (P := fun x => 1 ≤ x) (Qb (f + k) hn) ht
   refine ⟨lo, hi, by omega, hl, ?_, fun q' h5 h6 hne h7 => hin q' h5 (by omega) hne h7⟩
   right
   rcases hh with hh | hh
   ·subst hh; rw [hb]; omega
   ·exact hh
  ·subst h
   refine ⟨f, f + c, by omega, .inl rfl, .inl rfl, fun q' h5 h6 hne _ => ?_⟩
   rw [hb]
   rcases Zj hne with h7 | h7
   ·have := i1.2 q' h5 h7; omega
   ·have := i2.2 q' (by omega) (by omega); omega
  ·obtain ⟨lo, hi, hr, hl, hh, hin⟩ := ih2 q (by omega) (by omega)
   have hq := i2.2 q (by omega) (by omega)
   have htq := getD_in (P := fun x => 1 ≤ x) (Qb q hn) ht
   have htk := getD_in (P := fun x => 1 ≤ x) (Qb (f + k) hn) ht
   refine ⟨lo, hi, by omega, ?_, ?_, fun q' h5 h6 hne h7 => hin q' (by omega) (by omega) hne h7⟩
   ·right
    rcases hl with hl | hl
    ·subst hl
     rw [show f + k + 1 - 1 = f + k by omega, hb]; omega
    ·exact hl
   ·rcases hh with hh | hh
    ·left; omega
    ·exact .inr hh
def atB (t out : List Int) (q : Nat) : Int := out.getD (q % t.length) 0
theorem getD_set {l : List Int} {i j : Nat} {v : Int} (hi : i < l.length) : (l.set i v).getD j 0 = if j = i then v else l.getD j 0 := by
 simp only [Qa, Xc]
 by_cases h : i = j
 ·subst h; simp [hi]
 ·rw [if_neg h, if_neg (fun e => h e.symm)]
theorem mod_inj {n f q q' : Nat} (h1 : f ≤ q ∧ q < f + n) (h2 : f ≤ q' ∧ q' < f + n) (h : q % n = q' % n) : q = q' := by
 have hn : 0 < n := by omega
 have a1 := Z1 q n
 have a2 := Z1 q' n
 rcases Zp (q / n) (q' / n) with e | e | e
 ·have : n * (q / n + 1) ≤ n * (q' / n) := Z6 n e
  rw [Nat.mul_add, Z3] at this; omega
 ·rw [e] at a1; omega
 ·have : n * (q' / n + 1) ≤ n * (q / n) := Z6 n e
  rw [Nat.mul_add, Z3] at this; omega
theorem begF_out {t : List Int} (hn : 0 < t.length) : ∀ (k f c : Nat) (out : List Int), out.length = t.length → c ≤ t.length → ∀ j, j < t.length → (∀ q, f ≤ q → q < f + c → q % t.length ≠ j) → (begF k t (f % t.length) c out).getD j 0 = out.getD j 0 := by
 intro k
 induction k with
 | zero => intros; rfl
 | succ k ih =>
  intro f c out ho hc j hj hne
  simp only [begF]
  split
  ·rfl
  ·rename_i h0
   rw [seg_mod]
   obtain ⟨b, hb⟩ : ∃ b, b = lastOf (seg t f c) := ⟨_, rfl⟩
   rw [← hb]
   have hbc : b < c := by rw [hb]; exact last_lt h0
   have e1 : (f % t.length + b) % t.length = (f + b) % t.length := Qh _ _ _
   have e2 : (f % t.length + b + 1) % t.length = (f + b + 1) % t.length := by rw [Zu, Qh, Zu]
   rw [e1, e2]
   have hlen : (begF k t (f % t.length) b (out.set ((f + b) % t.length) (max (Dn (seg t (f % t.length) b)) (Dn (seg t ((f + b + 1) % t.length) (c - b - 1)))))).length = t.length := by rw [begF_len, Q5, ho]
   rw [ih (f + b + 1) (c - b - 1) _ hlen (by omega) j hj fun q h1 h2 => hne q (by omega) (by omega)]
   rw [ih f b _ (by rw [Q5, ho]) (by omega) j hj fun q h1 h2 => hne q h1 (by omega)]
   rw [getD_set (by rw [ho]; exact Qb _ hn), if_neg (fun e => hne (f + b) (by omega) (by omega) e.symm)]
theorem begF_sch {t : List Int} (hn : 0 < t.length) : ∀ (k f c : Nat) (out : List Int), out.length = t.length → c ≤ t.length → c ≤ k → Sch t (atB t (begF k t (f % t.length) c out)) f c (Dn (seg t f c)) := by
 intro k
 induction k with
 | zero =>
  intro f c out ho hc hk
  have : c = 0 := by omega
  subst this
  exact .nil f
 | succ k ih =>
  intro f c out ho hc hk
  by_cases h0 : c = 0
  ·subst h0; exact .nil f
  ·simp only [begF, if_neg h0]
   rw [seg_mod]
   obtain ⟨b, hb⟩ : ∃ b, b = lastOf (seg t f c) := ⟨_, rfl⟩
   rw [← hb]
   have hbc : b < c := by rw [hb]; exact last_lt h0
   have e1 : (f % t.length + b) % t.length = (f + b) % t.length := Qh _ _ _
   have e2 : (f % t.length + b + 1) % t.length = (f + b + 1) % t.length := by rw [Zu, Qh, Zu]
   rw [e1, e2, seg_mod, seg_mod]
   obtain ⟨v, hv⟩ : ∃ v, v = max (Dn (seg t f b)) (Dn (seg t (f + b + 1) (c - b - 1))) := ⟨_, rfl⟩
   rw [← hv]
   obtain ⟨o1, ho1⟩ : ∃ o1, o1 = begF k t (f % t.length) b (out.set ((f + b) % t.length) v) := ⟨_, rfl⟩
   have ho1l : o1.length = t.length := by rw [ho1, begF_len, Q5, ho]
   rw [← ho1]
   have hne : seg t f c ≠ [] := fun e => h0 (by rw [← seg_len t f c, e]; rfl)
   have hD := Dn_cut hne
   rw [← hb, seg_take (Nat.le_of_lt hbc), seg_get hbc, seg_drop, seg_mod, ← hv] at hD
   rw [hD, hv]
   have s1 := ih f b (out.set ((f + b) % t.length) v) (by rw [Q5, ho]) (by omega) (by omega)
   rw [← ho1] at s1
   have s2 := ih (f + b + 1) (c - b - 1) o1 ho1l (by omega) (by omega)
   have hrest : ∀ q, f ≤ q → q ≤ f + b → atB t (begF k t ((f + b + 1) % t.length) (c - b - 1) o1) q = atB t o1 q := fun q h1 h2 => by
    unfold atB
    refine begF_out hn k (f + b + 1) (c - b - 1) o1 ho1l (by omega) _ (Qb _ hn) fun q' h3 h4 e => ?_
    have := mod_inj (n := t.length) (f := f) (q := q') (q' := q) (by omega) (by omega) e
    omega
   refine .cut f c b _ _ hbc (s1.congr fun q h1 h2 => (hrest q h1 (by omega)).symm) s2 ?_
   rw [hrest _ (by omega) (by omega), ← hv, ho1]
   unfold atB
   rw [begF_out hn k f b _ (by rw [Q5, ho]) (by omega) _ (Qb _ hn) fun q' h3 h4 e => by
    have := mod_inj (n := t.length) (f := f) (q := q') (q' := f + b) (by omega) (by omega) e
    omega]
   rw [getD_set (by rw [ho]; exact Qb _ hn), if_pos rfl]
end Go.C02
set_option linter.unusedSimpArgs false
set_option linter.unusedVariables false
namespace Go.C02
open Go.Fam Go.Proofs
theorem getDB_set {l : List Bool} {i j : Nat} {v : Bool} (hi : i < l.length) : (l.set i v).getD j false = if j = i then v else l.getD j false := by
 simp only [Qa, Xc]
 by_cases h : i = j
 ·subst h; simp [hi]
 ·rw [if_neg h, if_neg (fun e => h e.symm)]
theorem occ1_get {t b : List Int} {seam : Nat} {out : List Bool} {i g : Nat} (hl : out.length = b.length) (hi : i < b.length) :
  (occ1 t b seam out i).getD g false = true ↔ out.getD g false = true ∨ ((b.getD i 0 + t.getD i 0 ≤ b.getD seam 0 ∧ (out.getD i false = true ∨ out.getD ((i + 1) % b.length) false = true)) ∧ (g = i ∨ g = (i + 1) % b.length)) := by
 unfold occ1
 have hn : (i + 1) % b.length < b.length := Qb _ (by omega)
 split
 ·rename_i h
  rw [getDB_set (by rw [Q5]; omega), getDB_set (by omega)]
  by_cases h1 : g = (i + 1) % b.length
  ·rw [if_pos h1]
   exact ⟨fun _ => .inr ⟨h, .inr h1⟩, fun _ => rfl⟩
  ·rw [if_neg h1]
   by_cases h2 : g = i
   ·rw [if_pos h2]
    exact ⟨fun _ => .inr ⟨h, .inl h2⟩, fun _ => rfl⟩
   ·rw [if_neg h2]
    exact ⟨.inl, fun h' => h'.resolve_right fun h'' => h''.2.elim h2 h1⟩
 ·rename_i h
  constructor
  ·exact .inl
  ·rintro (h' | ⟨h', _⟩)
   ·exact h'
   ·exact absurd h' h
theorem occR_mono {t b : List Int} {seam : Nat} {out : List Bool} (hl : out.length = b.length) {g : Nat} (hg : out.getD g false = true) : ∀ j, j ≤ b.length → (occR t b seam out j).getD g false = true := by
 intro j
 induction j with
 | zero => intro _; exact hg
 | succ j ih =>
  intro hj
  rw [occR_succ, occ1_get (by rw [occR_len, hl]) (by omega)]
  exact .inl (ih (by omega))
theorem occR_step {t b : List Int} {seam : Nat} {out : List Bool} (hl : out.length = b.length) {i : Nat} (hi : i < b.length) (he : b.getD i 0 + t.getD i 0 ≤ b.getD seam 0) (ho : out.getD i false = true ∨ out.getD ((i + 1) % b.length) false = true) :
  (occR t b seam out b.length).getD i false = true ∧ (occR t b seam out b.length).getD ((i + 1) % b.length) false = true := by
 have key : ∀ j, i < j → j ≤ b.length → (occR t b seam out j).getD i false = true ∧ (occR t b seam out j).getD ((i + 1) % b.length) false = true := by
  intro j
  induction j with
  | zero => intro h; omega
  | succ j ih =>
   intro h1 h2
   rw [occR_succ, occ1_get (by rw [occR_len, hl]) (by omega), occ1_get (by rw [occR_len, hl]) (by omega)]
   by_cases e : i = j
   ·subst e
    have := ho.imp (fun h => occR_mono (t := t) (seam := seam) hl h i (by omega)) (fun h => occR_mono (t := t) (seam := seam) hl h i (by omega))
    exact ⟨.inr ⟨⟨he, this⟩, .inl rfl⟩, .inr ⟨⟨he, this⟩, .inr rfl⟩⟩
   ·obtain ⟨k1, k2⟩ := ih (by omega) (by omega)
    exact ⟨.inl k1, .inl k2⟩
 exact key b.length hi (Q9 _)
theorem occI_mono {t b : List Int} {seam g k : Nat} (hg : (occI t b seam k).getD g false = true) : ∀ j, k ≤ j → (occI t b seam j).getD g false = true := by
  intro j hj
  induction j with
  | zero => have : k = 0 := by omega
            subst this; exact hg
  | succ j ih =>
    by_cases e : k = j + 1
    · subst e; exact hg
    · exact occR_mono (occI_len _ _ _ _) (ih (by omega)) _ (Q9 _)
theorem occI_start {t b : List Int} {seam : Nat} (hs : seam < b.length) (k : Nat) : (occI t b seam k).getD seam false = true ∧ (occI t b seam k).getD ((seam + 1) % b.length) false = true := by
 have hn : (seam + 1) % b.length < b.length := Qb _ (by omega)
 have h0 : (occI t b seam 0).getD seam false = true ∧ (occI t b seam 0).getD ((seam + 1) % b.length) false = true := by
  unfold occI occ0
  constructor
  ·rw [getDB_set (by simp; omega), getDB_set (by simp; omega)]
   split <;> simp
  ·rw [getDB_set (by simp; omega), if_pos rfl]
 exact ⟨occI_mono h0.1 k (Nat.zero_le _), occI_mono h0.2 k (Nat.zero_le _)⟩
theorem occ_right {t b : List Int} {q : Nat} (hn : 0 < b.length) : ∀ r, r < b.length → (∀ j, 1 ≤ j → j ≤ r → b.getD ((q + j) % b.length) 0 + t.getD ((q + j) % b.length) 0 ≤ b.getD (q % b.length) 0) → (occI t b (q % b.length) r).getD ((q + r + 1) % b.length) false = true := by
 intro r
 induction r with
 | zero =>
  intro _ _
  have := (occI_start (t := t) (b := b) (seam := q % b.length) (Qb _ hn) 0).2
  rwa [Qh] at this
 | succ r ih =>
  intro hr he
  have h1 := ih (by omega) fun j h1 h2 => he j h1 (by omega)
  have := (occR_step (t := t) (b := b) (seam := q % b.length) (out := occI t b (q % b.length) r) (i := (q + (r + 1)) % b.length) (occI_len _ _ _ _) (Qb _ hn) (he (r + 1) (by omega) (Q9 _)) (.inl h1)).2
  rw [Qh] at this
  exact this
theorem occ_left {t b : List Int} {q : Nat} (hn : 0 < b.length) : ∀ r, r < b.length → r ≤ q → (∀ j, 1 ≤ j → j ≤ r → b.getD ((q - j) % b.length) 0 + t.getD ((q - j) % b.length) 0 ≤ b.getD (q % b.length) 0) → (occI t b (q % b.length) r).getD ((q - r) % b.length) false = true := by
 intro r
 induction r with
 | zero =>
  intro _ _ _
  exact (occI_start (t := t) (b := b) (seam := q % b.length) (Qb _ hn) 0).1
 | succ r ih =>
  intro hr hq he
  have h1 := ih (by omega) (by omega) fun j h1 h2 => he j h1 (by omega)
  have e1 : ((q - (r + 1)) % b.length + 1) % b.length = (q - r) % b.length := by rw [Qh, show q - (r + 1) + 1 = q - r by omega]
  exact (occR_step (t := t) (b := b) (seam := q % b.length) (out := occI t b (q % b.length) r) (i := (q - (r + 1)) % b.length) (occI_len _ _ _ _) (Qb _ hn) (he (r + 1) (by omega) (Q9 _)) (.inr (by rw [e1]; exact h1))).1
theorem no_clash {t b : List Int} (hc : canSewR t b = true) {x y : Nat} (hx : x < b.length) (hy : y < b.length) (hne : x ≠ y) (h1 : ¬ b.getD x 0 + t.getD x 0 ≤ b.getD y 0) (h2 : ¬ b.getD y 0 + t.getD y 0 ≤ b.getD x 0) (g : Nat) (hg : g < b.length) : ¬ ((occN t b x).getD g false = true ∧ (occN t b y).getD g false = true) := by
 unfold canSewR at hc
 rw [Ql, Qy] at hc
 have key : ∀ a c, a < b.length → c < a → ¬ b.getD a 0 + t.getD a 0 ≤ b.getD c 0 → ¬ b.getD c 0 + t.getD c 0 ≤ b.getD a 0 → ¬ ((occN t b a).getD g false = true ∧ (occN t b c).getD g false = true) := by
  intro a c ha hca k1 k2 k3
  have := Qy.1 (hc.2 a (Zk.2 ha)) c (Zk.2 hca)
  unfold noClash at this
  rw [Xh, Xh, decide_eq_true_eq, decide_eq_true_eq, Qy] at this
  rcases this with (h | h) | h
  ·exact k2 h
  ·exact k1 h
  ·have := h g (Zk.2 hg)
   rw [k3.1, k3.2] at this
   cases this
 rcases Zj hne with h | h
 ·exact fun hh => key y x hy h h2 h1 ⟨hh.2, hh.1⟩
 ·exact key x y hx h h1 h2
theorem last_ended {t b : List Int} (ht : ∀ x ∈ t, 1 ≤ x) (hbt : b.length = t.length) (hc : canSewR t b = true) {f c q0 : Nat} (hcn : c ≤ b.length) (h0 : f ≤ q0 ∧ q0 < f + c) (hmax : ∀ q, f ≤ q → q < f + c → b.getD (q % b.length) 0 ≤ b.getD (q0 % b.length) 0) :
  ∀ q, f ≤ q → q < f + c → q ≠ q0 → b.getD (q % b.length) 0 + t.getD (q % b.length) 0 ≤ b.getD (q0 % b.length) 0 := by
 have hn : 0 < b.length := by omega
 have htp : ∀ q, 1 ≤ t.getD (q % b.length) 0 := fun q => getD_in (P := fun x => 1 ≤ x) (by rw [← hbt]; exact Qb _ hn) ht
 have right : ∀ r, q0 + r < f + c → 1 ≤ r → b.getD ((q0 + r) % b.length) 0 + t.getD ((q0 + r) % b.length) 0 ≤ b.getD (q0 % b.length) 0 := by
  intro r
  induction r using Xi with
  | _ r ih =>
   intro h1 h2
   refine Classical.byContradiction fun hne => ?_
   have hocc := occ_right (t := t) (b := b) (q := q0) hn (r - 1) (by omega) fun j hj1 hj2 => ih j (by omega) (by omega) hj1
   rw [show q0 + (r - 1) + 1 = q0 + r by omega] at hocc
   have hocc := occI_mono hocc b.length (by omega)
   have hself := (occI_start (t := t) (b := b) (seam := (q0 + r) % b.length) (Qb _ hn) b.length).1
   have hm := hmax (q0 + r) (by omega) h1
   have hp := htp q0
   exact no_clash hc (x := (q0 + r) % b.length) (y := q0 % b.length) (Qb _ hn) (Qb _ hn) (fun e => by
    have := mod_inj (n := b.length) (f := f) (q := q0 + r) (q' := q0) (by omega) (by omega) e; omega) hne (by omega) _ (Qb _ hn) ⟨hself, hocc⟩
 have left : ∀ r, r ≤ q0 → f ≤ q0 - r → 1 ≤ r → b.getD ((q0 - r) % b.length) 0 + t.getD ((q0 - r) % b.length) 0 ≤ b.getD (q0 % b.length) 0 := by
  intro r
  induction r using Xi with
  | _ r ih =>
   intro h0' h1 h2
   refine Classical.byContradiction fun hne => ?_
   have hocc := occ_left (t := t) (b := b) (q := q0) hn (r - 1) (by omega) (by omega) fun j hj1 hj2 => ih j (by omega) (by omega) (by omega) hj1
   have hocc := occI_mono hocc b.length (by omega)
   have hself := (occI_start (t := t) (b := b) (seam := (q0 - r) % b.length) (Qb _ hn) b.length).2
   rw [Qh, show q0 - r + 1 = q0 - (r - 1) by omega] at hself
   have hm := hmax (q0 - r) (by omega) (by omega)
   have hp := htp q0
   exact no_clash hc (x := (q0 - r) % b.length) (y := q0 % b.length) (Qb _ hn) (Qb _ hn) (fun e => by
    have := mod_inj (n := b.length) (f := f) (q := q0 - r) (q' := q0) (by omega) (by omega) e; omega) hne (by omega) _ (Qb _ hn) ⟨hself, hocc⟩
 intro q h1 h2 h3
 rcases Zj h3 with h | h
 ·have := left (q0 - q) (by omega) (by omega) (by omega)
  rwa [show q0 - (q0 - q) = q by omega] at this
 ·have := right (q - q0) (by omega) (by omega)
  rwa [show q0 + (q - q0) = q by omega] at this
theorem exists_max (g : Nat → Int) : ∀ (c f : Nat), 0 < c → ∃ q0, (f ≤ q0 ∧ q0 < f + c) ∧ ∀ q, f ≤ q → q < f + c → g q ≤ g q0 := by
  intro c
  induction c with
  | zero => intro f h; omega
  | succ c ih =>
    intro f _
    by_cases h0 : c = 0
    · subst h0
      exact ⟨f, by omega, fun q h1 h2 => by have : q = f := by omega
                                            rw [this]; exact Zq _⟩
    · obtain ⟨q0, h1, h2⟩ := ih f (by omega)
      by_cases h : g q0 ≤ g (f + c)
      · refine ⟨f + c, by omega, fun q h3 h4 => ?_⟩
        by_cases e : q = f + c
        · rw [e]; exact Zq _
        · have := h2 q h3 (by omega); omega
      · refine ⟨q0, by omega, fun q h3 h4 => ?_⟩
        by_cases e : q = f + c
        · rw [e]; omega
        · exact h2 q h3 (by omega)
theorem row_lower {t b : List Int} (ht : ∀ x ∈ t, 1 ≤ x) (hb0 : ∀ x ∈ b, 0 ≤ x) (hbt : b.length = t.length) (hc : canSewR t b = true) : ∀ (n c f : Nat) (M : Int), c ≤ n → c ≤ b.length → 0 ≤ M → (∀ q, f ≤ q → q < f + c → b.getD (q % b.length) 0 + t.getD (q % b.length) 0 ≤ M) → Dn (seg t f c) ≤ M := by
 intro n
 induction n with
 | zero =>
  intro c f M h1 _ hM _
  have : c = 0 := by omega
  subst this
  exact hM
 | succ n ih =>
  intro c f M h1 h2 hM hq
  by_cases h0 : c = 0
  ·subst h0; exact hM
  obtain ⟨q0, hq0, hmax⟩ := exists_max (fun q => b.getD (q % b.length) 0) c f (by omega)
  have hend := last_ended ht hbt hc h2 hq0 hmax
  obtain ⟨k, rfl⟩ : ∃ k, q0 = f + k := ⟨q0 - f, by omega⟩
  have hbp : 0 ≤ b.getD ((f + k) % b.length) 0 := getD_in (P := fun x => 0 ≤ x) (Qb _ (by omega)) hb0
  have d1 := ih k f _ (by omega) (by omega) hbp fun q h3 h4 => hend q h3 (by omega) (by omega)
  have d2 := ih (c - k - 1) (f + k + 1) _ (by omega) (by omega) hbp fun q h3 h4 => hend q (by omega) (by omega) (by omega)
  have d3 := Dn_le (l := seg t f c) (i := k) (by rw [seg_len]; omega)
  rw [seg_take (by omega), seg_get (by omega), seg_drop, seg_mod] at d3
  have d4 := hq (f + k) (by omega) (by omega)
  rw [hbt] at d4 d1 d2
  omega
theorem endF_ge (t b : List Int) : ∀ (n i : Nat), i < n → b.getD i 0 + t.getD i 0 ≤ endF t b n ∧ 0 ≤ endF t b n := by
 intro n
 induction n with
 | zero => intro i h; omega
 | succ n ih =>
  intro i hi
  unfold endF
  by_cases e : i = n
  ·subst e
   refine ⟨by omega, ?_⟩
   cases i with
   | zero => unfold endF; omega
   | succ i => have := (ih 0 (by omega)).2; omega
  ·have := ih i (by omega); omega
theorem sooner {t b : List Int} (hT : OkT t) (hc : canSewR t b = true) : minL (ringC t) ≤ endF t b b.length := by
 have hT1 := hT.1
 have ht : ∀ x ∈ t, 1 ≤ x := fun x hx => (hT.2.2 x hx).1
 have hc' := hc
 unfold canSewR at hc'
 rw [Ql, allN_eq, Ql, decide_eq_true_eq, Qy] at hc'
 obtain ⟨⟨hbt, hbx⟩, _⟩ := hc'
 have hb0 : ∀ x ∈ b, 0 ≤ x := fun x hx => by have := hbx x hx; simp only [within, Ql, decide_eq_true_eq] at this; omega
 obtain ⟨q0, hq0, hmax⟩ := exists_max (fun q => b.getD (q % b.length) 0) b.length 0 (by omega)
 have hend := last_ended ht hbt hc (Q9 _) hq0 hmax
 have hq0m : q0 % b.length = q0 := Qz (by omega)
 have hbp : 0 ≤ b.getD (q0 % b.length) 0 := getD_in (P := fun x => 0 ≤ x) (Qb _ (by omega)) hb0
 have d1 := row_lower ht hb0 hbt hc b.length (b.length - 1) (q0 + 1) _ (by omega) (by omega) hbp fun q h1 h2 => by
  have h3 : q % b.length < b.length := Qb _ (by omega)
  have h4 : q % b.length ≠ q0 := fun e => by
   have := mod_inj (n := b.length) (f := q0) (q := q) (q' := q0) (by omega) (by omega) (by rw [e, hq0m]); omega
  have := hend (q % b.length) (by omega) (by omega) h4
  rwa [Nat.mod_mod] at this
 have hg := ringC_get (t := t) (s := q0) (by omega)
 rw [seg_mod, ← hbt] at hg
 have h5 := minL_le (Zg hg)
 have h6 := (endF_ge t b b.length q0 (by omega)).1
 rw [hq0m] at d1
 omega
end Go.C02
set_option linter.unusedSimpArgs false
set_option linter.unusedVariables false
namespace Go.C02
open Go.Fam Go.Proofs
theorem plan_sch {t : List Int} (h : OkT t) : Sch t (atB t (planN t)) (closeN t + 1) (t.length - 1) (restN t) ∧ (planN t).getD (closeN t) 0 = restN t := by
 have h1 := h.1
 have hcl := closeN_lt h
 have hl : ((List.replicate t.length (0 : Int)).set (closeN t) (restN t)).length = t.length := by simp
 have e : restN t = Dn (seg t (closeN t + 1) (t.length - 1)) := by unfold restN; rw [seg_mod]
 constructor
 ·rw [e]
  unfold planN begN
  rw [e]
  exact begF_sch (by omega) (t.length - 1) (closeN t + 1) (t.length - 1) _ (by simp) (by omega) (Q9 _)
 ·unfold planN begN
  rw [begF_out (by omega) (t.length - 1) (closeN t + 1) (t.length - 1) _ hl (by omega) _ hcl fun q h3 h4 e => by
   have := mod_inj (n := t.length) (f := closeN t) (q := q) (q' := closeN t) (by omega) (by omega) (by rw [e, Qz hcl])
   omega]
  rw [getD_set (by simp; omega), if_pos rfl]
theorem min_ring {t : List Int} (h : OkT t) : minL (ringC t) = restN t + t.getD (closeN t) 0 := by
 have h1 := h.1
 have hne : ringC t ≠ [] := fun e => by have := ringC_len t; rw [e, Qi] at this; omega
 have h2 := argL_get hne
 have h3 := ringC_get (closeN_lt h)
 unfold closeN at h3 ⊢
 rw [h2] at h3
 exact Option.some.inj h3
theorem pos_of {t : List Int} {c i : Nat} (hc : c < t.length) (hi : i < t.length) (hne : i ≠ c) : ∃ q, (c + 1 ≤ q ∧ q < c + t.length) ∧ q % t.length = i := by
 by_cases h : c < i
 ·exact ⟨i, by omega, Qz hi⟩
 ·exact ⟨i + t.length, by omega, by rw [Zr, Qz hi]⟩
theorem plan_ends {t : List Int} (h : OkT t) : ∀ i, i < t.length → i ≠ closeN t → 0 ≤ (planN t).getD i 0 ∧ (planN t).getD i 0 + t.getD i 0 ≤ restN t := by
 intro i hi hne
 obtain ⟨s1, s2⟩ := plan_sch h
 have h1 := h.1
 have ht : ∀ x ∈ t, 1 ≤ x := fun x hx => (h.2.2 x hx).1
 obtain ⟨q, hq, he⟩ := pos_of (closeN_lt h) hi hne
 have := (s1.in_ ht (by omega)).2 q hq.1 (by omega)
 unfold atB at this
 rwa [he] at this
theorem maxL_ge {l : List Int} {x : Int} (h : x ∈ l) : x ≤ maxL l := by
 have key : ∀ (l : List Int) (a : Int), a ≤ l.foldl max a ∧ ∀ x ∈ l, x ≤ l.foldl max a := by
  intro l
  induction l with
  | nil => intro a; simp
  | cons y l ih =>
   intro a
   obtain ⟨h1, h2⟩ := ih (max a y)
   rw [Xj]
   refine ⟨by omega, fun x hx => ?_⟩
   rcases List.mem_cons.1 hx with rfl | hx
   ·omega
   ·exact h2 x hx
 cases l with
 | nil => cases h
 | cons a l =>
  obtain ⟨h1, h2⟩ := key l a
  rcases List.mem_cons.1 h with rfl | h
  ·exact h1
  ·exact h2 x h
theorem maxL_le {l : List Int} {M : Int} (hne : l ≠ []) (h : ∀ x ∈ l, x ≤ M) : maxL l ≤ M := by
 have key : ∀ (l : List Int) (a : Int), a ≤ M → (∀ x ∈ l, x ≤ M) → l.foldl max a ≤ M := by
  intro l
  induction l with
  | nil => intro a ha _; exact ha
  | cons y l ih =>
   intro a ha hl
   rw [Xj]
   have := hl y (by simp)
   exact ih _ (by omega) fun x hx => hl x (by simp [hx])
 cases l with
 | nil => exact absurd rfl hne
 | cons a l => exact key l a (h a (by simp)) fun x hx => h x (by simp [hx])
theorem endsN_getD {t b : List Int} (hl : b.length = t.length) {i : Nat} (hi : i < t.length) : (endsN t b)[i]? = some (b.getD i 0 + t.getD i 0) := by
 refine endsN_get ?_ ?_
 ·rw [Qc hi, Qa, Qc hi]; rfl
 ·rw [Qc (by omega), Qa, Qc (by omega)]; rfl
theorem soon_eq {t : List Int} (h : OkT t) : maxL (endsN t (planN t)) = minL (ringC t) := by
 have h1 := h.1
 have hpl := planN_len t
 have hcl := closeN_lt h
 have hmr := min_ring h
 obtain ⟨s1, s2⟩ := plan_sch h
 have hg := endsN_getD hpl hcl
 rw [s2] at hg
 have h2 := maxL_ge (Zg hg)
 have h3 : maxL (endsN t (planN t)) ≤ minL (ringC t) := by
  refine maxL_le (fun e => by have := endsN_len hpl; rw [e, Qi] at this; omega) fun x hx => ?_
  obtain ⟨i, hi⟩ := Z4 hx
  have hil := getElemLt hi
  rw [endsN_len hpl] at hil
  rw [endsN_getD hpl hil] at hi
  have hi := Option.some.inj hi
  have htc := getD_in (P := fun x => 1 ≤ x ∧ x ≤ 99) hcl h.2.2
  by_cases e : i = closeN t
  ·rw [e, s2] at hi; omega
  ·have := plan_ends h i hil e; omega
 omega
end Go.C02
set_option linter.unusedSimpArgs false
set_option linter.unusedVariables false
namespace Go.C02
open Go.Fam Go.Proofs
theorem seg_all {t : List Int} {s : Nat} (h : s ≤ t.length) (hn : 0 < t.length) : seg t s t.length = t.drop s ++ t.take s := by
 apply Xd
 intro i
 unfold seg
 rw [Za]
 by_cases hi : i < t.length
 ·rw [Z7 hi, Xk]
  by_cases h1 : i < t.length - s
  ·rw [List.getElem?_append_left (by rw [Q0]; exact h1), Xa, Qz (by omega), Qa, Qc (by omega)]; rfl
  ·rw [List.getElem?_append_right (by rw [Q0]; omega), Q0, Zv (by omega)]
   have e : (s + i) % t.length = i - (t.length - s) := by
    rw [show s + i = i - (t.length - s) + t.length by omega, Zr, Qz (by omega)]
   rw [e, Qa, Qc (by omega)]; rfl
 ·rw [Q7 (by simp; omega), Q7 (by simp; omega)]; rfl
def Below (l' l : List Int) : Prop := l'.length = l.length ∧ ∀ i, i < l.length → l'.getD i 0 ≤ l.getD i 0
theorem getD_take {l : List Int} {k i : Nat} (h : i < k) : (l.take k).getD i 0 = l.getD i 0 := by
 simp only [Qa]; rw [Zv h]
theorem getD_drop {l : List Int} {k i : Nat} : (l.drop k).getD i 0 = l.getD (k + i) 0 := by
 simp only [Qa]; rw [Xa]
theorem Below.take {l' l : List Int} (h : Below l' l) (k : Nat) : Below (l'.take k) (l.take k) :=
 ⟨by rw [Ze, Ze, h.1], fun i hi => by
  rw [Ze] at hi
  rw [getD_take (by omega), getD_take (by omega)]; exact h.2 i (by omega)⟩
theorem Below.drop {l' l : List Int} (h : Below l' l) (k : Nat) : Below (l'.drop k) (l.drop k) :=
 ⟨by rw [Q0, Q0, h.1], fun i hi => by
  rw [Q0] at hi
  rw [getD_drop, getD_drop]; exact h.2 _ (by omega)⟩
end Go.C02
set_option maxRecDepth 8000
set_option linter.unusedSimpArgs false
namespace Go.C02
open Go.Fam Go.Proofs
end Go.C02
set_option linter.unusedSimpArgs false
set_option linter.unusedVariables false
namespace Go.C02
open Go.Fam Go.Proofs
end Go.C02
set_option maxRecDepth 8000
namespace Go.C02.N
open Go.Fam Go.Proofs
def rc21 : RC := (.seq (.reg false [(cX 1 0), ⟨(some 2), none, [], none, .w (.alc [(.z 4), (.z 1), (.i 0), (.z 2), (.z 1), (.i 0), (.i 0), (.i 0), (.i 0), (.z 1), (.z 1)])⟩]) (.keep [1,2] (.seq (.reg false [(cLd 4 1 true 11), ⟨(some 3), none, [], none, .w (.alc [(.z 4), (.z 1), (.i 0), (.z 2), (.z 1), (.i 0), (.i 0), (.i 0), (.i 0), (.z 1), (.z 1)])⟩, ⟨none, none, [3,4], none, .w (.st 11 (.t 3) (.t 4))⟩]) (.keep [1,2,3] (.seq (.reg false [(cFa 5 1 0), (cLd 6 5 true 6), ⟨(some 7), none, [6], none, .o (kF 55) [(.t 6)]⟩, (cFa 8 3 0), ⟨none, none, [8,7], none, .w (.st 6 (.t 8) (.t 7))⟩]) (.keep [1,2,3] (.seq (.any false 4 [⟨⟨(some 9), none, [], (some 0), .w (.bso 1 0 [(.i 0)] [])⟩, [], []⟩, ⟨(cFa 10 1 9), [0], []⟩, ⟨(cLd 11 10 false 1), [0], [1]⟩, ⟨⟨(some 12), none, [9,11], (some 1), .w (.app 1 (.t 9) (.t 11))⟩, [], [0,2,1]⟩, ⟨⟨(some 13), none, [], (some 2), .w (.bso 1 0 [(.i 0)] [])⟩, [0,1,2,3], []⟩, ⟨(cFa 14 1 10), [0,3,4], []⟩, ⟨(cLd 15 14 false 1), [0,3,4], [5]⟩, ⟨⟨(some 16), none, [13,15], (some 3), .w (.app 1 (.t 13) (.t 15))⟩, [], [4,6,5,3,0,2,1]⟩, ⟨(cFa 17 3 9), [4,7], [0,1,2,3]⟩, ⟨⟨none, none, [17,12], none, .w (.st 1 (.t 17) (.t 12))⟩, [], [8,0,1,2,3,7,4,6,5]⟩, ⟨(cFa 18 3 10), [], [0,1,2,3,4,5,6,7,8,9]⟩, ⟨⟨none, none, [18,16], none, .w (.st 1 (.t 18) (.t 16))⟩, [], [10,0,1,2,3,4,5,6,7,8,9]⟩]) (.keep [2,3] (.seq (.reg false [(cLd 19 3 true 11), ⟨none, none, [2,19], none, .w (.st 11 (.t 2) (.t 19))⟩]) .ret)))))))))
def pu21 : List Nat := [1000007,1]
def rs21 : List RV := [.c 2 true 11]
theorem cc21 : comp Try.prog pu21 (Try.f21.ntmps, 0) 0 1 rc21 (Try.f21.body.getD .skip) = some rc21 := by kernel_rfl
theorem cb21 : Try.f21.body = some (Try.f21.body.getD .skip) := by kernel_rfl
theorem cs21 : resRV Try.prog Try.f21.results.toList = some rs21 := by kernel_rfl
theorem cn21 : 1 ≤ Try.f21.ntmps := by decide
def rc40 : RC := (.seq (.reg false [(cX 2 0), ⟨(some 4), none, [], none, .w (.alc [(.z 4), (.z 1), (.i 0), (.z 2), (.z 1), (.i 0), (.i 0), (.i 0), (.i 0), (.z 1), (.z 1)])⟩]) (.keep [1,2,4] (.seq (.reg false [(cLd 9 2 true 11), ⟨(some 10), none, [9], none, .o (kF 21) [(.t 9)]⟩, ⟨(some 5), none, [], none, .w (.alc [(.z 4), (.z 1), (.i 0), (.z 2), (.z 1), (.i 0), (.i 0), (.i 0), (.i 0), (.z 1), (.z 1)])⟩, ⟨none, none, [5,10], none, .w (.st 11 (.t 5) (.t 10))⟩]) (.keep [1,2,4,5] (.seq (.reg false [(cFa 11 2 9), (cLd 12 11 false 1), (cLn 13 12), (cMv 6 13)]) (.keep [1,2,4,5,6] (.seq (.seq (.reg false [(cI 7 0)]) (.keep [1,2,4,5,6,7] (.block 0 (.loop [1,2,4,5,6,7] none (.seq (.seq (.reg false [(cMv 14 7), (cMv 15 6), (cB 16 .lss 14 15)]) (.keep [1,2,4,5,6,7,16] (.cond (.t 16) .skip (.exit 0)))) (.keep [1,2,4,5,6,7] (.seq (.block 1 (.seq (.reg false [(cMv 19 7), (cMv 20 1), (cB 21 .add 19 20), (cMv 22 6), (cB 23 .rem 21 22), (cMv 8 23)]) (.keep [1,2,4,5,6,7,8] (.any false 0 [⟨(cFa 24 5 9), [], []⟩, ⟨(cLd 25 24 false 1), [], [0]⟩, ⟨(cMv 26 7), [], []⟩, ⟨(cFa 27 5 10), [], []⟩, ⟨(cLd 28 27 false 1), [], [3]⟩, ⟨(cMv 29 7), [], []⟩, ⟨(cFa 30 5 0), [], []⟩, ⟨(cFa 31 30 1), [], [6]⟩, ⟨(cLd 32 31 false 1), [], [7,6]⟩, ⟨(cMv 33 7), [], []⟩, ⟨(cFa 34 2 9), [], []⟩, ⟨(cLd 35 34 false 1), [], [10]⟩, ⟨(cMv 36 8), [], []⟩, ⟨(cA 37 1 35 36), [], [11,10,12]⟩, ⟨(cLd 38 37 false 1), [], [13,11,10,12]⟩, ⟨(cFa 39 2 10), [], []⟩, ⟨(cLd 40 39 false 1), [], [15]⟩, ⟨(cMv 41 8), [], []⟩, ⟨(cA 42 1 40 41), [], [16,15,17]⟩, ⟨(cLd 43 42 false 1), [], [18,16,15,17]⟩, ⟨(cFa 44 2 0), [], []⟩, ⟨(cFa 45 44 1), [], [20]⟩, ⟨(cLd 46 45 false 1), [], [21,20]⟩, ⟨(cMv 47 8), [], []⟩, ⟨(cA 48 1 46 47), [], [22,21,20,23]⟩, ⟨(cLd 49 48 false 1), [], [24,22,21,20,23]⟩, ⟨(cA 50 1 25 26), [], [1,0,2,10,11,12,13,14,19,18,16,15,17,25,24,22,21,20,23]⟩, ⟨⟨none, none, [50,38], none, .w (.st 1 (.t 50) (.t 38))⟩, [3,4,5,6,7,8,9], [26,1,0,2,10,11,12,13,14,19,18,16,15,17,25,24,22,21,20,23]⟩, ⟨(cA 51 1 28 29), [], [4,3,5,0,1,2,10,11,12,13,14,15,16,17,18,19,25,24,22,21,20,23,26,27]⟩, ⟨⟨none, none, [51,43], none, .w (.st 1 (.t 51) (.t 43))⟩, [6,7,8,9], [28,4,3,5,0,1,2,10,11,12,13,14,15,16,17,18,19,25,24,22,21,20,23,26,27]⟩, ⟨(cA 52 1 32 33), [], [8,7,6,9,0,1,2,3,4,5,10,11,12,13,14,15,16,17,18,19,20,21,22,23,24,25,26,27,28,29]⟩, ⟨⟨none, none, [52,49], none, .w (.st 1 (.t 52) (.t 49))⟩, [], [30,8,7,6,9,0,1,2,3,4,5,10,11,12,13,14,15,16,17,18,19,20,21,22,23,24,25,26,27,28,29]⟩])))) (.keep [1,2,4,5,6,7] (.reg false [(cMv 17 7), (cC 18 .add 17 1), (cMv 7 18)]))))))))) (.keep [4,5] (.seq (.reg false [(cLd 53 5 true 11), ⟨none, none, [4,53], none, .w (.st 11 (.t 4) (.t 53))⟩]) .ret)))))))))
def pu40 : List Nat := [1000010,2]
def rs40 : List RV := [.c 4 true 11]
theorem cc40 : comp Try.prog pu40 (Try.f40.ntmps, 0) 0 1 rc40 (Try.f40.body.getD .skip) = some rc40 := by kernel_rfl
theorem cb40 : Try.f40.body = some (Try.f40.body.getD .skip) := by kernel_rfl
theorem cs40 : resRV Try.prog Try.f40.results.toList = some rs40 := by kernel_rfl
theorem cn40 : 2 ≤ Try.f40.ntmps := by decide
end Go.C02.N
set_option linter.unusedSimpArgs false
set_option linter.unusedVariables false
namespace Go.C02
open Go.Fam Go.Proofs
theorem b55o (d : Dome) : HB 1000055 [.ag (eDome d)] = (Ok22 d, .tp [copyV d, .tp ((copyHp d).map bV)]) :=
 (show HB 1000055 _ = r22o [.ag (eDome d)] from rfl).trans (fnG_at _ (dDome_e _))
def copyG (k : Nat) (f : Fig) : List V := [.rf (k + 4) 1 0 f.dome.bolts.length 4, .rf (k + 5) 1 0 f.dome.gores.length 1, .i f.dome.loss, .rf (k + 7) 1 0 f.dome.rounds.length 2, .rf (k + 9) 1 0 f.dome.widths.length 1, .i f.dome.slope,
 .i f.period, .i f.run, .i f.near, .rf (k + 11) 1 0 f.starts.length 1, .rf (k + 13) 1 0 f.times.length 1]
def copyD (k : Nat) (f : Fig) : List V := [.rf (k + 4) 1 0 f.dome.bolts.length 4, .rf (k + 5) 1 0 f.dome.gores.length 1, .i f.dome.loss, .rf (k + 7) 1 0 f.dome.rounds.length 2, .rf (k + 9) 1 0 f.dome.widths.length 1, .i f.dome.slope]
def copyGH (f : Fig) : List Blk := [.cells 0 (copyG 0 f), .cells 0 (copyG 0 f), .cells 0 (copyD 0 f), .cells 0 (copyD 0 f), .cells 1 (f.dome.bolts.map eBolt).flatten, .cells 1 (f.dome.gores.map V.i), .hole,
 .cells 1 (f.dome.rounds.map eSpan).flatten, .hole, .cells 1 (f.dome.widths.map V.i), .hole, .cells 1 (f.starts.map V.i), .hole, .cells 1 (f.times.map V.i), .hole]
set_option maxRecDepth 20000 in
set_option maxHeartbeats 4000000 in
theorem O21g (f : Fig) (h : Ok21 f) : OwnCall Try.prog 21 [.ag (eFig f)] (.ag (copyG 0 f)) (copyGH f) := by
 refine own_body okHB hmix Try.func21 N.cb21 N.cc21 N.cs21 N.cn21 ?_
 have g1 := b55o f.dome
 unfold eDome at g1
 have hs := h.s
 have ht := h.t
 have hnb := hasRefL_flat (e := eBolt) (fun _ => rfl) f.dome.bolts
 have hnr := hasRefL_flat (e := eSpan) (fun _ => rfl) f.dome.rounds
 simp only [N.rc21, N.rs21, g1, endO, List.flatten_nil, copyHp, copyCs, copyV, Qd, shL_noref _ _ hnb, shL_noref _ _ hnr, fl_I, shL_noref _ _ (nr_i _), ru_reg, ru_any, ru_seq, ru_ret, ru_keep, stepO, ocV, nidQ, plO, plQ, plB, putBs, optL, rflat, rflatL, rflatB, shV, shL, shB, vB_cells, putB, endO, thenQ, run_nil, run_cons, Fam.step, stepQ, stepW, needW, runX, eff, nextD, fpR, fpQ, fpV, disjB, hits, putB, nv, sv, newsV, evO, opv, qv, ldV, curG, foldParts, putAt, partsOk, partsOne, V.cells, solid, cellOk, hasRef, hasRefL, upd_some, upd_none, lkp_cons, lkp_nil, ↓reduceIte, Nat.reduceEqDiff, Nat.reduceAdd, Nat.reduceMul, Nat.reduceLT, Nat.reduceLeDiff, Nat.reduceBEq, Qj, Qq, Qs, Qv, Qm, Qi, Qe, Qn, Zw, Qk, Zb, Qw, Qr, Zf, Q6, Qf, Qo, Qp, Zs, Zy, Zz, Q3, Zl, Zi, List.replicate_succ, Z0, Xe, rvs, rv1, resV, vw_i, vw_sl, vw_ag, zipA, beq_self_eq_true, Qt, Nat.add_zero, Qu, Q1, Z9, Zm, Xm, Qx, Bool.false_or, Q2, Zn, Qg, true_and, and_true, and_self, List.any_cons, Xf, Xb, Zt, Qd, Qa, eFig]
 exact ⟨h.d, by unfold fitsLen; omega, by unfold fitsLen; omega, rfl, rfl⟩
def s21g : List V → Prop × V := fnG (fun f => [.ag (eFig f)]) decF Ok21 (fun f => f) (fun f => .tp [.ag (copyG 0 f), .tp ((copyGH f).map bV)])
theorem copyGH_vB (f : Fig) : ((copyGH f).map bV).map vB = copyGH f := by simp [copyGH, copyG, copyD, bV, vB]
noncomputable def HC : Gam := HB.ext 1000021 s21g
theorem okHC : GOk Try.prog HC :=
 okHB.extO (f := 21) (r := s21g) (fun a w => Try.call21 a w) fun vs v bs h e => fnO_ok (e := fun f => [.ag (eFig f)]) (d := decF) (ok := Ok21) (v := fun f => .ag (copyG 0 f)) (hp := copyGH) copyGH_vB (fun f h => O21g f h) vs v bs h e
theorem c21g (f : Fig) : HC 1000021 [.ag (eFig f)] = (Ok21 f, .tp [.ag (copyG 0 f), .tp ((copyGH f).map bV)]) :=
 (show HC 1000021 _ = s21g [.ag (eFig f)] from rfl).trans (fnG_at _ (dFig_e _))
def turnL (l : List Int) (k : Nat) : List Int := (List.range l.length).map fun i => l.getD ((i + k) % l.length) 0
def turnF (f : Fig) (k : Nat) : Fig := { f with dome := { f.dome with gores := turnL f.dome.gores k }, starts := turnL f.starts k, times := turnL f.times k }
theorem turnL_len (l : List Int) (k : Nat) : (turnL l k).length = l.length := by simp [turnL]
theorem turnL_get {l : List Int} {k i : Nat} (hi : i < l.length) : (turnL l k)[i]? = some (l.getD ((i + k) % l.length) 0) := by
 unfold turnL
 rw [Za, Z7 hi]; rfl
theorem cut_lists {L l : List Int} {i : Nat} {y : Int} (hl : L.length = l.length) (hi : i < l.length) (hy : L[i]? = some y) :
  ∃ pre post x, pre.length = i ∧ i + (post.length + 1) = l.length ∧ (L.take i ++ l.drop i).map V.i = pre ++ V.i x :: post ∧ (L.take (i + 1) ++ l.drop (i + 1)).map V.i = pre ++ V.i y :: post := by
 refine ⟨(L.take i).map V.i, (l.drop (i + 1)).map V.i, l[i], by rw [Qd, Ze]; omega, by rw [Qd, Q0]; omega, ?_, ?_⟩
 ·rw [Z2, List.drop_eq_getElem_cons hi, Qj]
 ·rw [take_succ_of hy, Z2, Z2]; simp
def turnH (f : Fig) (k i : Nat) : List Blk := [.cells 0 [.z 4, .z 1, .i 0, .z 2, .z 1, .i 0, .i 0, .i 0, .i 0, .z 1, .z 1], .cells 0 (copyG 1 f), .cells 0 (copyG 1 f), .cells 0 (copyD 1 f), .cells 0 (copyD 1 f), .cells 1 (f.dome.bolts.map eBolt).flatten,
 .cells 1 (((turnL f.dome.gores k).take i ++ f.dome.gores.drop i).map V.i), .hole, .cells 1 (f.dome.rounds.map eSpan).flatten, .hole, .cells 1 (f.dome.widths.map V.i), .hole,
 .cells 1 (((turnL f.starts k).take i ++ f.starts.drop i).map V.i), .hole, .cells 1 (((turnL f.times k).take i ++ f.times.drop i).map V.i), .hole, .cells 0 (copyG 1 f)]
def turnE (f : Fig) (k : Nat) : List Blk := [.cells 0 (copyG 1 f), .cells 0 (copyG 1 f), .cells 0 (copyG 1 f), .cells 0 (copyD 1 f), .cells 0 (copyD 1 f), .cells 1 (f.dome.bolts.map eBolt).flatten,
 .cells 1 ((turnL f.dome.gores k).map V.i), .hole, .cells 1 (f.dome.rounds.map eSpan).flatten, .hole, .cells 1 (f.dome.widths.map V.i), .hole,
 .cells 1 ((turnL f.starts k).map V.i), .hole, .cells 1 ((turnL f.times k).map V.i), .hole, .cells 0 (copyG 1 f)]
set_option maxRecDepth 20000 in
set_option maxHeartbeats 4000000 in
theorem O40 (f : Fig) (k : Nat) (h : Ok21 f) (hk : k ≤ 1000) (hs : f.starts.length = f.dome.gores.length) (ht : f.times.length = f.dome.gores.length) (hn : f.dome.gores.length ≤ 16) :
  OwnCall Try.prog 40 [.ag (eFig f), .i k] (.ag (copyG 1 f)) (turnE f k) := by
 refine own_body okHC hmix Try.func40 N.cb40 N.cc40 N.cs40 N.cn40 ?_
 have g1 := c21g f
 simp only [eFig] at g1
 have hnb := hasRefL_flat (e := eBolt) (fun _ => rfl) f.dome.bolts
 have hnr := hasRefL_flat (e := eSpan) (fun _ => rfl) f.dome.rounds
 simp only [N.rc40, N.rs40, g1, h, copyGH, copyG, copyD, Qd, shL_noref _ _ hnb, shL_noref _ _ hnr, shL_noref _ _ (nr_i _), ru_reg, ru_seq, ru_block, ru_keep, stepO, ocV, nidQ, plO, plQ, plB, rflat, rflatL, rflatB, shV, shL, shB, vB_cells, putB, thenQ, run_nil, run_cons, Fam.step, stepQ, stepW, needW, putB, nv, sv, evO, opv, qv, ldV, lenV, putAt, V.cells, solid, cellOk, hasRef, hasRefL, upd_some, upd_none, lkp_cons, lkp_nil, ↓reduceIte, Nat.reduceEqDiff, Nat.reduceAdd, Nat.reduceLT, Nat.reduceLeDiff, Qj, Qq, Qs, Qv, Qm, Qi, Qe, Qn, Zw, Qk, Zb, Qw, Qr, Zf, Q6, Qf, Qo, Qp, Q3, Zl, vw_i, vw_sl, vw_ag, zipA, Qt, Qu, Q1, Z9, Zm, Qx, Qg, true_and, and_self, reduceCtorEq, Qd, eFig]
 refine ru_count f.starts.length (fun i => ⟨lkp [(1, .i k), (2, .pa (eFig f)), (4, .ad 0 0 0), (5, .ad 16 0 0), (6, .i f.starts.length), (7, .i i)], turnH f k i⟩) ?_ ?_ ?_
 ·simp only [Int.natCast_zero, turnH, copyG, copyD, kp, lkp_cons, lkp_nil, ↓reduceIte, Nat.reduceEqDiff, Nat.reduceAdd, Qj, Qq, Qn, Zb, Q6, eFig]
  rfl
 ·intro i hi
  obtain ⟨j, hj⟩ : ∃ j, j = (i + k) % f.starts.length := ⟨_, rfl⟩
  have hjl : j < f.starts.length := by rw [hj]; exact Qb _ (by omega)
  have hjr : ((i : Int) + k).tmod f.starts.length = j := by rw [hj, Q8 (by omega), Zx, Zh]
  obtain ⟨pa, qa, xa, la, ma, ea, ea'⟩ := cut_lists (turnL_len f.starts k) hi (turnL_get hi)
  obtain ⟨pb, qb, xb, lb, mb, eb, eb'⟩ := cut_lists (turnL_len f.times k) (by omega) (turnL_get (l := f.times) (k := k) (i := i) (by omega))
  obtain ⟨pc, qc, xc, lc, mc, ec, ec'⟩ := cut_lists (turnL_len f.dome.gores k) (by omega) (turnL_get (l := f.dome.gores) (k := k) (i := i) (by omega))
  have ha : f.starts[j]? = some (f.starts.getD j 0) := by rw [Qa, Qc hjl]; rfl
  have hb : f.times[j]? = some (f.times.getD j 0) := by rw [Qa, Qc (by omega)]; rfl
  have hc : f.dome.gores[j]? = some (f.dome.gores.getD j 0) := by rw [Qa, Qc (by omega)]; rfl
  rw [show (i + k) % f.times.length = j by rw [hj, ht, hs]] at eb'
  rw [show (i + k) % f.dome.gores.length = j by rw [hj, hs]] at ec'
  rw [← hj] at ea'
  generalize f.starts.getD j 0 = ya at ha ea'
  generalize f.times.getD j 0 = yb at hb eb'
  generalize f.dome.gores.getD j 0 = yc at hc ec'
  have t1 : turnH f k i = [.cells 0 [.z 4, .z 1, .i 0, .z 2, .z 1, .i 0, .i 0, .i 0, .i 0, .z 1, .z 1], .cells 0 (copyG 1 f), .cells 0 (copyG 1 f), .cells 0 (copyD 1 f), .cells 0 (copyD 1 f), .cells 1 (f.dome.bolts.map eBolt).flatten,
   .cells 1 (pc ++ V.i xc :: qc), .hole, .cells 1 (f.dome.rounds.map eSpan).flatten, .hole, .cells 1 (f.dome.widths.map V.i), .hole, .cells 1 (pa ++ V.i xa :: qa), .hole, .cells 1 (pb ++ V.i xb :: qb), .hole, .cells 0 (copyG 1 f)] := by
   unfold turnH; rw [ea, eb, ec]
  have t2 : turnH f k (i + 1) = [.cells 0 [.z 4, .z 1, .i 0, .z 2, .z 1, .i 0, .i 0, .i 0, .i 0, .z 1, .z 1], .cells 0 (copyG 1 f), .cells 0 (copyG 1 f), .cells 0 (copyD 1 f), .cells 0 (copyD 1 f), .cells 1 (f.dome.bolts.map eBolt).flatten,
   .cells 1 (pc ++ V.i yc :: qc), .hole, .cells 1 (f.dome.rounds.map eSpan).flatten, .hole, .cells 1 (f.dome.widths.map V.i), .hole, .cells 1 (pa ++ V.i ya :: qa), .hole, .cells 1 (pb ++ V.i yb :: qb), .hole, .cells 0 (copyG 1 f)] := by
   unfold turnH; rw [ea', eb', ec']
  rw [t1, t2]
  have hlt : (i : Int) < f.starts.length := by omega
  have hlt2 : (i : Int) < f.times.length := by omega
  have hlt3 : (i : Int) < f.dome.gores.length := by omega
  have hjt1 : (j : Int) < f.starts.length := by omega
  have hjt2 : (j : Int) < f.times.length := by omega
  have hjt3 : (j : Int) < f.dome.gores.length := by omega
  have hn0 : ¬ (f.starts.length : Int) = 0 := by omega
  have h3 : inI ((i : Int) + 1) := by unfold inI; omega
  have h4 : inI ((i : Int) + k) := by unfold inI; omega
  have dr : ∀ (p q : List V) (x : V), p.length = i → List.drop i (p ++ x :: q) = x :: q := fun p q x h => by simp [h]
  have tk : ∀ (p q : List V) (x : V), p.length = i → List.take i (p ++ x :: q) = p := fun p q x h => List.take_left' h
  have dr1 : ∀ (p q : List V) (x : V), p.length = i → List.drop (i + 1) (p ++ x :: q) = q := fun p q x h => by simp [List.drop_append, h]
  have l1 : i + 1 ≤ i + (qa.length + 1) := by omega
  have l2 : i + 1 ≤ i + (qb.length + 1) := by omega
  have l3 : i + 1 ≤ i + (qc.length + 1) := by omega
  simp only [copyG, copyD, hjr, ha, hb, hc, hlt, hlt2, hlt3, hjt1, hjt2, hjt3, hn0, h3, h4, Z3, tk _ _ _ la, tk _ _ _ lb, tk _ _ _ lc, dr1 _ _ _ la, dr1 _ _ _ lb, dr1 _ _ _ lc, List.append_assoc, List.length_append, la, lb, lc, l1, l2, l3, Zh, Xg, ru_skip, ru_reg, ru_any, ru_seq, ru_cnd, ru_block, ru_keep, putBs, optL, thenQ, blockQ, run_nil, run_cons, Fam.step, stepQ, needW, runX, eff, nextD, fpR, fpQ, fpV, disjB, hits, nv, sv, evO, opv, qv, binV, ldV, iadV, curG, putAt, V.cells, solid, cellOk, kp, upd_some, upd_none, lkp_cons, lkp_nil, ↓reduceIte, Nat.reduceEqDiff, Nat.reduceAdd, Nat.reduceLeDiff, Nat.reduceBEq, Qj, Qq, Qs, Qv, Qm, Qi, Qe, Qn, Qr, Zf, Q6, Qf, Qo, Qp, Zs, Zy, Zz, Q3, Zl, Zi, Z0, Xe, Int.natCast_nonneg, beq_self_eq_true, Qt, Nat.add_zero, Qu, Q1, Z9, Zm, Qx, Bool.false_or, Q2, Zn, Qg, decide_true, and_self, not_false_eq_true, ne_eq, Xk, List.any_cons, Xf, Xb, Zt, Qd, Zo, Qa, Za, eI, eFig]
 ·have e1 : (turnL f.starts k).take f.starts.length ++ f.starts.drop f.starts.length = turnL f.starts k := by
   rw [Zc (by rw [turnL_len]; omega), Zd (by omega), Qf]
  have e2 : (turnL f.times k).take f.starts.length ++ f.times.drop f.starts.length = turnL f.times k := by
   rw [Zc (by rw [turnL_len]; omega), Zd (by omega), Qf]
  have e3 : (turnL f.dome.gores k).take f.starts.length ++ f.dome.gores.drop f.starts.length = turnL f.dome.gores k := by
   rw [Zc (by rw [turnL_len]; omega), Zd (by omega), Qf]
  unfold turnH
  rw [e1, e2, e3]
  simp only [copyG, copyD, endO, Int.lt_irrefl, ru_reg, ru_seq, ru_cnd, ru_exit, ru_ret, ru_keep, putB, endO, thenQ, blockQ, run_nil, run_cons, Fam.step, stepQ, stepW, needW, putB, nv, sv, evO, opv, qv, binV, ldV, putAt, V.cells, solid, cellOk, upd_some, upd_none, lkp_cons, lkp_nil, ↓reduceIte, Nat.reduceEqDiff, Nat.reduceAdd, Nat.reduceLeDiff, Qj, Qq, Qs, Qv, Qm, Qi, Qe, Qn, Zw, Qk, Zb, Qw, Q6, Qf, Qo, Qp, Q3, rvs, rv1, resV, Int.lt_irrefl, Qt, Qu, Qg, decide_false, true_and, and_self, eFig]
  rfl
theorem turn_vw (f : Fig) (k : Nat) : vw (turnE f k) 8 (.ag (copyG 1 f)) = .ag (eFig (turnF f k)) := by
 have c1 := chunk_flat (e := eBolt) (k := 4) (fun _ => rfl) f.dome.bolts
 have c2 := chunk_i (turnL f.dome.gores k)
 have c3 := chunk_flat (e := eSpan) (k := 2) (fun _ => rfl) f.dome.rounds
 have c4 := chunk_i f.dome.widths
 have c5 := chunk_i (turnL f.starts k)
 have c6 := chunk_i (turnL f.times k)
 rw [turnL_len] at c2 c5 c6
 have v1 : ∀ hp, (f.dome.bolts.map eBolt).map (fun r => r.map (vw hp 6)) = f.dome.bolts.map eBolt := fun hp => map_vw_rows (e := eBolt) hp 6 (fun _ => rfl) _
 have v3 : ∀ hp, (f.dome.rounds.map eSpan).map (fun r => r.map (vw hp 6)) = f.dome.rounds.map eSpan := fun hp => map_vw_rows (e := eSpan) hp 6 (fun _ => rfl) _
 have l1 := flat_len (e := eBolt) (k := 4) (fun _ => rfl) f.dome.bolts
 have l3 := flat_len (e := eSpan) (k := 2) (fun _ => rfl) f.dome.rounds
 simp only [turnE, copyG, copyD, l1, l3, turnL_len, Z3, Q9, c1, c2, c3, c4, c5, c6, v1, v3, vw_I, turnF, ↓reduceIte, Nat.reduceAdd, Qj, Qq, Qo, Qp, vw_i, vw_ag, vw_rf, Qt, and_self, Qd, eFig]
end Go.C02
set_option linter.unusedSimpArgs false
set_option linter.unusedVariables false
namespace Go.C02
open Go.Fam Go.Proofs
theorem turnL_getD {l : List Int} {k i : Nat} (hi : i < l.length) : (turnL l k).getD i 0 = l.getD ((i + k) % l.length) 0 := by
 rw [Qa, turnL_get hi]; rfl
theorem turnL_mem {l : List Int} {k : Nat} {x : Int} (h : x ∈ turnL l k) : x ∈ l := by
 unfold turnL at h
 obtain ⟨i, hi, rfl⟩ := List.mem_map.1 h
 have hi := Zk.1 hi
 have hm : (i + k) % l.length < l.length := Qb _ (by omega)
 rw [Qa, Qc hm]
 exact List.getElem_mem hm
theorem turnL_seg (l : List Int) (k : Nat) : turnL l k = seg l k l.length := by
 unfold turnL seg
 refine Z8 fun i _ => ?_
 rw [Nat.add_comm]
theorem turnL_sum (l : List Int) (k : Nat) : (turnL l k).sum = l.sum := by
 by_cases hn : 0 < l.length
 ·rw [turnL_seg, ← seg_mod, seg_all (Nat.le_of_lt (Qb _ hn)) hn, Xl, Int.add_comm, ← Xl, List.take_append_drop]
 ·have : l = [] := List.eq_nil_of_length_eq_zero (by omega)
  subst this; rfl
def backN (n k : Nat) : Nat := n - k % n
theorem turnL_back {l : List Int} {k n : Nat} (hn : l.length = n) (h0 : 0 < n) : turnL (turnL l k) (backN n k) = l := by
 refine Xd fun i => ?_
 by_cases hi : i < n
 ·rw [turnL_get (by rw [turnL_len]; omega), turnL_len, hn]
  have hm : (i + backN n k) % n < n := Qb _ h0
  rw [turnL_getD (by omega), hn, Qa]
  have hk := Qb k h0
  have hkk := Z1 k n
  have e : ((i + backN n k) % n + k) % n = i := by
   rw [Qh]
   unfold backN
   rw [show i + (n - k % n) + k = i + n * (k / n) + n by omega, Zr, Nat.add_mul_mod_self_left, Qz hi]
  rw [e, Qc (by omega)]; rfl
 ·rw [Q7 (by rw [turnL_len, turnL_len]; omega), Q7 (by omega)]
theorem turnF_back {f : Fig} (hs : f.starts.length = f.dome.gores.length) (ht : f.times.length = f.dome.gores.length) (h0 : 0 < f.dome.gores.length) (k : Nat) : turnF (turnF f k) (backN f.dome.gores.length k) = f := by
 unfold turnF
 simp only [turnL_back rfl h0, turnL_back hs h0, turnL_back ht h0]
theorem turn_check {f : Fig} (h : figCheck f = 0) (k : Nat) : figCheck (turnF f k) = 0 := by
 have hd : check f.dome = 0 ∧ goodFig f = true := by
  unfold figCheck at h
  split at h
  ·rename_i h1; exact absurd h h1
  ·rename_i h1
   refine ⟨Classical.not_not.1 h1, ?_⟩
   split at h
   ·assumption
   ·cases h
 obtain ⟨h1, h2⟩ := hd
 have h3 : check (turnF f k).dome = 0 := by
  unfold check isDome at h1 ⊢
  have e1 : headOk (turnF f k).dome = headOk f.dome := by simp only [headOk, turnF, turnL_len]; rfl
  have e2 : ∀ g, goreOk (turnF f k).dome g = goreOk f.dome g := fun g => rfl
  have e3 : (turnF f k).dome.rounds = f.dome.rounds := rfl
  have e4 : ∀ n, widthOk (turnF f k).dome n = widthOk f.dome n := fun n => rfl
  have e5 : (turnF f k).dome.bolts = f.dome.bolts := rfl
  have e6 : (turnF f k).dome.widths = f.dome.widths := rfl
  rw [e1, e3, e5, e6]
  have e7 : f.dome.gores.all (goreOk f.dome) = true → (turnF f k).dome.gores.all (goreOk (turnF f k).dome) = true := by
   intro h
   rw [Qy] at h ⊢
   intro g hg
   exact h g (turnL_mem hg)
  split at h1
  ·rename_i h5
   simp only [Ql] at h5
   obtain ⟨⟨⟨a1, a2⟩, a3⟩, a4⟩ := h5
   rw [if_pos]
   ·exact h1
   ·simp only [Ql]; exact ⟨⟨⟨a1, e7 a2⟩, a3⟩, a4⟩
  ·cases h1
 have h4 : goodFig (turnF f k) = true := by
  unfold goodFig at h2 ⊢
  simp only [turnF, turnL_len]
  simp only [Ql] at h2 ⊢
  obtain ⟨⟨⟨⟨⟨⟨a1, a2⟩, a3⟩, a4⟩, a5⟩, a6⟩, a7⟩ := h2
  refine ⟨⟨⟨⟨⟨⟨a1, a2⟩, a3⟩, a4⟩, a5⟩, ?_⟩, ?_⟩
  ·rw [Qy] at a6 ⊢
   exact fun x hx => a6 x (turnL_mem hx)
  ·rw [Qy] at a7 ⊢
   exact fun x hx => a7 x (turnL_mem hx)
 unfold figCheck
 rw [if_neg (by simp [h3]), if_pos h4]
theorem turn_open {f : Fig} (h : openE f true = 0) (k : Nat) : openE (turnF f k) true = 0 := by
 obtain ⟨h1, _, h2⟩ := openE_ok h
 have h3 := turn_check h1 k
 have h4 : check (turnF f k).dome = 0 := by
  unfold figCheck at h3
  split at h3
  ·rename_i h5; exact absurd h3 h5
  ·rename_i h5; exact Classical.not_not.1 h5
 unfold openE
 rw [if_neg (by simp [h3]), if_pos rfl]
 unfold pitchE at h2 ⊢
 rw [if_neg (by simp [h4]), if_pos rfl]
 split at h2
 ·rename_i h5; exact absurd h2 h5
 ·exact h2
theorem turn_moves {f : Fig} {k i : Nat} (hi : i < f.dome.gores.length) : movesAt (ringOf (turnF f k)) i = movesAt (ringOf f) ((i + k) % f.dome.gores.length : Nat) := by
 have hm : (i + k) % f.dome.gores.length < f.dome.gores.length := Qb _ (by omega)
 have e : (turnF f k).dome.gores = turnL f.dome.gores k := rfl
 unfold movesAt ringOf
 simp only [Zo, Za, e]
 rw [turnL_get hi, Qa, Qc hm]
 rfl
theorem mod_turn {i k n : Nat} : ((i + 1) % n + k) % n = ((i + k) % n + 1) % n := by
 rw [Qh, Qh, show i + 1 + k = i + k + 1 by omega]
theorem turn_own {f : Fig} (h : figCheck f = 0) {k i : Nat} (hi : i < f.starts.length) : ownN (ringOf (turnF f k)) i = ownN (ringOf f) ((i + k) % f.starts.length : Nat) := by
 have hns := (validF_of h).ns
 have hl : (turnF f k).starts.length = f.starts.length := turnL_len _ _
 have hm : (i + k) % f.starts.length < f.starts.length := Qb _ (by omega)
 have hm1 : (i + 1) % f.starts.length < f.starts.length := Qb _ (by omega)
 rw [ownN_get h hm, ownN_get (turn_check h k) (by omega), turn_moves (by omega), hl, hns.symm]
 have e : ∀ j, j < f.starts.length → (turnF f k).starts.getD j 0 = f.starts.getD ((j + k) % f.starts.length) 0 := fun j hj => turnL_getD hj
 rw [e _ hi, e _ hm1, mod_turn]
 rfl
theorem turn_nb {f : Fig} (h : figCheck f = 0) {near : Int} {l : List Int} (hl : NB (ringOf f) near l) (k : Nat) : NB (ringOf (turnF f k)) near (turnL l k) := by
 have hn := (validF_of h).dome.ng
 have hml : (ringOf f).moves.length = f.dome.gores.length := by simp [ringOf]
 have hml' : (ringOf (turnF f k)).moves.length = f.dome.gores.length := by simp [ringOf, turnF, turnL_len]
 have hll := hl.len
 rw [hml] at hll
 refine ⟨by rw [turnL_len, hml', hll], fun x hx => hl.in_ x (turnL_mem hx), fun i hi => ?_⟩
 rw [hml'] at hi ⊢
 have hm : (i + k) % f.dome.gores.length < f.dome.gores.length := Qb _ (by omega)
 have hm1 : (i + 1) % f.dome.gores.length < f.dome.gores.length := Qb _ (by omega)
 have := hl.meet ((i + k) % f.dome.gores.length) (by rw [hml]; exact hm)
 rw [hml] at this
 rw [turn_moves hi, turnL_getD (by omega), turnL_getD (by omega), hll, mod_turn]
 exact this
theorem turn_nb' {f : Fig} (h : figCheck f = 0) {near : Int} {l : List Int} {k : Nat} (hl : NB (ringOf (turnF f k)) near l) : NB (ringOf f) near (turnL l (backN f.dome.gores.length k)) := by
 have hv := validF_of h
 have hn := hv.dome.ng
 have := turn_nb (turn_check h k) hl (backN f.dome.gores.length k)
 rwa [turnF_back hv.ns hv.nt (by omega)] at this
theorem turn_least {f : Fig} (h : openE f true = 0) (k : Nat) : leastR (turnF f k) = leastR f := by
 obtain ⟨h1, _, _⟩ := openE_ok h
 have he : (turnF f k).near = f.near := rfl
 rcases least_cases h with ⟨e1, n1⟩ | ⟨l1, b1, e1, p1, m1⟩
 ·rcases least_cases (turn_open h k) with ⟨e2, n2⟩ | ⟨l2, b2, e2, p2, m2⟩
  ·rw [e1, e2]
  ·exact absurd (turn_nb' h1 b2) (n1 _)
 ·rcases least_cases (turn_open h k) with ⟨e2, n2⟩ | ⟨l2, b2, e2, p2, m2⟩
  ·exact absurd (turn_nb h1 b1 k) (n2 _)
  ·have a1 := m1 _ (turn_nb' h1 b2)
   have a2 := m2 _ (turn_nb h1 b1 k)
   rw [turnL_sum] at a1 a2
   rw [e1, e2, show l1.sum = l2.sum by omega]
theorem turn_closest {f : Fig} (h : openE f true = 0) (k : Nat) : closestR (turnF f k) = closestR f := by
 obtain ⟨h1, _, _⟩ := openE_ok h
 have r1 := okR_of h1
 have r2 := okR_of (turn_check h1 k)
 have a : ∀ near : Int, 0 ≤ near → ((closestN (ringOf (turnF f k)) : Int) ≤ near ↔ (closestN (ringOf f) : Int) ≤ near) := fun near h0 => by
  rw [← closest_iff r1 h0, ← closest_iff r2 h0]
  exact ⟨fun ⟨l, hl⟩ => ⟨_, turn_nb' h1 hl⟩, fun ⟨l, hl⟩ => ⟨_, turn_nb h1 hl k⟩⟩
 have b1 := (a (closestN (ringOf f) : Nat) (by omega)).2 (Zq _)
 have b2 := (a (closestN (ringOf (turnF f k)) : Nat) (by omega)).1 (Zq _)
 unfold closestR
 rw [if_pos h, if_pos (turn_open h k), show closestN (ringOf (turnF f k)) = closestN (ringOf f) by omega]
theorem seg_turn {t : List Int} (hn : 0 < t.length) (k a m : Nat) : seg (turnL t k) a m = seg t (a + k) m := by
 unfold seg
 refine Z8 fun q _ => ?_
 rw [turnL_len, turnL_getD (Qb _ hn), Qh, show a + q + k = a + k + q by omega]
theorem ring_turn {t : List Int} (hn : 0 < t.length) (k : Nat) {x : Int} (hx : x ∈ ringC (turnL t k)) : x ∈ ringC t := by
 obtain ⟨s, hs⟩ := Z4 hx
 have hsl := getElemLt hs
 rw [ringC_len, turnL_len] at hsl
 rw [ringC_get (by rw [turnL_len]; exact hsl), turnL_len, seg_turn hn, turnL_getD hsl, ← seg_mod, mod_turn] at hs
 have := ringC_get (t := t) (s := (s + k) % t.length) (Qb _ hn)
 rw [hs] at this
 exact Zg this
theorem turn_minL {t : List Int} (hn : 0 < t.length) (k : Nat) : minL (ringC t) ≤ minL (ringC (turnL t k)) := by
 have ne : ringC (turnL t k) ≠ [] := by
  intro e
  have := ringC_len (turnL t k)
  rw [e, turnL_len] at this
  simp at this; omega
 exact minL_le (ring_turn hn k (minL_mem ne))
theorem turn_soon {f : Fig} (h : figCheck f = 0) (k : Nat) : soonR (turnF f k) = soonR f := by
 have hT := okT_of h
 have hT' := okT_of (turn_check h k)
 have hn : 0 < f.times.length := by have := hT.1; omega
 unfold soonR
 rw [if_neg (Classical.not_not.2 h), if_neg (Classical.not_not.2 (turn_check h k)), soon_eq hT, soon_eq hT']
 have e : (turnF f k).times = turnL f.times k := rfl
 rw [e]
 have a1 := turn_minL hn k
 have a2 := turn_minL (t := turnL f.times k) (by rw [turnL_len]; exact hn) (backN f.times.length k)
 rw [turnL_back rfl hn] at a2
 rw [show minL (ringC (turnL f.times k)) = minL (ringC f.times) by omega]
end Go.C02
set_option linter.unusedSimpArgs false
set_option linter.unusedVariables false
namespace Go.C02
open Go.Fam Go.Proofs
structure Ok40 (a : Fig × Int) : Prop where
 f : Ok21 a.1
 k : 0 ≤ a.2 ∧ a.2 ≤ 1000
 s : a.1.starts.length = a.1.dome.gores.length
 t : a.1.times.length = a.1.dome.gores.length
 n : a.1.dome.gores.length ≤ 16
theorem W40 (a : Fig × Int) (h : Ok40 a) : PureCall Try.prog 40 (eFN a) (.ag (eFig (turnF a.1 a.2.toNat))) := by
 have := (O40 a.1 a.2.toNat h.f (by have := h.k; omega) h.s h.t h.n).toPure
 rw [turn_vw] at this
 have e : ((a.2.toNat : Nat) : Int) = a.2 := by have := h.k; omega
 rw [e] at this
 exact this
noncomputable def HD : Gam := HB.ext 40 (fnG eFN dFN Ok40 (fun a => turnF a.1 a.2.toNat) (fun f => .ag (eFig f)))
theorem okHD : GOk Try.prog HD := okHB.ext (f := 40) (fun a w => Try.call40 a w) (fnG_ok (e := eFN) (d := dFN) (ok := Ok40) (g := fun a => turnF a.1 a.2.toNat) (eb := fun f => V.ag (eFig f)) fun a h => by have := W40 _ h; simpa [dFN_e] using this)
theorem d40 (f : Fig) (n : Int) : HD 40 [.ag (eFig f), .i n] = (Ok40 (f, n), .ag (eFig (turnF f n.toNat))) :=
 (show HD 40 _ = fnG eFN dFN Ok40 (fun a => turnF a.1 a.2.toNat) (fun f => .ag (eFig f)) (eFN (f, n)) from rfl).trans (fnG_at _ (dFN_e _))
theorem d16 (f : Fig) : HD 16 [.ag (eFig f)] = (True, .b (readyF f)) := b16 f
theorem d38 (f : Fig) (n : Int) : HD 38 [.ag (eFig f), .i n] = (f.dome.gores.length < 1000000, eNE (meetsR f n)) := b38 f n
theorem d18 (f : Fig) : HD 18 [.ag (eFig f)] = (True, eNE (leastR f)) := b18 f
theorem d22 (f : Fig) : HD 22 [.ag (eFig f)] = (True, eNE (closestR f)) := b22 f
theorem d26 (f : Fig) : HD 26 [.ag (eFig f)] = (True, eNE (soonR f)) := b26 f
theorem d17 : HD 17 [] = (True, .b true) := b17
set_option maxRecDepth 20000 in
set_option maxHeartbeats 4000000 in
theorem P11 (f : Fig) (by_ seam : Int) : PureCall Try.prog 11 [.ag (eFig f), .i by_, .i seam] (.b true) := by
 refine pure_body okHD hmix Try.func11 cb11 cc11 cs11 cn11 ?_
 have g1 := d16 f
 have g9 := d17
 simp only [eFig] at g1
 cases hf : readyF f with
 | false => simp only [rc11, rs11, g1, g9, hf, ru_reg, ru_seq, ru_cnd, ru_ret, ru_keep, thenQ, run_nil, run_cons, Fam.step, stepQ, needQ, condB, ug, evO, opv, qv, pickV_bb, binV, ldV, lenV, callV, V.cells, solid, hasRef, hasRefL, flat, upd_some, lkp_cons, lkp_nil, ↓reduceIte, Nat.reduceEqDiff, Nat.reduceAdd, Nat.reduceLT, Nat.reduceLeDiff, Qj, Qq, Qs, Qv, Qm, Qi, Qe, Qn, Qk, Qw, Qr, Qf, endQ, rvs, rv1, resV, vw_i, vw_b, vw_sl, vw_ag, zipA, Qt, Qu, Q1, Qx, Q2, Zn, Qg, Q4, and_true, and_self, forall_const, implies_true, reduceCtorEq, beq_false, imp_self, Qd, eFig]
 | true =>
  have hf' := hf
  unfold readyF at hf'
  rw [Ql, Bool.not_eq_true', decide_eq_true_eq] at hf'
  obtain ⟨hfar, he⟩ := hf'
  obtain ⟨h1, _, hp⟩ := openE_ok he
  have hv := validF_of h1
  have hns := hv.ns
  have hng := hv.dome.ng
  have h21 := farRing_ok (farF_ring hfar)
  by_cases hm1 : by_ < 0
  case pos => simp only [rc11, rs11, g1, g9, hf, hm1, ru_reg, ru_seq, ru_cnd, ru_ret, ru_keep, thenQ, run_nil, run_cons, Fam.step, stepQ, needQ, condB, ug, evO, opv, qv, pickV_bb, binV, ldV, lenV, callV, V.cells, solid, hasRef, hasRefL, flat, upd_some, lkp_cons, lkp_nil, ↓reduceIte, Nat.reduceEqDiff, Nat.reduceAdd, Nat.reduceLT, Nat.reduceLeDiff, Qj, Qq, Qs, Qv, Qm, Qi, Qe, Qn, Qk, Qw, Qr, Qf, endQ, rvs, rv1, resV, vw_i, vw_b, vw_sl, vw_ag, zipA, beq_self_eq_true, Qt, Qu, Q1, Qx, Q2, Qg, Q4, decide_true, and_true, and_self, forall_const, implies_true, reduceCtorEq, beq_false, imp_self, Qd, eFig]
  by_cases hm2 : 1000 < by_
  case pos => simp only [rc11, rs11, g1, g9, hf, hm1, hm2, ru_reg, ru_seq, ru_cnd, ru_ret, ru_keep, thenQ, run_nil, run_cons, Fam.step, stepQ, needQ, condB, ug, evO, opv, qv, pickV_bb, binV, ldV, lenV, callV, V.cells, solid, hasRef, hasRefL, flat, upd_some, lkp_cons, lkp_nil, ↓reduceIte, Nat.reduceEqDiff, Nat.reduceAdd, Nat.reduceLT, Nat.reduceLeDiff, Qj, Qq, Qs, Qv, Qm, Qi, Qe, Qn, Qk, Qw, Qr, Qf, endQ, rvs, rv1, resV, vw_i, vw_b, vw_sl, vw_ag, zipA, beq_self_eq_true, Qt, Qu, Q1, Qx, Q2, Qg, Q4, decide_true, decide_false, and_true, and_self, forall_const, implies_true, reduceCtorEq, beq_false, imp_self, Qd, eFig]
  by_cases hs1 : seam < 0
  case pos => simp only [rc11, rs11, g1, g9, hf, hm1, hm2, hs1, ru_reg, ru_seq, ru_cnd, ru_ret, ru_keep, thenQ, run_nil, run_cons, Fam.step, stepQ, needQ, condB, ug, evO, opv, qv, pickV_bb, binV, ldV, lenV, callV, V.cells, solid, hasRef, hasRefL, flat, upd_some, lkp_cons, lkp_nil, ↓reduceIte, Nat.reduceEqDiff, Nat.reduceAdd, Nat.reduceLT, Nat.reduceLeDiff, Qj, Qq, Qs, Qv, Qm, Qi, Qe, Qn, Qk, Qw, Qr, Qf, endQ, rvs, rv1, resV, vw_i, vw_b, vw_sl, vw_ag, zipA, beq_self_eq_true, Qt, Qu, Q1, Qx, Q2, Qg, Q4, decide_true, decide_false, and_true, and_self, forall_const, implies_true, reduceCtorEq, beq_false, imp_self, Qd, eFig]
  by_cases hs2 : (f.starts.length : Int) ≤ seam
  case pos => simp only [rc11, rs11, g1, g9, hf, hm1, hm2, hs1, hs2, ru_reg, ru_seq, ru_cnd, ru_ret, ru_keep, thenQ, run_nil, run_cons, Fam.step, stepQ, needQ, condB, ug, evO, opv, qv, pickV_bb, binV, ldV, lenV, callV, V.cells, solid, hasRef, hasRefL, flat, upd_some, lkp_cons, lkp_nil, ↓reduceIte, Nat.reduceEqDiff, Nat.reduceAdd, Nat.reduceLT, Nat.reduceLeDiff, Qj, Qq, Qs, Qv, Qm, Qi, Qe, Qn, Qk, Qw, Qr, Qf, endQ, rvs, rv1, resV, vw_i, vw_b, vw_sl, vw_ag, zipA, beq_self_eq_true, Qt, Qu, Qx, Q2, Qg, decide_true, decide_false, and_self, forall_const, implies_true, reduceCtorEq, Qd, eFig]
  have hok : Ok40 (f, by_) := ⟨h21, ⟨by omega, by omega⟩, hns, hv.nt, hng.2⟩
  have g2 := d40 f by_
  have g3 := d38 f ((seam + by_).tmod f.starts.length)
  have g4 := d38 (turnF f by_.toNat) seam
  have g5 := d18 f
  have g6 := d18 (turnF f by_.toNat)
  have g7 := d22 f
  have g8 := d22 (turnF f by_.toNat)
  have g10 := d26 f
  have g11 := d26 (turnF f by_.toNat)
  have hj : (seam + by_).tmod f.starts.length = (((seam.toNat + by_.toNat) % f.starts.length : Nat) : Int) := by
   rw [Q8 (by omega), Zx, Zh, show ((seam.toNat : Nat) : Int) = seam by omega, show ((by_.toNat : Nat) : Int) = by_ by omega]
  have hjl : (seam.toNat + by_.toNat) % f.starts.length < f.starts.length := Qb _ (by omega)
  have hot := turn_open he by_.toNat
  have hgt : (turnF f by_.toNat).dome.gores.length = f.dome.gores.length := turnL_len _ _
  have hme : meetsR (turnF f by_.toNat) seam = meetsR f ((seam + by_).tmod f.starts.length) := by
   unfold meetsR
   have w1 : within seam 0 (((turnF f by_.toNat).dome.gores.length : Int) - 1) = true := by simp only [within, Ql, decide_eq_true_eq]; omega
   have w2 : within ((seam + by_).tmod f.starts.length) 0 ((f.dome.gores.length : Int) - 1) = true := by rw [hj]; simp only [within, Ql, decide_eq_true_eq]; omega
   rw [w1, w2, if_pos he, if_pos hot, hj]
   have := turn_own h1 (k := by_.toNat) (i := seam.toNat) (by omega)
   rw [show ((seam.toNat : Nat) : Int) = seam by omega] at this
   rw [this]
  rw [hme] at g4
  rw [turn_least he] at g6
  rw [turn_closest he] at g8
  rw [turn_soon h1] at g11
  have hgl : f.dome.gores.length < 1000000 := by omega
  rw [hgt] at g4
  have hin : inI (seam + by_) := by unfold inI; omega
  have hn0 : ¬ (f.starts.length : Int) = 0 := by omega
  obtain ⟨T, hT⟩ : ∃ T, T = turnF f by_.toNat := ⟨_, rfl⟩
  rw [← hT] at g2 g4 g6 g8 g11
  simp only [eFig, eNE] at g2 g3 g4 g5 g6 g7 g8 g10 g11
  simp only [rc11, rs11, g1, g2, g3, g4, g5, g6, g7, g8, g10, g11, g9, hf, hm1, hm2, hs1, hs2, hok, hgl, hin, hn0, eq_self, ru_skip, ru_reg, ru_any, ru_seq, ru_cnd, ru_ret, ru_keep, putBs, putB, thenQ, run_nil, run_cons, Fam.step, stepQ, stepW, needQ, needW, condB, ug, runX, eff, nextD, fpR, fpQ, fpV, disjB, hits, putB, nv, sv, evO, opv, qv, pickV_bb, binV, ldV, lenV, callV, putAt, V.cells, solid, cellOk, hasRef, hasRefL, flat, flatL, upd_some, upd_none, lkp_cons, lkp_nil, ↓reduceIte, Nat.reduceEqDiff, Nat.reduceAdd, Nat.reduceLT, Nat.reduceLeDiff, Qj, Qq, Qs, Qv, Qm, Qi, Qe, Qn, Zw, Qk, Zb, Qw, Qr, Zf, Q6, Qf, Qo, Qp, Zs, Zy, Zz, Q3, Zi, Z0, endQ, rvs, rv1, resV, vw_i, vw_b, vw_sl, vw_ag, zipA, beq_self_eq_true, Qt, Qu, Q1, Zm, Xm, Qx, Q2, Zn, Qg, Q4, decide_true, decide_false, and_self, forall_const, implies_true, reduceCtorEq, not_false_eq_true, ne_eq, Xf, Zt, imp_self, Qd, Qa, eFig]
end Go.C02
