import Derived.Test.YtcdgojonaloclaaG3
import Derived.Test.YtcdgojonaloclaaChecked
import Derived.Test.YtcdgojonaloclaaG8
set_option linter.all false
open List renaming getD_eq_getElem?_getD → Qa, map_cons → Qb, length_map → Qc, map_nil → Qd, getElem?_set_ne → Qf, getElem?_eq_getElem → Qg, length_cons → Qh, getElem?_cons_succ → Qj, length_nil → Qk, getElem?_map → Ql, take_succ_cons → Qm, append_nil → Qn, drop_zero → Qo, headD_cons → Qt, getElem?_cons_zero → Qu, all_cons → Qv, getElem?_nil → Qw, all_nil → Qx, getElem?_append_right → Q1, take_nil → Q2, cons_append → Q3, replicate_zero → Q4, flatten_cons → Q5, nil_append → Q6, set_cons_zero → Q8, drop_succ_cons → Zb, set_append_right → Zc, length_take → Zd, mem_of_getElem? → Ze, take_zero → Zf, contains_nil → Zg, all_eq_true → Zh, isEmpty_nil → Zj, getElem?_eq_none → Zl, set_cons_succ → Zp, getElem?_set_self → Zq, append_assoc → Zr, any_nil → Zs, replicate_succ → Zt, length_append → Zy, contains_cons → Zz, take_of_length_le → Z1, isEmpty_cons → Z3, length_drop → Z4, flatten_nil → Z6, drop_nil → Z7, getElem?_drop → Xb, getElem?_take_of_lt → Xf, any_cons → Xh, take_length → Xi, length_set → Xn, map_append → Xp, mem_range → Xr, mem_of_mem_take → Xs, getElem?_of_mem → Xt, filter_eq_self → Xu, pairwise_cons → Xx, getElem?_set → Xy, mem_map → Xz, ext_getElem? → X0, mem_filter → X4, drop → X5
open Nat renaming zero_add → Qi, mod_lt → Qq, add_sub_cancel_left → Q0, le_refl → Zm, add_zero → Z2, mod_add_mod → Z9, lt_or_gt_of_ne → Xa, lt_trichotomy → Xe, succ_mul → Xk, sub_self → Xm, mul_le_mul_left → Xv, add_assoc → Xw, mul_one → X1, div_add_mod → X2, strongRecOn → X3
open Bool renaming false_eq_true → Qe, or_false → Qp, and_self → Qs, and_true → Qy, not_true → Qz, true_eq_false → Q9, not_false → Za, false_and → Zk, not_eq_true' → Zn, and_eq_true → Zo, false_or → Z8, and_false → Xc, true_and → Xg, or_eq_true → Xo
open Option renaming getD_some → Qr, map_some → Q7, getD_none → Zi, map_eq_some_iff → Xl
open Int renaming lt_irrefl → Zu, natCast_add → Zv, natCast_one → Zw, natCast_nonneg → Zx, toNat_natCast → Z0, natCast_zero → Z5, tdiv_eq_ediv_of_nonneg → Xd, le_trans → Xj, le_refl → Xq
set_option maxRecDepth 8000
namespace Go.C02
open Go.Fam Go.Proofs
def rc14 : RC := (.seq (.reg false [(cX 3 0), (cX 5 2), (cQ 6 [] (.mv (kB false)))]) (.keep [1,3,5] (.seq (.seq (.reg true [(cLd 24 3 true 11), (cQ 25 [24] (.call (kF 29) [(.t 24)])), (cMv 26 25), (gQ 27 26 false [3] (.ld true 11 (.t 3))), (gQ 28 26 false [27] (.call (kF 36) [(.t 27)])), (gQ 29 26 false [28] (.bin .neq (.t 28) (kI 0))), (cQ 30 [26,29] (.pick (.t 26) (kB true) (.t 29))), (cMv 31 30), (gMv 32 31 false 1), (gQ 33 31 false [32] (.bin .lss (.t 32) (kI 0))), (cQ 34 [31,33] (.pick (.t 31) (kB true) (.t 33))), (cMv 35 34), (gMv 36 35 false 1), (gQ 37 35 false [3] (.fad 0 (.t 3))), (gQ 38 35 false [37] (.fad 0 (.t 37))), (gQ 39 35 false [38] (.ld false 1 (.t 38))), (gQ 40 35 false [39] (.len (.t 39))), (gQ 41 35 false [36,40] (.bin .geq (.t 36) (.t 40))), (cQ 42 [35,41] (.pick (.t 35) (kB true) (.t 41))), (cMv 43 42), (gQ 44 43 false [3] (.fad 0 (.t 3))), (gQ 45 43 false [44] (.fad 0 (.t 44))), (gQ 46 43 false [45] (.ld false 1 (.t 45))), (gMv 47 43 false 1), (gQ 48 43 false [46,47] (.iad 4 (.t 46) (.t 47))), (gQ 49 43 false [48] (.fad 2 (.t 48))), (gQ 50 43 false [49] (.ld false 1 (.t 49))), (gQ 51 43 false [50] (.len (.t 50))), (gQ 52 43 false [51] (.bin .geq (.t 51) (kI 8))), (cQ 53 [43,52] (.pick (.t 43) (kB true) (.t 52)))]) (.keep [1,3,5,53] (.cond (.t 53) (.seq (.reg false [(cQ 54 [] (.call (kF 44) [])), (cMv 6 54)]) .ret) .skip))) (.keep [1,3,5] (.seq (.reg false [(cLd 55 3 true 11), (cQ 56 [55] (.call (kF 21) [(.t 55)])), ⟨(some 7), none, [], none, .w (.alc [(.z 4), (.z 1), (.i 0), (.z 2), (.z 1), (.i 0), (.i 0), (.i 0), (.i 0), (.z 1), (.z 1)])⟩, ⟨none, none, [7,56], none, .w (.st 11 (.t 7) (.t 56))⟩]) (.keep [1,3,5,7] (.seq (.any false 1 [⟨(cFa 57 7 0), [], []⟩, ⟨(cFa 58 57 0), [], [0]⟩, ⟨(cLd 59 58 false 1), [], [1,0]⟩, ⟨(cMv 60 1), [], []⟩, ⟨(cFa 61 7 0), [], []⟩, ⟨(cFa 62 61 0), [], [4]⟩, ⟨(cLd 63 62 false 1), [], [5,4]⟩, ⟨(cMv 64 1), [], []⟩, ⟨(cA 65 4 63 64), [], [6,5,4,7]⟩, ⟨(cFa 66 65 2), [], [8,6,5,4,7]⟩, ⟨(cLd 67 66 false 1), [], [9,8,6,5,4,7]⟩, ⟨(cLd 68 5 true 3), [], []⟩, ⟨(cQ 69 [68] (.bsl 3 1 [(.i 0), (.i 0), (.i 0)] [(0,3, (.t 68))])), [], [11]⟩, ⟨⟨(some 70), none, [67,69], (some 0), .w (.app 3 (.t 67) (.t 69))⟩, [0,1,2,3], [10,9,8,6,5,4,7,12,11]⟩, ⟨(cA 71 4 59 60), [], [2,1,0,3,4,5,6,7,8,9,10,11,12,13]⟩, ⟨(cFa 72 71 2), [], [14,2,1,0,3,4,5,6,7,8,9,10,11,12,13]⟩, ⟨⟨none, none, [72,70], none, .w (.st 1 (.t 72) (.t 70))⟩, [], [15,14,2,1,0,3,4,5,6,7,8,9,10,11,12,13]⟩]) (.keep [3,7] (.seq (.seq (.reg false [(cLd 73 7 true 11), (cQ 74 [73] (.call (kF 36) [(.t 73)])), (cC 75 .neq 74 0)]) (.keep [3,7,75] (.cond (.t 75) (.seq (.reg false [(cQ 76 [] (.call (kF 44) [])), (cMv 6 76)]) .ret) .skip))) (.keep [3,7] (.seq (.reg false [(cLd 78 3 true 11), (cQ 79 [78] (.call (kF 19) [(.t 78)])), (cMv 77 79), (cEx 80 77 0), (cEx 81 77 1), (cMv 8 80), (cMv 9 81)]) (.keep [3,7,8,9] (.seq (.reg false [(cLd 83 7 true 11), (cQ 84 [83] (.call (kF 19) [(.t 83)])), (cMv 82 84), (cEx 85 82 0), (cEx 86 82 1), (cMv 10 85), (cMv 11 86)]) (.keep [3,7,8,9,10,11] (.seq (.reg false [(cFa 88 3 0), (cLd 89 88 true 6), (cQ 90 [89] (.call (kF 45) [(.t 89)])), (cMv 87 90), (cEx 91 87 0), (cEx 92 87 1), (cMv 12 91), (cMv 13 92)]) (.keep [3,7,8,9,10,11,12,13] (.seq (.reg false [(cFa 94 7 0), (cLd 95 94 true 6), (cQ 96 [95] (.call (kF 45) [(.t 95)])), (cMv 93 96), (cEx 97 93 0), (cEx 98 93 1), (cMv 14 97), (cMv 15 98)]) (.keep [3,7,8,9,10,11,12,13,14,15] (.seq (.reg false [(cLd 100 3 true 11), (cQ 101 [100] (.call (kF 22) [(.t 100)])), (cMv 99 101), (cEx 102 99 0), (cEx 103 99 1), (cMv 16 102), (cMv 17 103)]) (.keep [3,7,8,9,10,11,12,13,14,15,16,17] (.seq (.reg false [(cLd 105 7 true 11), (cQ 106 [105] (.call (kF 22) [(.t 105)])), (cMv 104 106), (cEx 107 104 0), (cEx 108 104 1), (cMv 18 107), (cMv 19 108)]) (.keep [3,7,8,9,10,11,12,13,14,15,16,17,18,19] (.seq (.reg false [(cLd 110 3 true 11), (cQ 111 [110] (.call (kF 18) [(.t 110)])), (cMv 109 111), (cEx 112 109 0), (cEx 113 109 1), (cMv 20 112), (cMv 21 113)]) (.keep [7,8,9,10,11,12,13,14,15,16,17,18,19,20,21] (.seq (.reg false [(cLd 115 7 true 11), (cQ 116 [115] (.call (kF 18) [(.t 115)])), (cMv 114 116), (cEx 117 114 0), (cEx 118 114 1), (cMv 22 117), (cMv 23 118)]) (.keep [8,9,10,11,12,13,14,15,16,17,18,19,20,21,22,23] (.seq (.seq (.reg true [(cMv 119 9), (cC 120 .neq 119 0), (cMv 121 120), (gMv 122 121 false 11), (gQ 123 121 false [122] (.bin .neq (.t 122) (kI 0))), (cQ 124 [121,123] (.pick (.t 121) (kB true) (.t 123))), (cMv 125 124), (gMv 126 125 false 13), (gQ 127 125 false [126] (.bin .neq (.t 126) (kI 0))), (cQ 128 [125,127] (.pick (.t 125) (kB true) (.t 127))), (cMv 129 128), (gMv 130 129 false 15), (gQ 131 129 false [130] (.bin .neq (.t 130) (kI 0))), (cQ 132 [129,131] (.pick (.t 129) (kB true) (.t 131))), (cMv 133 132), (gMv 134 133 false 17), (gQ 135 133 false [134] (.bin .neq (.t 134) (kI 0))), (cQ 136 [133,135] (.pick (.t 133) (kB true) (.t 135))), (cMv 137 136), (gMv 138 137 false 19), (gQ 139 137 false [138] (.bin .neq (.t 138) (kI 0))), (cQ 140 [137,139] (.pick (.t 137) (kB true) (.t 139))), (cMv 141 140), (gMv 142 141 false 10), (gQ 143 141 false [142] (.len (.t 142))), (gQ 144 141 false [143] (.bin .gtr (.t 143) (kI 20))), (cQ 145 [141,144] (.pick (.t 141) (kB true) (.t 144))), (cMv 146 145), (gMv 147 146 false 14), (gQ 148 146 false [147] (.len (.t 147))), (gQ 149 146 false [148] (.bin .gtr (.t 148) (kI 20))), (cQ 150 [146,149] (.pick (.t 146) (kB true) (.t 149))), (cMv 151 150), (gMv 152 151 false 10), (gMv 153 151 false 8), (gQ 154 151 false [152,153] (.call (kF 46) [(.t 152), (.t 153)])), (gQ 155 151 false [154] (.not (.t 154))), (cQ 156 [151,155] (.pick (.t 151) (kB true) (.t 155))), (cMv 157 156), (gMv 158 157 false 14), (gMv 159 157 false 12), (gQ 160 157 false [158,159] (.call (kF 46) [(.t 158), (.t 159)])), (gQ 161 157 false [160] (.not (.t 160))), (cQ 162 [157,161] (.pick (.t 157) (kB true) (.t 161))), (cMv 163 162), (gMv 164 163 false 18), (gMv 165 163 false 16), (gQ 166 163 false [164,165] (.bin .gtr (.t 164) (.t 165))), (cQ 167 [163,166] (.pick (.t 163) (kB true) (.t 166)))]) (.keep [20,21,22,23,167] (.cond (.t 167) (.seq (.reg false [(cQ 6 [] (.mv (kB false)))]) .ret) .skip))) (.keep [20,21,22,23] (.seq (.reg true [(cMv 168 21), (cC 169 .neq 168 0), (cMv 170 169), (gMv 171 170 false 23), (gQ 172 170 false [171] (.bin .eql (.t 171) (kI 0))), (gMv 173 170 false 172), (gMv 174 173 true 22), (gMv 175 173 true 20), (gQ 176 173 true [174,175] (.bin .leq (.t 174) (.t 175))), (gQ 177 170 false [173,176] (.pick (.t 173) (.t 176) (kB false))), (cQ 178 [170,177] (.pick (.t 170) (kB true) (.t 177))), (cMv 179 178), (gQ 180 179 true [] (.call (kF 44) [])), (cQ 181 [179,180] (.pick (.t 179) (.t 180) (kB false))), (cMv 6 181)]) .ret)))))))))))))))))))))))))))))
def pu14 : List Nat := [3,5,69]
def rs14 : List RV := [.t 6]
theorem cc14 : CCx Try.prog Try.f14 pu14 rc14 := by unfold CCx; kernel_rfl
theorem cb14 : CBx Try.f14 := by unfold CBx; kernel_rfl
theorem cs14 : CSx Try.prog Try.f14 rs14 := by unfold CSx; kernel_rfl
theorem cn14 : 3 ≤ Try.f14.ntmps := by decide
end Go.C02
namespace Go.C02
open Go.Fam Go.Proofs
section
variable (f : Fig) (l k : List Int) (n : Int)
theorem b18 : HB 18 [.ag (eFig f)] = (True, eNE (Qe9 f)) := y18 f
theorem b22 : HB 22 [.ag (eFig f)] = (True, eNE (Qco f)) := y22 f
theorem b19 : HB 19 [.ag (eFig f)] = (True, eLE (badR f)) := y19 f
theorem b29 : HB 29 [.ag (eFig f)] = (True, .b (farF f)) := z29 f
theorem b36 : HB 36 [.ag (eFig f)] = (f.starts.length < 10000000 ∧ f.times.length < 10000000, .i (Qc2 f true)) := z36 f
end
theorem Ok21.lens {f : Fig} (h : Ok21 f) : f.starts.length < 10000000 ∧ f.times.length < 10000000 := ⟨by have := h.s; omega, by have := h.t; omega⟩
theorem Zfs (f : Fig) : (badR f).1.length ≤ f.dome.gores.length := by
 unfold badR
 split
 ·exact Qp7 _ _
 ·simp
end Go.C02
set_option maxRecDepth 8000
namespace Go.C02.N
open Go.Fam Go.Proofs
end Go.C02.N
namespace Go.C02
open Go.Fam Go.Proofs
theorem Zeg {f : Fig} (h : Qc2 f true = 0) : (Qe9 f = (0, 3) ∧ ∀ l, ¬ NB (Qb0 f) f.near l) ∨ (∃ l, NB (Qb0 f) f.near l ∧ Qe9 f = (l.sum, 0) ∧ 0 ≤ l.sum ∧ ∀ l', NB (Qb0 f) f.near l' → l.sum ≤ l'.sum) := by
 obtain ⟨h1, _, _⟩ := Qek h
 have hb := fun l => Qno (Qiz h1) f.near l
 unfold Qe9
 rw [if_pos h]
 rcases Qll h1 with ⟨e, hno⟩ | ⟨l, hl, e, h0, hmin⟩
 ·have : Qcu (Begs (Qb0 f) f.near) none := fun l hl => hno l ((hb l).1 hl)
  rw [Qli this]
  exact .inl ⟨rfl, hno⟩
 ·have : Qcu (Begs (Qb0 f) f.near) (some l) := ⟨(hb l).2 hl, fun l' hl' => hmin l' ((hb l').1 hl')⟩
  rw [Qli this]
  exact .inr ⟨l, hl, rfl, h0, hmin⟩
end Go.C02
namespace Go.C02
open Go.Fam Go.Proofs
end Go.C02
namespace Go.C02
open Go.Fam Go.Proofs
theorem Zes {p : Int} {ms : List Int} {later near : Int} : Qim p ms later near = ms.length ↔ ∀ x ∈ ms, farN p x later ≤ near := by
 unfold Qim
 constructor
 ·intro h x hx
  have := Xu.1 (List.Sublist.eq_of_length List.filter_sublist h) x hx
  simpa using this
 ·intro h
  rw [Xu.2 fun x hx => decide_eq_true (h x hx)]
theorem Zfo {p : Int} {ms : List Int} {later near near' : Int} (h : Qci p ms later near = 1) (hn : near ≤ near') : Qci p ms later near' = 1 := by
 rw [Qwj, Zes] at h ⊢
 intro x hx
 have := h x hx
 omega
theorem Zgh {r : Ring} {near near' : Int} (hn : near ≤ near') {l : List Int} (h : NB r near l) : NB r near' l :=
 ⟨h.len, h.in_, fun i hi => Zfo (h.meet i hi) hn⟩
theorem Zec {r : Ring} (h : OkR r) {near : Int} (h0 : 0 ≤ near) : (∃ l, NB r near l) ↔ (Qc1 r : Int) ≤ near := by
 obtain ⟨c1, c2, c3⟩ := Qg0 h
 constructor
 ·intro hx
  rw [← Qty h near, ← Qkz] at hx
  refine Classical.byContradiction fun hn => ?_
  have := c3 near.toNat (by omega)
  rw [show ((near.toNat : Nat) : Int) = near by omega, hx] at this
  cases this
 ·intro hx
  rw [Qkz, Qty h] at c2
  obtain ⟨l, hl⟩ := c2
  exact ⟨l, Zgh hx hl⟩
end Go.C02
namespace Go.C02
open Go.Fam Go.Proofs
theorem fl_I (l : List Int) : (l.map eI).flatten = l.map V.i := by
 induction l with
 | nil => rfl
 | cons a l ih => rw [Qb, Q5, ih]; rfl
theorem nr_i (o : List Int) : Qa6 (o.map V.i) = false := by induction o <;> simp_all [Qa6, Qaa]
end Go.C02
namespace Go.C02
open Go.Fam Go.Proofs
inductive Sch (t : List Int) (b : Nat → Int) : Nat → Nat → Int → Prop
 | nil (f : Nat) : Sch t b f 0 0
 | cut (f c k : Nat) (D1 D2 : Int) (hk : k < c) (h1 : Sch t b f k D1) (h2 : Sch t b (f + k + 1) (c - k - 1) D2) (hb : b (f + k) = max D1 D2) : Sch t b f c (max D1 D2 + t.getD ((f + k) % t.length) 0)
theorem Sch.congr {t : List Int} {b b' : Nat → Int} {f c : Nat} {D : Int} (h : Sch t b f c D) : (∀ q, f ≤ q → q < f + c → b q = b' q) → Sch t b' f c D := by
 induction h with
 | nil f => intro _; exact .nil f
 | cut f c k D1 D2 hk h1 h2 hb ih1 ih2 =>
  intro he
  exact .cut f c k D1 D2 hk (ih1 fun q h3 h4 => he q h3 (by omega)) (ih2 fun q h3 h4 => he q (by omega) (by omega)) (by rw [← he _ (by omega) (by omega)]; exact hb)
theorem Sch.in_ {t : List Int} (ht : ∀ x ∈ t, 1 ≤ x) (hn : 0 < t.length) {b : Nat → Int} {f c : Nat} {D : Int} (h : Sch t b f c D) : 0 ≤ D ∧ ∀ q, f ≤ q → q < f + c → 0 ≤ b q ∧ b q + t.getD (q % t.length) 0 ≤ D := by
 induction h with
 | nil f => exact ⟨by omega, fun q h1 h2 => by omega⟩
 | cut f c k D1 D2 hk h1 h2 hb ih1 ih2 =>
  obtain ⟨a1, a2⟩ := ih1
  obtain ⟨b1, b2⟩ := ih2
  have hx := Ql8 (P := fun x => 1 ≤ x) (Qq (f + k) hn) ht
  refine ⟨by omega, fun q h3 h4 => ?_⟩
  rcases Xe q (f + k) with h | h | h
  ·have := a2 q h3 (by omega); omega
  ·subst h
   rw [hb]
   have := Xq (max D1 D2 + t.getD ((f + k) % t.length) 0)
   omega
  ·have := b2 q (by omega) (by omega); omega
theorem Sch.apart {t : List Int} (ht : ∀ x ∈ t, 1 ≤ x) (hn : 0 < t.length) {b : Nat → Int} {f c : Nat} {D : Int} (h : Sch t b f c D) : ∀ q, f ≤ q → q < f + c → ∃ lo hi, (f ≤ lo ∧ lo ≤ q ∧ q < hi ∧ hi ≤ f + c) ∧
  (lo = f ∨ b q < b (lo - 1) + t.getD ((lo - 1) % t.length) 0 ∧ b q + t.getD (q % t.length) 0 ≤ b (lo - 1)) ∧ (hi = f + c ∨ b q < b hi + t.getD (hi % t.length) 0 ∧ b q + t.getD (q % t.length) 0 ≤ b hi) ∧
  ∀ q', f ≤ q' → q' < f + c → q' ≠ q → (lo ≤ q' ∧ q' < hi → b q' + t.getD (q' % t.length) 0 ≤ b q) := by
 induction h with
 | nil f => intro q h1 h2; omega
 | cut f c k D1 D2 hk h1 h2 hb ih1 ih2 =>
  intro q h3 h4
  have i1 := h1.in_ ht hn
  have i2 := h2.in_ ht hn
  rcases Xe q (f + k) with h | h | h
  ·obtain ⟨lo, hi, hr, hl, hh, hin⟩ := ih1 q h3 h
   have hq := i1.2 q h3 h
   have htq := Ql8 (P := fun x => 1 ≤ x) (Qq q hn) ht
   have htk := Ql8 (P := fun x => 1 ≤ x) (Qq (f + k) hn) ht
   refine ⟨lo, hi, by omega, hl, ?_, fun q' h5 h6 hne h7 => hin q' h5 (by omega) hne h7⟩
   right
   rcases hh with hh | hh
   ·subst hh; rw [hb]; omega
   ·exact hh
  ·subst h
   refine ⟨f, f + c, by omega, .inl rfl, .inl rfl, fun q' h5 h6 hne _ => ?_⟩
   rw [hb]
   rcases Xa hne with h7 | h7
   ·have := i1.2 q' h5 h7; omega
   ·have := i2.2 q' (by omega) (by omega); omega
  ·obtain ⟨lo, hi, hr, hl, hh, hin⟩ := ih2 q (by omega) (by omega)
   have hq := i2.2 q (by omega) (by omega)
   have htq := Ql8 (P := fun x => 1 ≤ x) (Qq q hn) ht
   have htk := Ql8 (P := fun x => 1 ≤ x) (Qq (f + k) hn) ht
   refine ⟨lo, hi, by omega, ?_, ?_, fun q' h5 h6 hne h7 => hin q' (by omega) (by omega) hne h7⟩
   ·right
    rcases hl with hl | hl
    ·subst hl
     rw [show f + k + 1 - 1 = f + k by omega, hb]; omega
    ·exact hl
   ·rcases hh with hh | hh
    ·left; omega
    ·exact .inr hh
theorem Zfb {n f q q' : Nat} (h1 : f ≤ q ∧ q < f + n) (h2 : f ≤ q' ∧ q' < f + n) (h : q % n = q' % n) : q = q' := by
 have hn : 0 < n := by omega
 have a1 := X2 q n
 have a2 := X2 q' n
 rcases Xe (q / n) (q' / n) with e | e | e
 ·have : n * (q / n + 1) ≤ n * (q' / n) := Xv n e
  rw [Nat.mul_add, X1] at this; omega
 ·rw [e] at a1; omega
 ·have : n * (q' / n + 1) ≤ n * (q / n) := Xv n e
  rw [Nat.mul_add, X1] at this; omega
end Go.C02
namespace Go.C02
open Go.Fam Go.Proofs
theorem Ze3 {l : List Bool} {i j : Nat} {v : Bool} (hi : i < l.length) : (l.set i v).getD j false = if j = i then v else l.getD j false := by
 simp only [Qa, Xy]
 by_cases h : i = j
 ·subst h; simp [hi]
 ·rw [if_neg h, if_neg (fun e => h e.symm)]
theorem Zev {t b : List Int} {seam : Nat} {out : List Bool} {i g : Nat} (hl : out.length = b.length) (hi : i < b.length) :
  (occ1 t b seam out i).getD g false = true ↔ out.getD g false = true ∨ ((b.getD i 0 + t.getD i 0 ≤ b.getD seam 0 ∧ (out.getD i false = true ∨ out.getD ((i + 1) % b.length) false = true)) ∧ (g = i ∨ g = (i + 1) % b.length)) := by
 unfold occ1
 have hn : (i + 1) % b.length < b.length := Qq _ (by omega)
 split
 ·rename_i h
  rw [Ze3 (by rw [Xn]; omega), Ze3 (by omega)]
  by_cases h1 : g = (i + 1) % b.length
  ·rw [if_pos h1]
   exact ⟨fun _ => .inr ⟨h, .inr h1⟩, fun _ => rfl⟩
  ·rw [if_neg h1]
   by_cases h2 : g = i
   ·rw [if_pos h2]
    exact ⟨fun _ => .inr ⟨h, .inl h2⟩, fun _ => rfl⟩
   ·rw [if_neg h2]
    exact ⟨.inl, fun h' => h'.resolve_right fun h'' => h''.2.elim h2 h1⟩
 ·rename_i h
  constructor
  ·exact .inl
  ·rintro (h' | ⟨h', _⟩)
   ·exact h'
   ·exact absurd h' h
theorem Zeh {t b : List Int} {seam : Nat} {out : List Bool} (hl : out.length = b.length) {g : Nat} (hg : out.getD g false = true) : ∀ j, j ≤ b.length → (occR t b seam out j).getD g false = true := by
 intro j
 induction j with
 | zero => intro _; exact hg
 | succ j ih =>
  intro hj
  rw [Qwt, Zev (by rw [Qt8, hl]) (by omega)]
  exact .inl (ih (by omega))
theorem Zf6 {t b : List Int} {seam : Nat} {out : List Bool} (hl : out.length = b.length) {i : Nat} (hi : i < b.length) (he : b.getD i 0 + t.getD i 0 ≤ b.getD seam 0) (ho : out.getD i false = true ∨ out.getD ((i + 1) % b.length) false = true) :
  (occR t b seam out b.length).getD i false = true ∧ (occR t b seam out b.length).getD ((i + 1) % b.length) false = true := by
 have key : ∀ j, i < j → j ≤ b.length → (occR t b seam out j).getD i false = true ∧ (occR t b seam out j).getD ((i + 1) % b.length) false = true := by
  intro j
  induction j with
  | zero => intro h; omega
  | succ j ih =>
   intro h1 h2
   rw [Qwt, Zev (by rw [Qt8, hl]) (by omega), Zev (by rw [Qt8, hl]) (by omega)]
   by_cases e : i = j
   ·subst e
    have := ho.imp (fun h => Zeh (t := t) (seam := seam) hl h i (by omega)) (fun h => Zeh (t := t) (seam := seam) hl h i (by omega))
    exact ⟨.inr ⟨⟨he, this⟩, .inl rfl⟩, .inr ⟨⟨he, this⟩, .inr rfl⟩⟩
   ·obtain ⟨k1, k2⟩ := ih (by omega) (by omega)
    exact ⟨.inl k1, .inl k2⟩
 exact key b.length hi (Zm _)
theorem Zea {t b : List Int} {seam g k : Nat} (hg : (occI t b seam k).getD g false = true) : ∀ j, k ≤ j → (occI t b seam j).getD g false = true := by
  intro j hj
  induction j with
  | zero => have : k = 0 := by omega
            subst this; exact hg
  | succ j ih =>
    by_cases e : k = j + 1
    · subst e; exact hg
    · exact Zeh (Qol _ _ _ _) (ih (by omega)) _ (Zm _)
theorem Ze8 {t b : List Int} {seam : Nat} (hs : seam < b.length) (k : Nat) : (occI t b seam k).getD seam false = true ∧ (occI t b seam k).getD ((seam + 1) % b.length) false = true := by
 have hn : (seam + 1) % b.length < b.length := Qq _ (by omega)
 have h0 : (occI t b seam 0).getD seam false = true ∧ (occI t b seam 0).getD ((seam + 1) % b.length) false = true := by
  unfold occI occ0
  constructor
  ·rw [Ze3 (by simp; omega), Ze3 (by simp; omega)]
   split <;> simp
  ·rw [Ze3 (by simp; omega), if_pos rfl]
 exact ⟨Zea h0.1 k (Nat.zero_le _), Zea h0.2 k (Nat.zero_le _)⟩
theorem Zfy {t b : List Int} {q : Nat} (hn : 0 < b.length) : ∀ r, r < b.length → (∀ j, 1 ≤ j → j ≤ r → b.getD ((q + j) % b.length) 0 + t.getD ((q + j) % b.length) 0 ≤ b.getD (q % b.length) 0) → (occI t b (q % b.length) r).getD ((q + r + 1) % b.length) false = true := by
 intro r
 induction r with
 | zero =>
  intro _ _
  have := (Ze8 (t := t) (b := b) (seam := q % b.length) (Qq _ hn) 0).2
  rwa [Z9] at this
 | succ r ih =>
  intro hr he
  have h1 := ih (by omega) fun j h1 h2 => he j h1 (by omega)
  have := (Zf6 (t := t) (b := b) (seam := q % b.length) (out := occI t b (q % b.length) r) (i := (q + (r + 1)) % b.length) (Qol _ _ _ _) (Qq _ hn) (he (r + 1) (by omega) (Zm _)) (.inl h1)).2
  rw [Z9] at this
  exact this
theorem Zg9 {t b : List Int} {q : Nat} (hn : 0 < b.length) : ∀ r, r < b.length → r ≤ q → (∀ j, 1 ≤ j → j ≤ r → b.getD ((q - j) % b.length) 0 + t.getD ((q - j) % b.length) 0 ≤ b.getD (q % b.length) 0) → (occI t b (q % b.length) r).getD ((q - r) % b.length) false = true := by
 intro r
 induction r with
 | zero =>
  intro _ _ _
  exact (Ze8 (t := t) (b := b) (seam := q % b.length) (Qq _ hn) 0).1
 | succ r ih =>
  intro hr hq he
  have h1 := ih (by omega) (by omega) fun j h1 h2 => he j h1 (by omega)
  have e1 : ((q - (r + 1)) % b.length + 1) % b.length = (q - r) % b.length := by rw [Z9, show q - (r + 1) + 1 = q - r by omega]
  exact (Zf6 (t := t) (b := b) (seam := q % b.length) (out := occI t b (q % b.length) r) (i := (q - (r + 1)) % b.length) (Qol _ _ _ _) (Qq _ hn) (he (r + 1) (by omega) (Zm _)) (.inr (by rw [e1]; exact h1))).1
theorem Zfg {t b : List Int} (hc : Qjf t b = true) {x y : Nat} (hx : x < b.length) (hy : y < b.length) (hne : x ≠ y) (h1 : ¬ b.getD x 0 + t.getD x 0 ≤ b.getD y 0) (h2 : ¬ b.getD y 0 + t.getD y 0 ≤ b.getD x 0) (g : Nat) (hg : g < b.length) : ¬ ((occN t b x).getD g false = true ∧ (occN t b y).getD g false = true) := by
 unfold Qjf at hc
 rw [Zo, Zh] at hc
 have key : ∀ a c, a < b.length → c < a → ¬ b.getD a 0 + t.getD a 0 ≤ b.getD c 0 → ¬ b.getD c 0 + t.getD c 0 ≤ b.getD a 0 → ¬ ((occN t b a).getD g false = true ∧ (occN t b c).getD g false = true) := by
  intro a c ha hca k1 k2 k3
  have := Zh.1 (hc.2 a (Xr.2 ha)) c (Xr.2 hca)
  unfold Qjm at this
  rw [Xo, Xo, decide_eq_true_eq, decide_eq_true_eq, Zh] at this
  rcases this with (h | h) | h
  ·exact k2 h
  ·exact k1 h
  ·have := h g (Xr.2 hg)
   rw [k3.1, k3.2] at this
   cases this
 rcases Xa hne with h | h
 ·exact fun hh => key y x hy h h2 h1 ⟨hh.2, hh.1⟩
 ·exact key x y hx h h1 h2
theorem Zel {t b : List Int} (ht : ∀ x ∈ t, 1 ≤ x) (hbt : b.length = t.length) (hc : Qjf t b = true) {f c q0 : Nat} (hcn : c ≤ b.length) (h0 : f ≤ q0 ∧ q0 < f + c) (hmax : ∀ q, f ≤ q → q < f + c → b.getD (q % b.length) 0 ≤ b.getD (q0 % b.length) 0) :
  ∀ q, f ≤ q → q < f + c → q ≠ q0 → b.getD (q % b.length) 0 + t.getD (q % b.length) 0 ≤ b.getD (q0 % b.length) 0 := by
 have hn : 0 < b.length := by omega
 have htp : ∀ q, 1 ≤ t.getD (q % b.length) 0 := fun q => Ql8 (P := fun x => 1 ≤ x) (by rw [← hbt]; exact Qq _ hn) ht
 have right : ∀ r, q0 + r < f + c → 1 ≤ r → b.getD ((q0 + r) % b.length) 0 + t.getD ((q0 + r) % b.length) 0 ≤ b.getD (q0 % b.length) 0 := by
  intro r
  induction r using X3 with
  | _ r ih =>
   intro h1 h2
   refine Classical.byContradiction fun hne => ?_
   have hocc := Zfy (t := t) (b := b) (q := q0) hn (r - 1) (by omega) fun j hj1 hj2 => ih j (by omega) (by omega) hj1
   rw [show q0 + (r - 1) + 1 = q0 + r by omega] at hocc
   have hocc := Zea hocc b.length (by omega)
   have hself := (Ze8 (t := t) (b := b) (seam := (q0 + r) % b.length) (Qq _ hn) b.length).1
   have hm := hmax (q0 + r) (by omega) h1
   have hp := htp q0
   exact Zfg hc (x := (q0 + r) % b.length) (y := q0 % b.length) (Qq _ hn) (Qq _ hn) (fun e => by
    have := Zfb (n := b.length) (f := f) (q := q0 + r) (q' := q0) (by omega) (by omega) e; omega) hne (by omega) _ (Qq _ hn) ⟨hself, hocc⟩
 have left : ∀ r, r ≤ q0 → f ≤ q0 - r → 1 ≤ r → b.getD ((q0 - r) % b.length) 0 + t.getD ((q0 - r) % b.length) 0 ≤ b.getD (q0 % b.length) 0 := by
  intro r
  induction r using X3 with
  | _ r ih =>
   intro h0' h1 h2
   refine Classical.byContradiction fun hne => ?_
   have hocc := Zg9 (t := t) (b := b) (q := q0) hn (r - 1) (by omega) (by omega) fun j hj1 hj2 => ih j (by omega) (by omega) (by omega) hj1
   have hocc := Zea hocc b.length (by omega)
   have hself := (Ze8 (t := t) (b := b) (seam := (q0 - r) % b.length) (Qq _ hn) b.length).2
   rw [Z9, show q0 - r + 1 = q0 - (r - 1) by omega] at hself
   have hm := hmax (q0 - r) (by omega) (by omega)
   have hp := htp q0
   exact Zfg hc (x := (q0 - r) % b.length) (y := q0 % b.length) (Qq _ hn) (Qq _ hn) (fun e => by
    have := Zfb (n := b.length) (f := f) (q := q0 - r) (q' := q0) (by omega) (by omega) e; omega) hne (by omega) _ (Qq _ hn) ⟨hself, hocc⟩
 intro q h1 h2 h3
 rcases Xa h3 with h | h
 ·have := left (q0 - q) (by omega) (by omega) (by omega)
  rwa [show q0 - (q0 - q) = q by omega] at this
 ·have := right (q - q0) (by omega) (by omega)
  rwa [show q0 + (q - q0) = q by omega] at this
theorem Zek (g : Nat → Int) : ∀ (c f : Nat), 0 < c → ∃ q0, (f ≤ q0 ∧ q0 < f + c) ∧ ∀ q, f ≤ q → q < f + c → g q ≤ g q0 := by
  intro c
  induction c with
  | zero => intro f h; omega
  | succ c ih =>
    intro f _
    by_cases h0 : c = 0
    · subst h0
      exact ⟨f, by omega, fun q h1 h2 => by have : q = f := by omega
                                            rw [this]; exact Xq _⟩
    · obtain ⟨q0, h1, h2⟩ := ih f (by omega)
      by_cases h : g q0 ≤ g (f + c)
      · refine ⟨f + c, by omega, fun q h3 h4 => ?_⟩
        by_cases e : q = f + c
        · rw [e]; exact Xq _
        · have := h2 q h3 (by omega); omega
      · refine ⟨q0, by omega, fun q h3 h4 => ?_⟩
        by_cases e : q = f + c
        · rw [e]; omega
        · exact h2 q h3 (by omega)
theorem Zfz {t b : List Int} (ht : ∀ x ∈ t, 1 ≤ x) (hb0 : ∀ x ∈ b, 0 ≤ x) (hbt : b.length = t.length) (hc : Qjf t b = true) : ∀ (n c f : Nat) (M : Int), c ≤ n → c ≤ b.length → 0 ≤ M → (∀ q, f ≤ q → q < f + c → b.getD (q % b.length) 0 + t.getD (q % b.length) 0 ≤ M) → Dn (seg t f c) ≤ M := by
 intro n
 induction n with
 | zero =>
  intro c f M h1 _ hM _
  have : c = 0 := by omega
  subst this
  exact hM
 | succ n ih =>
  intro c f M h1 h2 hM hq
  by_cases h0 : c = 0
  ·subst h0; exact hM
  obtain ⟨q0, hq0, hmax⟩ := Zek (fun q => b.getD (q % b.length) 0) c f (by omega)
  have hend := Zel ht hbt hc h2 hq0 hmax
  obtain ⟨k, rfl⟩ : ∃ k, q0 = f + k := ⟨q0 - f, by omega⟩
  have hbp : 0 ≤ b.getD ((f + k) % b.length) 0 := Ql8 (P := fun x => 0 ≤ x) (Qq _ (by omega)) hb0
  have d1 := ih k f _ (by omega) (by omega) hbp fun q h3 h4 => hend q h3 (by omega) (by omega)
  have d2 := ih (c - k - 1) (f + k + 1) _ (by omega) (by omega) hbp fun q h3 h4 => hend q (by omega) (by omega) (by omega)
  have d3 := Zd5 (l := seg t f c) (i := k) (by rw [Qg7]; omega)
  rw [Qow (by omega), Qrz (by omega), Qtn, Qxg] at d3
  have d4 := hq (f + k) (by omega) (by omega)
  rw [hbt] at d4 d1 d2
  omega
theorem Zgf (t b : List Int) : ∀ (n i : Nat), i < n → b.getD i 0 + t.getD i 0 ≤ endF t b n ∧ 0 ≤ endF t b n := by
 intro n
 induction n with
 | zero => intro i h; omega
 | succ n ih =>
  intro i hi
  unfold endF
  by_cases e : i = n
  ·subst e
   refine ⟨by omega, ?_⟩
   cases i with
   | zero => unfold endF; omega
   | succ i => have := (ih 0 (by omega)).2; omega
  ·have := ih i (by omega); omega
theorem sooner {t b : List Int} (hT : OkT t) (hc : Qjf t b = true) : minL (Qh1 t) ≤ endF t b b.length := by
 have hT1 := hT.1
 have ht : ∀ x ∈ t, 1 ≤ x := fun x hx => (hT.2.2 x hx).1
 have hc' := hc
 unfold Qjf at hc'
 rw [Zo, Qnm, Zo, decide_eq_true_eq, Zh] at hc'
 obtain ⟨⟨hbt, hbx⟩, _⟩ := hc'
 have hb0 : ∀ x ∈ b, 0 ≤ x := fun x hx => by have := hbx x hx; simp only [Qak, Zo, decide_eq_true_eq] at this; omega
 obtain ⟨q0, hq0, hmax⟩ := Zek (fun q => b.getD (q % b.length) 0) b.length 0 (by omega)
 have hend := Zel ht hbt hc (Zm _) hq0 hmax
 have hq0m : q0 % b.length = q0 := Nat.mod_eq_of_lt (by omega)
 have hbp : 0 ≤ b.getD (q0 % b.length) 0 := Ql8 (P := fun x => 0 ≤ x) (Qq _ (by omega)) hb0
 have d1 := Zfz ht hb0 hbt hc b.length (b.length - 1) (q0 + 1) _ (by omega) (by omega) hbp fun q h1 h2 => by
  have h3 : q % b.length < b.length := Qq _ (by omega)
  have h4 : q % b.length ≠ q0 := fun e => by
   have := Zfb (n := b.length) (f := q0) (q := q) (q' := q0) (by omega) (by omega) (by rw [e, hq0m]); omega
  have := hend (q % b.length) (by omega) (by omega) h4
  rwa [Nat.mod_mod] at this
 have hg := Qj3 (t := t) (s := q0) (by omega)
 rw [Qxg, ← hbt] at hg
 have h5 := Qwk (Ze hg)
 have h6 := (Zgf t b b.length q0 (by omega)).1
 rw [hq0m] at d1
 omega
end Go.C02
namespace Go.C02
open Go.Fam Go.Proofs
end Go.C02
namespace Go.C02
open Go.Fam Go.Proofs
def Zfl (l' l : List Int) : Prop := l'.length = l.length ∧ ∀ i, i < l.length → l'.getD i 0 ≤ l.getD i 0
theorem Zf3 {l : List Int} {k i : Nat} (h : i < k) : (l.take k).getD i 0 = l.getD i 0 := by
 simp only [Qa]; rw [Xf h]
theorem Zf2 {l : List Int} {k i : Nat} : (l.drop k).getD i 0 = l.getD (k + i) 0 := by
 simp only [Qa]; rw [Xb]
theorem Zfl.take {l' l : List Int} (h : Zfl l' l) (k : Nat) : Zfl (l'.take k) (l.take k) :=
 ⟨by rw [Zd, Zd, h.1], fun i hi => by
  rw [Zd] at hi
  rw [Zf3 (by omega), Zf3 (by omega)]; exact h.2 i (by omega)⟩
theorem Zfl.drop {l' l : List Int} (h : Zfl l' l) (k : Nat) : Zfl (l'.drop k) (l.drop k) :=
 ⟨by rw [Z4, Z4, h.1], fun i hi => by
  rw [Z4] at hi
  rw [Zf2, Zf2]; exact h.2 _ (by omega)⟩
end Go.C02
set_option maxRecDepth 8000
namespace Go.C02
open Go.Fam Go.Proofs
end Go.C02
namespace Go.C02
open Go.Fam Go.Proofs
end Go.C02
set_option maxRecDepth 8000
namespace Go.C02.N
open Go.Fam Go.Proofs
def rc21 : RC := (.seq (.reg false [(cX 1 0), ⟨(some 2), none, [], none, .w (.alc [(.z 4), (.z 1), (.i 0), (.z 2), (.z 1), (.i 0), (.i 0), (.i 0), (.i 0), (.z 1), (.z 1)])⟩]) (.keep [1,2] (.seq (.reg false [(cLd 4 1 true 11), ⟨(some 3), none, [], none, .w (.alc [(.z 4), (.z 1), (.i 0), (.z 2), (.z 1), (.i 0), (.i 0), (.i 0), (.i 0), (.z 1), (.z 1)])⟩, ⟨none, none, [3,4], none, .w (.st 11 (.t 3) (.t 4))⟩]) (.keep [1,2,3] (.seq (.reg false [(cFa 5 1 0), (cLd 6 5 true 6), ⟨(some 7), none, [6], none, .o (kF 55) [(.t 6)]⟩, (cFa 8 3 0), ⟨none, none, [8,7], none, .w (.st 6 (.t 8) (.t 7))⟩]) (.keep [1,2,3] (.seq (.any false 4 [⟨⟨(some 9), none, [], (some 0), .w (.bso 1 0 [(.i 0)] [])⟩, [], []⟩, ⟨(cFa 10 1 9), [0], []⟩, ⟨(cLd 11 10 false 1), [0], [1]⟩, ⟨⟨(some 12), none, [9,11], (some 1), .w (.app 1 (.t 9) (.t 11))⟩, [], [0,2,1]⟩, ⟨⟨(some 13), none, [], (some 2), .w (.bso 1 0 [(.i 0)] [])⟩, [0,1,2,3], []⟩, ⟨(cFa 14 1 10), [0,3,4], []⟩, ⟨(cLd 15 14 false 1), [0,3,4], [5]⟩, ⟨⟨(some 16), none, [13,15], (some 3), .w (.app 1 (.t 13) (.t 15))⟩, [], [4,6,5,3,0,2,1]⟩, ⟨(cFa 17 3 9), [4,7], [0,1,2,3]⟩, ⟨⟨none, none, [17,12], none, .w (.st 1 (.t 17) (.t 12))⟩, [], [8,0,1,2,3,7,4,6,5]⟩, ⟨(cFa 18 3 10), [], [0,1,2,3,4,5,6,7,8,9]⟩, ⟨⟨none, none, [18,16], none, .w (.st 1 (.t 18) (.t 16))⟩, [], [10,0,1,2,3,4,5,6,7,8,9]⟩]) (.keep [2,3] (.seq (.reg false [(cLd 19 3 true 11), ⟨none, none, [2,19], none, .w (.st 11 (.t 2) (.t 19))⟩]) .ret)))))))))
def pu21 : List Nat := [1000007,1]
def rs21 : List RV := [.c 2 true 11]
theorem cc21 : CCx Try.prog Try.f21 pu21 rc21 := by unfold CCx; kernel_rfl
theorem cb21 : CBx Try.f21 := by unfold CBx; kernel_rfl
theorem cs21 : CSx Try.prog Try.f21 rs21 := by unfold CSx; kernel_rfl
theorem cn21 : 1 ≤ Try.f21.ntmps := by decide
end Go.C02.N
namespace Go.C02
open Go.Fam Go.Proofs
end Go.C02
namespace Go.C02
open Go.Fam Go.Proofs
theorem e45 (d : Dome) : HB 45 [.ag (Qal d)] = (True, eLE (Qwh d)) :=
 (show HB 45 _ = r26 [.ag (Qal d)] from rfl).trans (Qb1 _ (Qdh _))
theorem e77 (d : Dome) (n : Int) : HB 77 [.ag (Qal d), .i n] = (d.rounds.length < 1000, eSE (Qxa d n)) :=
 (show HB 77 _ = r23 (eDN (d, n)) from rfl).trans (Qb1 _ (Qy5 _))
theorem e78 : HB 78 [] = (True, .ag (Qal exD)) := z78
theorem e49 : HB 49 [] = (True, .ag (eFig exF)) := y49
theorem Zfv : Qxa exD 2 = (⟨802, 808⟩, 0) := by kernel_rfl
theorem Zgg : Qbh Try.prog 50 2 := Qbh.of (fs := _) (show Try.prog.underlying 50 = some (.struct (Try.prog.fieldsOf 50)) by kernel_rfl) (by kernel_rfl) (by kernel_rfl)
theorem W44 : Qab Try.prog 44 [] (.b true) := by
 refine Qac okHB hmix Try.func44 cb44 cc44 cs44 cn44 ?_
 have g1 := e78
 have g2 := e77 exD 2
 have g3 := e49
 have g4 := b22 exF
 rw [Qu3] at g4
 rw [Zfv] at g2
 have hr : exD.rounds.length < 1000 := by decide
 have g2 := g2.trans (congrArg (fun p => (p, _)) (eq_true hr))
 simp only [eFig, exF, eNE, Qb, Qd, eI] at g3 g4
 simp only [Qal, eSE, eSpan] at g1 g2
 simp only [rc44, rs44, g1, g2, g3, g4, Zgg, Qa7, Qa8, Qai, Qa4, putB, Qae, Qa5, Qa2, Fam.step, Qaf, Qbi, Qbz, Qb4, Qbq, ug, putB, nv, sv, evO, opv, qv, Qb2, binV, ldV, Qaw, Qap, putAt, Qb7, V.cells, Qas, Qb3, Qdc, Qaa, Qa6, flat, Qcy, Qa3, Qat, Qa0, Qa1, ↓reduceIte, Nat.reduceEqDiff, Nat.reduceAdd, Nat.reduceLT, Nat.reduceLeDiff, Qb, Qd, Qv, Qx, Qh, Qk, Zb, Qo, Z7, Qm, Zf, Q2, Q3, Q6, Qn, Qu, Qj, Qr, Q8, endQ, rvs, rv1, resV, vw_i, vw_b, Qay, Qaz, zipA, beq_self_eq_true, Qi, V.b.injEq, Qs, Qy, Xc, Qp, Qe, Q9, decide_true, true_and, and_true, and_self, forall_const, implies_true, Q7, beq_true, Qff, Bool.decide_eq_true, imp_self]
 rfl
theorem W48 (a b : List Int) (h : a.length < 10000000) : Qab Try.prog 48 [.sl 1 (a.map eI), .sl 1 (b.map eI)] (.b (decide (a = b))) := by
 refine Qac okHB hmix Try.func48 cb48 cc48 cs48 cn48 ?_
 simp only [rc48, rs48, Qag, Qa7, Qa8, Qad, Qbe, Qa9, Qai, Qa4, Qae, Qa5, Qa2, Fam.step, Qaf, evO, opv, qv, binV, lenV, Qa3, Qa0, Qa1, ↓reduceIte, Nat.reduceEqDiff, Qb, Qd, endQ, rvs, rv1, resV, vw_b, zipA, Qi, V.b.injEq, decide_eq_false_iff_not, true_and, and_self, reduceCtorEq, Zn, Qc, Classical.not_not]
 refine ⟨fun e => ?_, fun e => ?_⟩
 ·have : ¬ a = b := fun h => e (by rw [h])
  rw [decide_eq_false this]
 have e : a.length = b.length := by omega
 refine Qb8 a.length (fun i => ⟨lkp [(0, .sl 1 (a.map eI)), (1, .sl 1 (b.map eI)), (5, .i i)], []⟩) (fun i => a.take i = b.take i) ?_ rfl ?_ ?_
 ·simp only [Z5, kp, Qa0, Qa1, ↓reduceIte, Nat.reduceEqDiff, Qb, Qd, reduceCtorEq]
 ·intro i hi hC
  obtain ⟨x, hx⟩ : ∃ x, a[i]? = some x := ⟨_, Qg hi⟩
  obtain ⟨y, hy⟩ : ∃ y, b[i]? = some y := ⟨_, Qg (by omega)⟩
  have hlt : (i : Int) < a.length := by omega
  have hlt2 : (i : Int) < b.length := by omega
  have h3 : inI ((i : Int) + 1) := by unfold inI; omega
  simp only [hx, hy, hlt, hlt2, h3, Zv, Zw, Qag, Qa7, Qbf, Qa8, Qad, Qbe, Qa9, Qai, Qa4, Qba, Qae, Qaj, Qa5, Qa2, Fam.step, Qaf, runX, eff, Qb9, fpR, fpQ, fpV, Qbp, hits, evO, opv, qv, binV, ldV, iadV, lenV, kp, Qa3, Qa0, Qa1, ↓reduceIte, Nat.reduceEqDiff, Nat.reduceLeDiff, Qb, Qd, Qx, Qh, Qk, Qt, Q3, Q6, Qn, Qw, Qr, Zi, Q4, Zj, endQ, rvs, rv1, resV, vw_b, Zx, Qi, V.b.injEq, Qs, Qy, Zk, Qp, Qz, Za, Qe, decide_true, decide_eq_false_iff_not, true_and, and_true, and_self, reduceCtorEq, Q7, Zs, Zg, Zn, Qc, Z0, Qa, Ql, Classical.not_not, eI]
  refine ⟨fun e1 => ?_, fun e1 => ?_⟩
  ·have : ¬ a = b := fun h => e1 (by rw [h, hy] at hx; exact (Option.some.inj hx).symm)
   rw [decide_eq_false this]
  ·rw [Qar hx, Qar hy, hC, e1]
 ·intro hC
  have : a = b := by
   rw [Xi] at hC
   rw [hC, Z1 (by omega)]
  simp only [Zu, Qa7, Qa8, Qad, Qam, Qai, Qa4, Qae, Qaj, Qa5, Qa2, Fam.step, Qaf, evO, opv, qv, binV, lenV, Qa3, Qa0, Qa1, ↓reduceIte, Nat.reduceEqDiff, Qb, Qd, endQ, rvs, rv1, resV, vw_b, Zu, V.b.injEq, Qe, decide_false, true_and, and_self, reduceCtorEq, Qc]
  rw [decide_eq_true this]
def subB (a b : List Int) : Bool := a.all fun x => decide (x ∈ b)
theorem W46 (a b : List Int) (h : a.length < 10000000) (hb : b.length < 10000000) : Qab Try.prog 46 [.sl 1 (a.map eI), .sl 1 (b.map eI)] (.b (subB a b)) := by
 refine Qac okHB hmix Try.func46 cb46 cc46 cs46 cn46 ?_
 simp only [rc46, rs46, Qa7, Qa8, Qa9, Qa4, Qae, Qa5, Qa2, Fam.step, Qaf, evO, opv, qv, Qa3, Qa0, Qa1, ↓reduceIte, Nat.reduceEqDiff, Qb, Qd, zipA, Qi, true_and, reduceCtorEq]
 refine Qb8 a.length (fun i => ⟨lkp [(0, .sl 1 (a.map eI)), (1, .sl 1 (b.map eI)), (5, .i i)], []⟩) (fun i => subB (a.take i) b = true) ?_ rfl ?_ ?_
 ·simp only [Z5, kp, Qa0, Qa1, ↓reduceIte, Nat.reduceEqDiff, Qb, Qd, reduceCtorEq]
 ·intro i hi hC
  obtain ⟨x, hx⟩ : ∃ x, a[i]? = some x := ⟨_, Qg hi⟩
  have hlt : (i : Int) < a.length := by omega
  have h3 : inI ((i : Int) + 1) := by unfold inI; omega
  simp only [hlt, Qag, Qa7, Qa8, Qad, Qa9, Qa4, Qae, Qa5, Qa2, Fam.step, Qaf, evO, opv, qv, binV, lenV, kp, Qa3, Qa0, Qa1, ↓reduceIte, Nat.reduceEqDiff, Qb, Qd, decide_true, true_and, reduceCtorEq, Qc]
  refine Qbg b.length (fun k => ⟨lkp [(0, .sl 1 (a.map eI)), (1, .sl 1 (b.map eI)), (5, .i i), (6, .b (decide (x ∈ b.take k))), (7, .i k)], []⟩) ?_ ?_ ?_
  ·simp only [Z5, List.not_mem_nil, kp, Qa0, Qa1, ↓reduceIte, Nat.reduceEqDiff, Qb, Qd, Zf, decide_false, reduceCtorEq]
  ·intro k hk
   obtain ⟨y, hy⟩ : ∃ y, b[k]? = some y := ⟨_, Qg hk⟩
   have hlt2 : (k : Int) < b.length := by omega
   have h4 : inI ((k : Int) + 1) := by unfold inI; omega
   have hm : decide (x ∈ b.take (k + 1)) = (decide (x ∈ b.take k) || decide (x = y)) := by
    rw [Bool.eq_iff_iff, decide_eq_true_eq, Xo, decide_eq_true_eq, decide_eq_true_eq, Qog hy]
   cases hd : decide (x ∈ b.take k) with
   | true => simp only [hx, hy, hlt, hlt2, h4, hm, hd, Zv, Zw, Qag, Qa7, Qbf, Qa8, Qad, Qa9, Qa4, Qba, Qae, Qaj, Qa5, Qa2, Fam.step, Qaf, Qbz, Qbq, ug, runX, eff, Qb9, fpR, fpQ, fpV, Qbp, hits, evO, opv, qv, Qb2, binV, ldV, iadV, lenV, kp, Qa3, Qa0, Qa1, ↓reduceIte, Nat.reduceEqDiff, Nat.reduceLeDiff, Qb, Qd, Qv, Qx, Qh, Qk, Qt, Q3, Q6, Qn, Qw, Qr, Zi, Q4, Zj, Zx, Qi, Qs, Qy, Zk, Qp, Bool.true_or, Qz, Za, Qe, Q9, decide_true, and_true, and_self, forall_const, implies_true, reduceCtorEq, Q7, Zs, Zg, beq_false, imp_self, Qc, Z0, Qa, Ql, eI]
   | false => simp only [hx, hy, hlt, hlt2, h4, hm, hd, Zv, Zw, Qag, Qa7, Qbf, Qa8, Qad, Qa9, Qa4, Qba, Qae, Qaj, Qa5, Qa2, Fam.step, Qaf, Qbz, Qbq, ug, runX, eff, Qb9, fpR, fpQ, fpV, Qbp, hits, evO, opv, qv, Qb2, binV, ldV, iadV, lenV, kp, Qa3, Qa0, Qa1, ↓reduceIte, Nat.reduceEqDiff, Nat.reduceLeDiff, Qb, Qd, Qv, Qx, Qh, Qk, Qt, Q3, Q6, Qn, Qw, Qr, Zi, Q4, Zj, Zx, beq_self_eq_true, Qi, Qs, Qy, Zk, Qp, Z8, Qz, Za, Qe, decide_true, and_self, forall_const, implies_true, reduceCtorEq, Q7, Zs, Zg, Qc, Z0, Qa, Ql, eI]
  ·simp only [Zu, Xi, Qag, Qa7, Qa8, Qad, Qbe, Qam, Qai, Qa4, Qae, Qaj, Qa5, Qa2, Fam.step, Qaf, evO, opv, qv, binV, lenV, Qa3, Qa0, Qa1, ↓reduceIte, Nat.reduceEqDiff, Qb, Qd, endQ, rvs, rv1, resV, vw_b, Zu, V.b.injEq, Qe, decide_false, decide_eq_false_iff_not, true_and, and_self, reduceCtorEq, Zn, Qc, Classical.not_not]
   refine ⟨fun e => ?_, fun e => ?_⟩
   ·have : subB a b = false := by
     rw [Bool.eq_false_iff]
     intro h
     unfold subB at h
     rw [Zh] at h
     have := h x (Ze hx)
     rw [decide_eq_true_eq] at this
     exact e this
    rw [this]
   ·simp only [h3, Zv, Zw, true_and, and_true]
    unfold subB at hC ⊢
    rw [Qar hx, List.all_append, hC]
    simpa using e
 ·intro hC
  rw [Xi] at hC
  simp only [Zu, hC, Qa7, Qa8, Qad, Qam, Qai, Qa4, Qae, Qaj, Qa5, Qa2, Fam.step, Qaf, evO, opv, qv, binV, lenV, Qa3, Qa0, Qa1, ↓reduceIte, Nat.reduceEqDiff, Qb, Qd, endQ, rvs, rv1, resV, vw_b, Zu, Qe, decide_false, and_self, reduceCtorEq, Qc]
def s46 : List V → Prop × V | [.sl 1 l, .sl 1 k] => ((l = (l.map dI).map eI ∧ k = (k.map dI).map eI) ∧ l.length < 10000000 ∧ k.length < 10000000, .b (subB (l.map dI) (k.map dI))) | _ => (False, .u)
theorem Zgj (vs : List V) (h : (s46 vs).1) : Qab Try.prog 46 vs (s46 vs).2 := by
 unfold s46 at h ⊢
 split at h
 ·rename_i l k
  have := W46 (l.map dI) (k.map dI) (by simpa using h.2.1) (by simpa using h.2.2)
  rw [← h.1.1, ← h.1.2] at this
  exact this
 ·exact h.elim
theorem Zgk (vs : List V) (h : (s32 vs).1) : Qab Try.prog 48 vs (s32 vs).2 := by
 unfold s32 at h ⊢
 split at h
 ·rename_i l k
  have := W48 (l.map dI) (k.map dI) (by simpa using h.2)
  rw [← h.1.1, ← h.1.2] at this
  exact this
 ·exact h.elim
noncomputable def HE : Gam := ((HB.ext 44 (fnG (fun _ : Unit => []) (fun _ => ()) (fun _ => True) (fun a => a) (fun _ => .b true))).ext 46 s46).ext 48 s32
theorem okHE : GOk Try.prog HE := by
 have k1 := okHB.ext (f := 44) (fun a w => Try.call44 a w) (Qau (e := fun _ : Unit => []) (d := fun _ => ()) (ok := fun _ => True) (g := fun a => a) (eb := fun _ => V.b true) fun _ _ => W44)
 have k2 := k1.ext (f := 46) (r := s46) (fun a w => Try.call46 a w) Zgj
 exact k2.ext (f := 48) (r := s32) (fun a w => Try.call48 a w) Zgk
theorem h44 : HE 44 [] = (True, .b true) := by
 refine (show HE 44 [] = fnG (fun _ : Unit => []) (fun _ => ()) (fun _ => True) (fun a => a) (fun _ => .b true) [] from rfl).trans ?_
 simp [fnG]
theorem h46 (l k : List Int) : HE 46 [.sl 1 (l.map eI), .sl 1 (k.map eI)] = (l.length < 10000000 ∧ k.length < 10000000, .b (subB l k)) := by
 refine (show HE 46 _ = s46 [.sl 1 (l.map eI), .sl 1 (k.map eI)] from rfl).trans ?_
 simp [s46, Qeu Qfc]
theorem h48 (l k : List Int) : HE 48 [.sl 1 (l.map eI), .sl 1 (k.map eI)] = (l.length < 10000000, .b (decide (l = k))) := by
 refine (show HE 48 _ = s32 [.sl 1 (l.map eI), .sl 1 (k.map eI)] from rfl).trans ?_
 simp [s32, Qeu Qfc]
end Go.C02
namespace Go.C02
open Go.Fam Go.Proofs
theorem Zeq {l : List Int} {f g : Int → Int} (h : ∀ x ∈ l, f x ≤ g x) : Qj8 l f ≤ Qj8 l g := by
 unfold Qj8
 induction l with
 | nil => simp
 | cons x l ih =>
  simp only [Qb, List.sum_cons]
  have := h x (by simp)
  have := ih fun y hy => h y (by simp [hy])
  omega
theorem Ze2 {l : List Int} (h : l.Pairwise (· < ·)) {x : Int} (hx : x ∈ l) : l.headD 0 ≤ x ∧ x ≤ l.getLastD 0 := by
 constructor
 ·cases l with
  | nil => cases hx
  | cons y l =>
   rw [Xx] at h
   rcases List.mem_cons.1 hx with rfl | hx
   ·simp
   ·have := h.1 x hx; simp; omega
 ·induction l generalizing x with
  | nil => cases hx
  | cons y l ih =>
   rw [Xx] at h
   cases l with
   | nil => simp at hx; subst hx; simp
   | cons z l =>
    have e : (y :: z :: l).getLastD 0 = (z :: l).getLastD 0 := by simp [List.getLastD_eq_getLast?, List.getLast?_cons]
    rw [e]
    rcases List.mem_cons.1 hx with rfl | hx
    ·have h1 := h.1 z (by simp)
     have h2 := ih h.2 (x := z) (by simp)
     omega
    ·exact ih h.2 hx
theorem Zef (lo hi : Int) : (ints lo hi).Pairwise (· < ·) := by
 unfold ints
 rw [List.pairwise_map]
 exact List.Pairwise.imp (fun h => by omega) List.pairwise_lt_range
theorem Zeb {d : Dome} (h : Good d) {g : Int} (hg : g ∈ d.gores) : 0 ≤ Qrn (Qc0 d) g ∧ Qrn (Qc0 d) g ≤ Qlb (Qc0 d) g := by
 have hgg := h.v.gores g hg
 obtain ⟨b, hb⟩ : ∃ b, d.bolts[g.toNat]? = some b := ⟨_, Qg (by omega)⟩
 have hbm := Ze hb
 have hc : (Qc0 d).can[g.toNat]? = some (Qan b) := by simp [Qc0, Qbj, hb]
 have hne := h.ne b hbm
 have hs : (Qan b).Pairwise (· < ·) := (Zef _ _).filter _
 simp only [Qrn, Qlb, hc, Qr]
 have h1 := Qw4 hne
 have h2 := Qgx (h.v.bolts b hbm) h1
 exact ⟨h2.1, (Ze2 hs h1).2⟩
end Go.C02
set_option maxRecDepth 8000
namespace Go.C02.N
open Go.Fam Go.Proofs
end Go.C02.N
namespace Go.C02
open Go.Fam Go.Proofs
end Go.C02
namespace Go.C02
open Go.Fam Go.Proofs
theorem Zei {a s t : Int} (h : 0 ≤ a) (hs : 0 ≤ s) (hst : s ≤ t) : pull a s ≤ pull a t := by
 have h1 : a * (1000 + s) ≤ a * (1000 + t) := Int.mul_le_mul_of_nonneg_left (by omega) h
 have h2 : 0 ≤ a * (1000 + s) := Int.mul_nonneg h (by omega)
 unfold pull
 rw [Xd h2, Xd (Xj h2 h1)]
 exact Int.ediv_le_ediv (by decide) h1
def Zeu (b : Bolt) (x : Strip) : Bolt := { b with strips := b.strips ++ [x] }
def Zdv (d : Dome) (k : Nat) (x : Strip) : Dome := { d with bolts := d.bolts.set k (Zeu (d.bolts.getD k ⟨⟨0, 0⟩, [], 0⟩) x) }
def Zdu (f : Fig) (k : Nat) (x : Strip) : Fig := { f with dome := Zdv f.dome k x }
theorem Zg7 {b : Bolt} {x : Strip} {s : Int} (h : can (Zeu b x) s = true) : can b s = true := by
 unfold can Zeu at h
 unfold can
 rw [Zo, decide_eq_true_eq] at h ⊢
 refine ⟨h.1, ?_⟩
 have h2 := h.2
 simp only [Qdl, List.countP_append] at h2 ⊢
 omega
theorem Zf5 {b : Bolt} {x : Strip} {s : Int} (h : s ∈ Qan (Zeu b x)) : s ∈ Qan b := by
 rw [Qoe] at h ⊢
 exact Zg7 h
theorem Zf9 {d : Dome} {k : Nat} {x : Strip} {g : Int} : Qdo (Zdv d k x) g = Qdo d g ∨ Qdo (Zdv d k x) g = Zeu (Qdo d g) x := by
 unfold Qdo Zdv
 simp only [Xy]
 split
 ·rename_i h
  split
  ·right
   rw [← h, Qa]; rfl
  ·left
   rename_i h2
   rw [← h, Zl (by omega)]
 ·left; rfl
theorem Zdy {d : Dome} {k : Nat} {x : Strip} {g s : Int} (h : s ∈ Qan (Qdo (Zdv d k x) g)) : s ∈ Qan (Qdo d g) := by
 rcases Zf9 (d := d) (k := k) (x := x) (g := g) with e | e
 ·rwa [e] at h
 ·rw [e] at h; exact Zf5 h
theorem Zem {f : Fig} {k : Nat} {x : Strip} {i n : Int} (h : n ∈ Qbt (Qb0 (Zdu f k x)) i) : n ∈ Qbt (Qb0 f) i := by
 unfold Qbt Qb0 at h ⊢
 simp only [Ql] at h ⊢
 have e : (Zdu f k x).dome.gores = f.dome.gores := rfl
 rw [e] at h
 cases hg : f.dome.gores[i.toNat]? with
 | none => rw [hg] at h; cases h
 | some g =>
  rw [hg] at h
  simp only [Q7, Qr] at h ⊢
  unfold Qgv at h ⊢
  obtain ⟨s, hs, rfl⟩ := Xz.1 h
  exact Xz.2 ⟨s, Zdy hs, rfl⟩
theorem Zf4 {p : Int} {ms ms' : List Int} {later near : Int} (h : Qci p ms later near = 1) (hs : ∀ n ∈ ms', n ∈ ms) : Qci p ms' later near = 1 := by
 have h1 : Qim p ms later near = ms.length := by
  unfold Qci at h
  split at h
  ·assumption
  ·split at h <;> cases h
 rw [Zes] at h1
 have h2 : Qim p ms' later near = ms'.length := Zes.2 fun x hx => h1 x (hs x hx)
 unfold Qci
 rw [if_pos h2]
theorem Zfc {f : Fig} {k : Nat} {x : Strip} {near : Int} {l : List Int} (h : NB (Qb0 f) near l) : NB (Qb0 (Zdu f k x)) near l := by
 have e : (Qb0 (Zdu f k x)).moves.length = (Qb0 f).moves.length := by simp [Qb0, Zdu, Zdv]
 refine ⟨by rw [e]; exact h.len, h.in_, fun i hi => ?_⟩
 rw [e] at hi ⊢
 exact Zf4 (h.meet i hi) fun n hn => Zem hn
theorem Zga {f : Fig} {k : Nat} {x : Strip} {s : Int} (h : ownN (Qb0 f) s = 1) : ownN (Qb0 (Zdu f k x)) s = 1 := by
 have e : (Qb0 (Zdu f k x)).moves.length = (Qb0 f).moves.length := by simp [Qb0, Zdu, Zdv]
 unfold ownN at h ⊢
 rw [e]
 exact Zf4 h fun n hn => Zem hn
theorem Zg6 {f : Fig} {k : Nat} {x : Strip} (he : Qc2 f true = 0) (he' : Qc2 (Zdu f k x) true = 0) : subB (badR (Zdu f k x)).1 (badR f).1 = true := by
 unfold badR
 rw [if_pos he, if_pos he']
 unfold subB
 rw [Zh]
 intro s hs
 rw [decide_eq_true_eq]
 unfold Qfz at hs ⊢
 rw [X4, decide_eq_true_eq] at hs ⊢
 have e : (Zdu f k x).dome.gores = f.dome.gores := rfl
 rw [e] at hs
 exact ⟨hs.1, fun h => hs.2 (Zga h)⟩
theorem Zez {f : Fig} {k : Nat} {x : Strip} (he : Qc2 f true = 0) (he' : Qc2 (Zdu f k x) true = 0) : (Qco f).2 = 0 ∧ (Qco (Zdu f k x)).2 = 0 ∧ (Qco (Zdu f k x)).1 ≤ (Qco f).1 := by
 have r1 := Qiz (Qek he).1
 have r2 := Qiz (Qek he').1
 unfold Qco
 rw [if_pos he, if_pos he']
 refine ⟨rfl, rfl, ?_⟩
 obtain ⟨l, hl⟩ := (Zec r1 (near := (Qc1 (Qb0 f) : Nat)) (by omega)).2 (Xq _)
 exact (Zec r2 (by omega)).1 ⟨l, Zfc hl⟩
theorem Zfm {f : Fig} {k : Nat} {x : Strip} (he : Qc2 f true = 0) (he' : Qc2 (Zdu f k x) true = 0) : (Qe9 f).2 ≠ 0 ∨ (Qe9 f).2 = 0 ∧ (Qe9 (Zdu f k x)).2 = 0 ∧ (Qe9 (Zdu f k x)).1 ≤ (Qe9 f).1 := by
 have e : (Zdu f k x).near = f.near := rfl
 rcases Zeg he with ⟨e1, n1⟩ | ⟨l1, b1, e1, p1, m1⟩
 ·left; rw [e1]; decide
 ·right
  rcases Zeg he' with ⟨e2, n2⟩ | ⟨l2, b2, e2, p2, m2⟩
  ·exact absurd (Zfc b1) (n2 _)
  ·rw [e1, e2]
   exact ⟨rfl, rfl, m2 _ (Zfc b1)⟩
theorem Zep (b : Bolt) : (Qan b).Pairwise (· < ·) := (Zef _ _).filter _
theorem Zff {d : Dome} {k : Nat} {x : Strip} (h : Good d) (h' : Good (Zdv d k x)) {g : Int} (hg : g ∈ d.gores) : Qrn (Qc0 d) g ≤ Qrn (Qc0 (Zdv d k x)) g ∧ Qlb (Qc0 (Zdv d k x)) g ≤ Qlb (Qc0 d) g := by
 have hgg := h.v.gores g hg
 have hgg' := h'.v.gores g hg
 have c1 : ((Qc0 d).can[g.toNat]?).getD [] = Qan (Qdo d g) := by
  obtain ⟨b, hb⟩ : ∃ b, d.bolts[g.toNat]? = some b := ⟨_, Qg (by omega)⟩
  simp [Qc0, Qbj, Qdo, hb]
 have c2 : ((Qc0 (Zdv d k x)).can[g.toNat]?).getD [] = Qan (Qdo (Zdv d k x) g) := by
  obtain ⟨b, hb⟩ : ∃ b, (Zdv d k x).bolts[g.toNat]? = some b := ⟨_, Qg (by omega)⟩
  simp [Qc0, Qbj, Qdo, hb]
 have ne : Qan (Qdo (Zdv d k x) g) ≠ [] := by
  obtain ⟨b, hb⟩ : ∃ b, (Zdv d k x).bolts[g.toNat]? = some b := ⟨_, Qg (by omega)⟩
  have : Qdo (Zdv d k x) g = b := by unfold Qdo; rw [hb]; rfl
  rw [this]
  exact h'.ne b (Ze hb)
 unfold Qrn Qlb
 rw [c1, c2]
 have m1 := Zdy (Qw4 ne)
 have m2 := Zdy (Qpz ne)
 exact ⟨(Ze2 (Zep _) m1).1, (Ze2 (Zep _) m2).2⟩
theorem Zfp {d : Dome} {k : Nat} {x : Strip} (h : Good d) (h' : Good (Zdv d k x)) {w : Int} (hw : 2 * d.loss ≤ w) : (Qe6 (Qc0 d) w).low ≤ (Qe6 (Qc0 (Zdv d k x)) w).low ∧ (Qe6 (Qc0 (Zdv d k x)) w).high ≤ (Qe6 (Qc0 d) w).high := by
 refine ⟨Zeq (l := d.gores) fun g hg => ?_, Zeq (l := d.gores) fun g hg => ?_⟩
 ·have a := Zff h h' hg
  have b := Zeb h hg
  exact Zei (by show 0 ≤ w - 2 * d.loss; omega) b.1 a.1
 ·have a := Zff h h' hg
  have b := Zeb h' (g := g) hg
  exact Zei (by show 0 ≤ w - 2 * d.loss; omega) (Xj b.1 b.2) a.2
theorem Zfn {d : Dome} {k : Nat} {x : Strip} (hp : Qbc d true = 0) (hp' : Qbc (Zdv d k x) true = 0) : subB (Qwh (Zdv d k x)).1 (Qwh d).1 = true := by
 obtain ⟨h, _⟩ := Qe4 hp
 obtain ⟨h', _⟩ := Qe4 hp'
 unfold Qwh
 rw [if_pos hp, if_pos hp']
 unfold subB
 rw [Zh]
 intro s hs
 rw [decide_eq_true_eq]
 unfold Qby at hs ⊢
 rw [X4, decide_eq_true_eq] at hs ⊢
 refine ⟨hs.1, fun ht => hs.2 ?_⟩
 have hi := Xs hs.1
 rw [Qiw] at hi
 have hi2 : 0 ≤ s ∧ s ≤ (d.widths.length : Int) - 1 := hi
 have hwm : 2 * d.loss ≤ Qdx d s := by
  have : d.widths[s.toNat]? = some (Qdx d s) := by
   unfold Qdx
   rw [Qg (by omega)]; rfl
  exact (h.v.widths _ (Ze this)).1
 have r := Zfp h h' hwm
 show Qg8 (Qc0 (Zdv d k x)) s (Qdx d s) = 1
 have hf : (Qd5 d s).low ≤ (Qe6 (Qc0 d) (Qdx d s)).low ∧ (Qe6 (Qc0 d) (Qdx d s)).high ≤ (Qd5 d s).high := by
  have := ht
  unfold Qg8 at this
  by_cases hc : (Qd5 (Qc0 d).dome s).low ≤ (Qe6 (Qc0 d) (Qdx d s)).low ∧ (Qe6 (Qc0 d) (Qdx d s)).high ≤ (Qd5 (Qc0 d).dome s).high
  ·exact hc
  ·rw [if_neg hc] at this
   split at this <;> omega
 unfold Qg8
 exact if_pos ⟨Xj hf.1 r.1, Xj r.2 hf.2⟩
end Go.C02
set_option maxRecDepth 8000
namespace Go.C02.N
open Go.Fam Go.Proofs
def rc55 : RC := (.seq (.reg false [(cX 1 0), ⟨(some 2), none, [], none, .w (.alc [(.z 4), (.z 1), (.i 0), (.z 2), (.z 1), (.i 0)])⟩]) (.keep [1,2] (.seq (.reg false [(cLd 5 1 true 6), ⟨(some 3), none, [], none, .w (.alc [(.z 4), (.z 1), (.i 0), (.z 2), (.z 1), (.i 0)])⟩, ⟨none, none, [3,5], none, .w (.st 6 (.t 3) (.t 5))⟩]) (.keep [1,2,3] (.seq (.reg false [⟨(some 6), none, [], none, .w (.bso 4 0 [(.i 0), (.i 0), (.z 3), (.i 0)] [])⟩, (cFa 7 1 0), (cLd 8 7 false 1), ⟨(some 9), none, [6,8], none, .w (.app 4 (.t 6) (.t 8))⟩, (cFa 10 3 0), ⟨none, none, [10,9], none, .w (.st 1 (.t 10) (.t 9))⟩]) (.keep [1,2,3] (.seq (.seq (.reg false [(cI 4 0)]) (.keep [1,2,3,4] (.block 0 (.loop [1,2,3,4] none (.seq (.seq (.reg false [(cMv 11 4), (cFa 12 3 0), (cLd 13 12 false 1), (cLn 14 13), (cB 15 .lss 11 14)]) (.keep [1,2,3,4,15] (.cond (.t 15) .skip (.exit 0)))) (.keep [1,2,3,4] (.seq (.block 1 (.any false 2 [⟨(cFa 18 3 0), [], []⟩, ⟨(cLd 19 18 false 1), [], [0]⟩, ⟨(cMv 20 4), [], []⟩, ⟨⟨(some 21), none, [], (some 0), .w (.bso 3 0 [(.i 0), (.i 0), (.i 0)] [])⟩, [0,1,2], []⟩, ⟨(cFa 22 1 0), [3], []⟩, ⟨(cLd 23 22 false 1), [3], [4]⟩, ⟨(cMv 24 4), [3], []⟩, ⟨(cA 25 4 23 24), [3], [5,4,6]⟩, ⟨(cFa 26 25 2), [3], [7,5,4,6]⟩, ⟨(cLd 27 26 false 1), [3], [8,7,5,4,6]⟩, ⟨⟨(some 28), none, [21,27], (some 1), .w (.app 3 (.t 21) (.t 27))⟩, [0,1,2], [3,9,8,7,5,4,6]⟩, ⟨(cA 29 4 19 20), [], [1,0,2,3,4,5,6,7,8,9,10]⟩, ⟨(cFa 30 29 2), [], [11,1,0,2,3,4,5,6,7,8,9,10]⟩, ⟨⟨none, none, [30,28], none, .w (.st 1 (.t 30) (.t 28))⟩, [], [12,11,1,0,2,3,4,5,6,7,8,9,10]⟩])) (.keep [1,2,3,4] (.reg false [(cMv 16 4), (cC 17 .add 16 1), (cMv 4 17)]))))))))) (.keep [1,2,3] (.seq (.any false 6 [⟨⟨(some 31), none, [], (some 0), .w (.bso 1 0 [(.i 0)] [])⟩, [], []⟩, ⟨(cFa 32 1 1), [0], []⟩, ⟨(cLd 33 32 false 1), [0], [1]⟩, ⟨⟨(some 34), none, [31,33], (some 1), .w (.app 1 (.t 31) (.t 33))⟩, [], [0,2,1]⟩, ⟨⟨(some 35), none, [], (some 2), .w (.bso 2 0 [(.i 0), (.i 0)] [])⟩, [0,1,2,3], []⟩, ⟨(cFa 36 1 3), [0,3,4], []⟩, ⟨(cLd 37 36 false 1), [0,3,4], [5]⟩, ⟨⟨(some 38), none, [35,37], (some 3), .w (.app 2 (.t 35) (.t 37))⟩, [], [4,6,5,3,0,2,1]⟩, ⟨⟨(some 39), none, [], (some 4), .w (.bso 1 0 [(.i 0)] [])⟩, [0,1,2,3,4,5,6,7], []⟩, ⟨(cFa 40 1 4), [0,3,4,7,8], []⟩, ⟨(cLd 41 40 false 1), [0,3,4,7,8], [9]⟩, ⟨⟨(some 42), none, [39,41], (some 5), .w (.app 1 (.t 39) (.t 41))⟩, [], [8,10,9,7,4,6,5,3,0,2,1]⟩, ⟨(cFa 43 3 1), [4,7,8,11], [0,1,2,3]⟩, ⟨⟨none, none, [43,34], none, .w (.st 1 (.t 43) (.t 34))⟩, [], [12,0,1,2,3,11,8,10,9,7,4,6,5]⟩, ⟨(cFa 44 3 3), [], [0,1,2,3,4,5,6,7,12,13,11,8,10,9]⟩, ⟨⟨none, none, [44,38], none, .w (.st 1 (.t 44) (.t 38))⟩, [], [14,0,1,2,3,4,5,6,7,12,13,11,8,10,9]⟩, ⟨(cFa 45 3 4), [], [0,1,2,3,4,5,6,7,8,9,10,11,12,13,14,15]⟩, ⟨⟨none, none, [45,42], none, .w (.st 1 (.t 45) (.t 42))⟩, [], [16,0,1,2,3,4,5,6,7,8,9,10,11,12,13,14,15]⟩]) (.keep [2,3] (.seq (.reg false [(cLd 46 3 true 6), ⟨none, none, [2,46], none, .w (.st 6 (.t 2) (.t 46))⟩]) .ret)))))))))))
def pu55 : List Nat := [1]
def rs55 : List RV := [.c 2 true 6]
theorem cc55 : CCx Try.prog Try.f55 pu55 rc55 := by unfold CCx; kernel_rfl
theorem cb55 : CBx Try.f55 := by unfold CBx; kernel_rfl
theorem cs55 : CSx Try.prog Try.f55 rs55 := by unfold CSx; kernel_rfl
theorem cn55 : 1 ≤ Try.f55.ntmps := by decide
end Go.C02.N
set_option maxRecDepth 8000
namespace Go.C02.M
open Go.Fam Go.Proofs
def rc14 : RC := (.seq (.reg false [(cX 3 0), (cX 5 2), (cQ 6 [] (.mv (kB false)))]) (.keep [1,3,5] (.seq (.seq (.reg true [(cLd 24 3 true 11), (cQ 25 [24] (.call (kF 29) [(.t 24)])), (cMv 26 25), (gQ 27 26 false [3] (.ld true 11 (.t 3))), (gQ 28 26 false [27] (.call (kF 36) [(.t 27)])), (gQ 29 26 false [28] (.bin .neq (.t 28) (kI 0))), (cQ 30 [26,29] (.pick (.t 26) (kB true) (.t 29))), (cMv 31 30), (gMv 32 31 false 1), (gQ 33 31 false [32] (.bin .lss (.t 32) (kI 0))), (cQ 34 [31,33] (.pick (.t 31) (kB true) (.t 33))), (cMv 35 34), (gMv 36 35 false 1), (gQ 37 35 false [3] (.fad 0 (.t 3))), (gQ 38 35 false [37] (.fad 0 (.t 37))), (gQ 39 35 false [38] (.ld false 1 (.t 38))), (gQ 40 35 false [39] (.len (.t 39))), (gQ 41 35 false [36,40] (.bin .geq (.t 36) (.t 40))), (cQ 42 [35,41] (.pick (.t 35) (kB true) (.t 41))), (cMv 43 42), (gQ 44 43 false [3] (.fad 0 (.t 3))), (gQ 45 43 false [44] (.fad 0 (.t 44))), (gQ 46 43 false [45] (.ld false 1 (.t 45))), (gMv 47 43 false 1), (gQ 48 43 false [46,47] (.iad 4 (.t 46) (.t 47))), (gQ 49 43 false [48] (.fad 2 (.t 48))), (gQ 50 43 false [49] (.ld false 1 (.t 49))), (gQ 51 43 false [50] (.len (.t 50))), (gQ 52 43 false [51] (.bin .geq (.t 51) (kI 8))), (cQ 53 [43,52] (.pick (.t 43) (kB true) (.t 52)))]) (.keep [1,3,5,53] (.cond (.t 53) (.seq (.reg false [(cQ 54 [] (.call (kF 44) [])), (cMv 6 54)]) .ret) .skip))) (.keep [1,3,5] (.seq (.reg false [(cLd 55 3 true 11), ⟨(some 56), none, [55], none, .o (kF 21) [(.t 55)]⟩, ⟨(some 7), none, [], none, .w (.alc [(.z 4), (.z 1), (.i 0), (.z 2), (.z 1), (.i 0), (.i 0), (.i 0), (.i 0), (.z 1), (.z 1)])⟩, ⟨none, none, [7,56], none, .w (.st 11 (.t 7) (.t 56))⟩]) (.keep [1,3,5,7] (.seq (.any false 1 [⟨(cFa 57 7 0), [], []⟩, ⟨(cFa 58 57 0), [], [0]⟩, ⟨(cLd 59 58 false 1), [], [1,0]⟩, ⟨(cMv 60 1), [], []⟩, ⟨(cFa 61 7 0), [], []⟩, ⟨(cFa 62 61 0), [], [4]⟩, ⟨(cLd 63 62 false 1), [], [5,4]⟩, ⟨(cMv 64 1), [], []⟩, ⟨(cA 65 4 63 64), [], [6,5,4,7]⟩, ⟨(cFa 66 65 2), [], [8,6,5,4,7]⟩, ⟨(cLd 67 66 false 1), [], [9,8,6,5,4,7]⟩, ⟨(cLd 68 5 true 3), [], []⟩, ⟨(cQ 69 [68] (.bsl 3 1 [(.i 0), (.i 0), (.i 0)] [(0,3, (.t 68))])), [], [11]⟩, ⟨⟨(some 70), none, [67,69], (some 0), .w (.app 3 (.t 67) (.t 69))⟩, [0,1,2,3], [10,9,8,6,5,4,7,12,11]⟩, ⟨(cA 71 4 59 60), [], [2,1,0,3,4,5,6,7,8,9,10,11,12,13]⟩, ⟨(cFa 72 71 2), [], [14,2,1,0,3,4,5,6,7,8,9,10,11,12,13]⟩, ⟨⟨none, none, [72,70], none, .w (.st 1 (.t 72) (.t 70))⟩, [], [15,14,2,1,0,3,4,5,6,7,8,9,10,11,12,13]⟩]) (.keep [3,7] (.seq (.seq (.drp 0 (.reg false [(cLd 73 7 true 11), (cQ 74 [73] (.call (kF 36) [(.t 73)])), (cC 75 .neq 74 0)])) (.keep [3,7,75] (.cond (.t 75) (.seq (.reg false [(cQ 76 [] (.call (kF 44) [])), (cMv 6 76)]) .ret) .skip))) (.keep [3,7] (.seq (.reg false [(cLd 78 3 true 11), (cQ 79 [78] (.call (kF 19) [(.t 78)])), (cMv 77 79), (cEx 80 77 0), (cEx 81 77 1), (cMv 8 80), (cMv 9 81)]) (.keep [3,7,8,9] (.seq (.reg false [(cLd 83 7 true 11), (cQ 84 [83] (.call (kF 19) [(.t 83)])), (cMv 82 84), (cEx 85 82 0), (cEx 86 82 1), (cMv 10 85), (cMv 11 86)]) (.keep [3,7,8,9,10,11] (.seq (.reg false [(cFa 88 3 0), (cLd 89 88 true 6), (cQ 90 [89] (.call (kF 45) [(.t 89)])), (cMv 87 90), (cEx 91 87 0), (cEx 92 87 1), (cMv 12 91), (cMv 13 92)]) (.keep [3,7,8,9,10,11,12,13] (.seq (.reg false [(cFa 94 7 0), (cLd 95 94 true 6), (cQ 96 [95] (.call (kF 45) [(.t 95)])), (cMv 93 96), (cEx 97 93 0), (cEx 98 93 1), (cMv 14 97), (cMv 15 98)]) (.keep [3,7,8,9,10,11,12,13,14,15] (.seq (.reg false [(cLd 100 3 true 11), (cQ 101 [100] (.call (kF 22) [(.t 100)])), (cMv 99 101), (cEx 102 99 0), (cEx 103 99 1), (cMv 16 102), (cMv 17 103)]) (.keep [3,7,8,9,10,11,12,13,14,15,16,17] (.seq (.reg false [(cLd 105 7 true 11), (cQ 106 [105] (.call (kF 22) [(.t 105)])), (cMv 104 106), (cEx 107 104 0), (cEx 108 104 1), (cMv 18 107), (cMv 19 108)]) (.keep [3,7,8,9,10,11,12,13,14,15,16,17,18,19] (.seq (.reg false [(cLd 110 3 true 11), (cQ 111 [110] (.call (kF 18) [(.t 110)])), (cMv 109 111), (cEx 112 109 0), (cEx 113 109 1), (cMv 20 112), (cMv 21 113)]) (.keep [7,8,9,10,11,12,13,14,15,16,17,18,19,20,21] (.seq (.reg false [(cLd 115 7 true 11), (cQ 116 [115] (.call (kF 18) [(.t 115)])), (cMv 114 116), (cEx 117 114 0), (cEx 118 114 1), (cMv 22 117), (cMv 23 118)]) (.keep [8,9,10,11,12,13,14,15,16,17,18,19,20,21,22,23] (.seq (.seq (.reg true [(cMv 119 9), (cC 120 .neq 119 0), (cMv 121 120), (gMv 122 121 false 11), (gQ 123 121 false [122] (.bin .neq (.t 122) (kI 0))), (cQ 124 [121,123] (.pick (.t 121) (kB true) (.t 123))), (cMv 125 124), (gMv 126 125 false 13), (gQ 127 125 false [126] (.bin .neq (.t 126) (kI 0))), (cQ 128 [125,127] (.pick (.t 125) (kB true) (.t 127))), (cMv 129 128), (gMv 130 129 false 15), (gQ 131 129 false [130] (.bin .neq (.t 130) (kI 0))), (cQ 132 [129,131] (.pick (.t 129) (kB true) (.t 131))), (cMv 133 132), (gMv 134 133 false 17), (gQ 135 133 false [134] (.bin .neq (.t 134) (kI 0))), (cQ 136 [133,135] (.pick (.t 133) (kB true) (.t 135))), (cMv 137 136), (gMv 138 137 false 19), (gQ 139 137 false [138] (.bin .neq (.t 138) (kI 0))), (cQ 140 [137,139] (.pick (.t 137) (kB true) (.t 139))), (cMv 141 140), (gMv 142 141 false 10), (gQ 143 141 false [142] (.len (.t 142))), (gQ 144 141 false [143] (.bin .gtr (.t 143) (kI 20))), (cQ 145 [141,144] (.pick (.t 141) (kB true) (.t 144))), (cMv 146 145), (gMv 147 146 false 14), (gQ 148 146 false [147] (.len (.t 147))), (gQ 149 146 false [148] (.bin .gtr (.t 148) (kI 20))), (cQ 150 [146,149] (.pick (.t 146) (kB true) (.t 149))), (cMv 151 150), (gMv 152 151 false 10), (gMv 153 151 false 8), (gQ 154 151 false [152,153] (.call (kF 46) [(.t 152), (.t 153)])), (gQ 155 151 false [154] (.not (.t 154))), (cQ 156 [151,155] (.pick (.t 151) (kB true) (.t 155))), (cMv 157 156), (gMv 158 157 false 14), (gMv 159 157 false 12), (gQ 160 157 false [158,159] (.call (kF 46) [(.t 158), (.t 159)])), (gQ 161 157 false [160] (.not (.t 160))), (cQ 162 [157,161] (.pick (.t 157) (kB true) (.t 161))), (cMv 163 162), (gMv 164 163 false 18), (gMv 165 163 false 16), (gQ 166 163 false [164,165] (.bin .gtr (.t 164) (.t 165))), (cQ 167 [163,166] (.pick (.t 163) (kB true) (.t 166)))]) (.keep [20,21,22,23,167] (.cond (.t 167) (.seq (.reg false [(cQ 6 [] (.mv (kB false)))]) .ret) .skip))) (.keep [20,21,22,23] (.seq (.reg true [(cMv 168 21), (cC 169 .neq 168 0), (cMv 170 169), (gMv 171 170 false 23), (gQ 172 170 false [171] (.bin .eql (.t 171) (kI 0))), (gMv 173 170 false 172), (gMv 174 173 true 22), (gMv 175 173 true 20), (gQ 176 173 true [174,175] (.bin .leq (.t 174) (.t 175))), (gQ 177 170 false [173,176] (.pick (.t 173) (.t 176) (kB false))), (cQ 178 [170,177] (.pick (.t 170) (kB true) (.t 177))), (cMv 179 178), (gQ 180 179 true [] (.call (kF 44) [])), (cQ 181 [179,180] (.pick (.t 179) (.t 180) (kB false))), (cMv 6 181)]) .ret)))))))))))))))))))))))))))))
def pu14 : List Nat := [1000056,3,5,69]
def rs14 : List RV := [.t 6]
theorem cc14 : CCx Try.prog Try.f14 pu14 rc14 := by unfold CCx; kernel_rfl
theorem cb14 : CBx Try.f14 := by unfold CBx; kernel_rfl
theorem cs14 : CSx Try.prog Try.f14 rs14 := by unfold CSx; kernel_rfl
theorem cn14 : 3 ≤ Try.f14.ntmps := by decide
end Go.C02.M
namespace Go.C02
open Go.Fam Go.Proofs
theorem Zfh {α : Type} {l : List α} {i : Nat} {x : α} (h : i < l.length) : l.take i ++ [x] ++ l.drop (i + 1) = l.set i x := by
 rw [List.set_eq_take_append_cons_drop, if_pos h]; simp
theorem Zer {α : Type} {k m : Nat} : ∀ (rows : List (List α)) (j : Nat) (r : List α) (x : α), (∀ r ∈ rows, r.length = k) → rows[j]? = some r → m < k → rows.flatten.set (j * k + m) x = (rows.set j (r.set m x)).flatten
 | [], j, r, x, _, h, _ => by simp at h
 | a :: rows, 0, r, x, hl, h, hm => by
  simp at h; subst h
  have := hl a (by simp)
  rw [Q5, Q8, Q5, Nat.zero_mul, Qi, List.set_append_left _ _ (by omega)]
 | a :: rows, j + 1, r, x, hl, h, hm => by
  have ha := hl a (by simp)
  rw [Q5, Zp, Q5, Zc _ _ (by rw [Xk]; omega)]
  congr 1
  rw [← Zer rows j r x (fun r hr => hl r (by simp [hr])) (by simpa using h) hm, ha, Xk]
  congr 1; omega
theorem Zdt {α : Type} {k : Nat} : ∀ (rows : List (List α)), (∀ r ∈ rows, r.length = k) → rows.flatten.length = rows.length * k
 | [], _ => by simp
 | a :: rows, h => by
  rw [Q5, Zy, h a (by simp), Zdt rows fun r hr => h r (by simp [hr]), Qh, Xk]; omega
theorem Zee {α : Type} {k : Nat} : ∀ (rows : List (List α)) (j : Nat) (r : List α), (∀ r ∈ rows, r.length = k) → rows[j]? = some r → (rows.flatten.drop (j * k)).take k = r
 | [], j, r, _, h => by simp at h
 | a :: rows, 0, r, hl, h => by
  simp at h; subst h
  rw [Q5, Nat.zero_mul, Qo, ← hl a (by simp)]; simp
 | a :: rows, j + 1, r, hl, h => by
  rw [Q5, Xk, Nat.add_comm, ← List.drop_drop, show (a ++ rows.flatten).drop k = rows.flatten by rw [← hl a (by simp)]; simp]
  exact Zee rows j r (fun r hr => hl r (by simp [hr])) (by simpa using h)
theorem Zfa {k : Nat} (rows : List (List V)) (h : ∀ r ∈ rows, r.length = k) : Qd8 k rows.flatten 0 rows.length = rows := by
 apply X0
 intro j
 unfold Qd8
 rw [Ql]
 by_cases hj : j < rows.length
 ·rw [List.getElem?_range hj]
  obtain ⟨r, hr⟩ : ∃ r, rows[j]? = some r := ⟨_, Qg hj⟩
  rw [hr, Q7, Qi, Zee rows j r h hr]
 ·rw [Zl (by rw [List.length_range]; omega), Zl (by omega)]; rfl
theorem Zet : vB (bV .hole) = .hole := rfl
def strM : List (List Strip) → List Blk
 | [] => []
 | l :: ss => .cells 1 (l.map eStrip).flatten :: .hole :: strM ss
theorem Zdx : ∀ ss : List (List Strip), (strM ss).length = 2 * ss.length
 | [] => rfl
 | l :: ss => by simp only [strM, Qh, Zdx ss]; omega
theorem Zf8 : ∀ (ss : List (List Strip)) (l : List Strip), strM (ss ++ [l]) = strM ss ++ [.cells 1 (l.map eStrip).flatten, .hole]
 | [], _ => rfl
 | x :: ss, l => by simp [strM, Zf8 ss l]
theorem Zfj : ∀ (ss : List (List Strip)) (i : Nat) (l : List Strip), ss[i]? = some l → (strM ss)[2 * i]? = some (.cells 1 (l.map eStrip).flatten)
 | [], _, _, h => by simp at h
 | x :: ss, 0, l, h => by simp at h; subst h; rfl
 | x :: ss, i + 1, l, h => by
  rw [strM, show 2 * (i + 1) = 2 * i + 1 + 1 by omega, Qj, Qj]
  exact Zfj ss i l (by simpa using h)
def rowO (i : Nat) (b : Bolt) : List V := [.i b.stretch.low, .i b.stretch.high, .rf (2 * i + 1 + 1 + 1) 1 0 b.strips.length 3, .i b.wrong]
def Ze4 : Nat → List Bolt → List (List V)
 | _, [] => []
 | i, b :: bs => rowO i b :: Ze4 (i + 1) bs
theorem Ze5 : ∀ (bs : List Bolt) (k : Nat), (Ze4 k bs).length = bs.length
 | [], _ => rfl
 | b :: bs, k => by simp [Ze4, Ze5 bs]
theorem Zej : ∀ (bs : List Bolt) (k i : Nat), (Ze4 k bs)[i]? = (bs[i]?).map (rowO (k + i))
 | [], _, _ => by simp [Ze4]
 | b :: bs, k, 0 => by simp [Ze4]
 | b :: bs, k, i + 1 => by
  simp only [Ze4, Qj]
  rw [Zej bs (k + 1) i, show k + 1 + i = k + (i + 1) by omega]
theorem Zfq {bs : List Bolt} {k : Nat} : ∀ r ∈ Ze4 k bs, r.length = 4 := by
 intro r hr
 obtain ⟨i, hi⟩ := Xt hr
 rw [Zej] at hi
 obtain ⟨b, _, rfl⟩ := Xl.1 hi
 rfl
def Ze9 (d : Dome) (i : Nat) : List (List V) := (Ze4 0 d.bolts).take i ++ (d.bolts.map eBolt).drop i
theorem Zeo (d : Dome) (i : Nat) : ∀ r ∈ Ze9 d i, r.length = 4 := by
 intro r hr
 rcases List.mem_append.1 hr with h | h
 ·exact Zfq r (Xs h)
 ·obtain ⟨b, _, rfl⟩ := Xz.1 (List.mem_of_mem_drop h); rfl
theorem Zg1 (d : Dome) {i : Nat} (h : i ≤ d.bolts.length) : (Ze9 d i).length = d.bolts.length := by
 simp only [Ze9, Zy, Zd, Z4, Ze5, Qc]; omega
theorem Zen (d : Dome) {i : Nat} (h : i ≤ d.bolts.length) : (Ze9 d i).flatten.length = d.bolts.length * 4 := by
 rw [Zdt (k := 4) _ (Zeo d i), Zg1 d h]
theorem Zgb {d : Dome} {i : Nat} {b : Bolt} (h : d.bolts[i]? = some b) : (Ze9 d i)[i]? = some (eBolt b) := by
 have hi := Qav h
 have hl : ((Ze4 0 d.bolts).take i).length = i := by rw [Zd, Ze5]; omega
 rw [Ze9, Q1 (by omega), hl, Xm, Xb, Z2, Ql, h]; rfl
theorem Zg2 {d : Dome} {i : Nat} {b : Bolt} (h : d.bolts[i]? = some b) :
  List.take (i * 4 + 2) (Ze9 d i).flatten ++ [V.rf (2 * i + 1 + 1 + 1) 1 0 b.strips.length 3] ++ X5 (i * 4 + 2 + 1) (Ze9 d i).flatten = (Ze9 d (i + 1)).flatten := by
 have hi := Qav h
 rw [Zfh (by rw [Zen d (by omega)]; omega), Zer (k := 4) (m := 2) _ i (eBolt b) _ (Zeo d i) (Zgb h) (by decide)]
 congr 1
 have hl : ((Ze4 0 d.bolts).take i).length = i := by rw [Zd, Ze5]; omega
 have hx : (Ze4 0 d.bolts)[i]? = some (rowO i b) := by rw [Zej, h, Qi]; rfl
 rw [Ze9, Zc _ _ (by omega), hl, Xm, Ze9, Qar hx, List.drop_eq_getElem_cons (by simpa using hi), Q8, Zr]
 rfl
def Zdr (d : Dome) : List (List Strip) := d.bolts.map (·.strips)
def Zfd (d : Dome) : List V := [.rf 2 1 0 d.bolts.length 4, .rf (2 * d.bolts.length + 1 + 1 + 1) 1 0 d.gores.length 1, .i d.loss, .rf (2 * d.bolts.length + 1 + 1 + 1 + 2) 1 0 d.rounds.length 2, .rf (2 * d.bolts.length + 1 + 1 + 1 + 4) 1 0 d.widths.length 1, .i d.slope]
def Zf7 (d : Dome) (go : List Int) (ss : List (List Strip)) : List Blk :=
 .cells 0 (Zfd d) :: .cells 0 (Zfd d) :: .cells 1 (Ze4 0 d.bolts).flatten :: (strM ss ++ [.cells 1 (go.map eI).flatten, .hole, .cells 1 (d.rounds.map eSpan).flatten, .hole, .cells 1 (d.widths.map eI).flatten, .hole])
set_option maxRecDepth 20000 in
set_option maxHeartbeats 4000000 in
theorem O55n (d : Dome) (h : Ok22 d) : Qdf Try.prog 55 [.ag (Qal d)] (.ag (Zfd d)) (Zf7 d d.gores (Zdr d)) := by
 refine Qj0 okHB hmix Try.func55 cb55 N.cc55 cs55 cn55 ?_
 have hb := h.b
 have hg := h.g
 have hr := h.r
 have hw := h.w
 have f0 : Qbd d.bolts.length := by unfold Qbd; omega
 simp only [N.rc55, rs55, Z6, f0, Qa7, Qa8, Qa9, Qa4, putB, Qae, Qa5, Qa2, Fam.step, Qaf, Qbi, Qb4, putB, nv, sv, Qce, evO, opv, qv, ldV, curG, Qap, putAt, Qb7, Qb6, V.cells, Qas, Qb3, Qaa, Qa6, Qa3, Qat, Qa0, Qa1, ↓reduceIte, Nat.reduceEqDiff, Nat.reduceAdd, Nat.reduceMul, Nat.reduceLeDiff, Qb, Qd, Qv, Qx, Qh, Qk, Zb, Qo, Z7, Qm, Zf, Q2, Qt, Q3, Q6, Qn, Qu, Qj, Q8, Zp, Q4, vw_i, Qay, Qaz, zipA, beq_self_eq_true, Qi, Z2, Qs, Qp, Qe, true_and, and_self, Qc, Qal]
 refine Qbg d.bolts.length (fun i => ⟨lkp [(1, .pa (Qal d)), (2, .ad 0 0 0), (3, .ad 1 0 0), (4, .i i)], .cells 0 [.z 4, .z 1, .i 0, .z 2, .z 1, .i 0] :: .cells 0 [.rf 2 1 0 d.bolts.length 4, .sl 1 (d.gores.map eI), .i d.loss, .sl 2 (d.rounds.map eSpan), .sl 1 (d.widths.map eI), .i d.slope] :: .cells 1 (Ze9 d i).flatten :: strM ((Zdr d).take i)⟩) ?_ ?_ ?_
 ·simp only [Z5, Ze9, strM, kp, Qa0, Qa1, ↓reduceIte, Nat.reduceEqDiff, Qb, Qd, Qo, Zf, Q6, Qal]
 ·intro i hi
  obtain ⟨x, hx⟩ : ∃ x, d.bolts[i]? = some x := ⟨_, Qg hi⟩
  have hlt : (i : Int) < d.bolts.length := by omega
  have h3 : inI ((i : Int) + 1) := by unfold inI; omega
  have hst : Qbd x.strips.length := by have := h.s x (Ze hx); unfold Qbd; omega
  have hfl := Zen d (i := i) (by omega)
  have hoff : i * 4 + 2 + 1 ≤ d.bolts.length * 4 := by omega
  have hput := Zg2 hx
  have hl : (strM ((Zdr d).take i)).length = 2 * i := by rw [Zdx, Zd, Zdr, Qc]; omega
  have hsn : strM ((Zdr d).take (i + 1)) = strM ((Zdr d).take i) ++ [.cells 1 (x.strips.map eStrip).flatten, .hole] := by
   rw [Qar (show (Zdr d)[i]? = some x.strips by simp [Zdr, hx]), Zf8]
  have g0 : ∀ a b, (strM ((Zdr d).take i) ++ [a, b])[2 * i]? = some a := fun a b => by rw [← hl, Q1 (Zm _), Xm]; rfl
  have s0 : ∀ a b c, (strM ((Zdr d).take i) ++ [a, b]).set (2 * i) c = strM ((Zdr d).take i) ++ [c, b] := fun a b c => by rw [← hl, Zc _ _ (Zm _), Xm]; rfl
  simp only [hx, hlt, Zv, Zw, h3, Z6, hfl, hst, hoff, hl, hsn, g0, s0, hput, Qag, Qa7, Qbf, Qa8, Qad, Qa9, Qa4, Qba, optL, Qae, Qaj, Qa5, Qa2, Fam.step, Qaf, Qb4, runX, eff, Qb9, fpR, fpQ, fpV, Qbp, hits, nv, sv, Qce, evO, opv, qv, binV, ldV, iadV, lenV, curG, Qap, putAt, Qb7, Qb6, V.cells, Qas, Qb3, kp, Qa3, Qat, Qa0, Qa1, ↓reduceIte, Nat.reduceEqDiff, Nat.reduceAdd, Nat.reduceMul, Nat.reduceLeDiff, Qb, Qd, Qv, Qx, Qh, Qk, Zb, Qo, Qt, Q3, Q6, Qu, Qj, Qw, Qr, Zi, Q8, Zp, Q4, Zt, Zj, Z3, Zx, beq_self_eq_true, Qi, Z2, Qs, Qy, Xg, Zk, Xc, Qp, Z8, Qz, Za, Qe, decide_true, true_and, and_true, and_self, Q7, Xh, Zs, Zz, Zg, Zn, Qc, Z0, Qa, Ql, eBolt, Qal]
  exact beq_eq_false_iff_ne.2 (by omega)
 ·have hgt : ¬ ((d.bolts.length : Int) < d.bolts.length) := by omega
  have hta : (Zdr d).take d.bolts.length = Zdr d := Z1 (by simp [Zdr])
  have hl : (strM (Zdr d)).length = 2 * d.bolts.length := by rw [Zdx, Zdr, Qc]
  have hro : Ze9 d d.bolts.length = Ze4 0 d.bolts := by
   unfold Ze9
   rw [Z1 (by rw [Ze5]; exact Zm _), List.drop_of_length_le (by simp), Qn]
  have gk : ∀ (L : List Blk) (k : Nat), (strM (Zdr d) ++ L)[2 * d.bolts.length + k]? = L[k]? := fun L k => by rw [← hl, Q1 (by omega), Q0]
  have sk : ∀ (L : List Blk) (k : Nat) (x : Blk), (strM (Zdr d) ++ L).set (2 * d.bolts.length + k) x = strM (Zdr d) ++ L.set k x := fun L k x => by rw [← hl, Zc _ _ (by omega), Q0]
  have f1 : Qbd d.gores.length := by unfold Qbd; omega
  have f2 : Qbd d.rounds.length := by unfold Qbd; omega
  have f3 : Qbd d.widths.length := by unfold Qbd; omega
  have g0 : ∀ (L : List Blk), (strM (Zdr d) ++ L)[2 * d.bolts.length]? = L[0]? := fun L => gk L 0
  have s0 : ∀ (L : List Blk) (x : Blk), (strM (Zdr d) ++ L).set (2 * d.bolts.length) x = strM (Zdr d) ++ L.set 0 x := fun L x => sk L 0 x
  simp only [Xw, Nat.reduceBeqDiff, g0, s0, hgt, hta, hl, hro, gk _ 2, gk _ 4, sk _ 2, sk _ 4, f1, f2, f3, Z6, Qa7, Qbf, Qa8, Qad, Qam, Qai, Qa4, Qba, optL, putB, endO, Qae, Qaj, Qa5, Qa2, Fam.step, Qaf, Qbi, Qb4, runX, eff, Qb9, fpR, fpQ, fpV, Qbp, hits, putB, nv, sv, Qce, evO, opv, qv, binV, ldV, lenV, curG, Qap, putAt, Qb7, Qb6, V.cells, Qas, Qb3, Qa3, Qat, Qa0, Qa1, ↓reduceIte, Nat.reduceEqDiff, Nat.reduceAdd, Nat.reduceMul, Nat.reduceLeDiff, Qb, Qd, Qv, Qx, Qh, Qk, Zb, Qo, Z7, Qm, Zf, Q2, Qt, Q3, Q6, Qn, Qu, Qj, Qw, Qr, Zi, Q8, Zp, Q4, Zt, Zj, Z3, rvs, rv1, resV, beq_self_eq_true, Qi, Z2, Qs, Qy, Xg, Zk, Xc, Qp, Z8, Qz, Za, Qe, decide_false, true_and, and_self, Xh, Zs, Zz, Zg, Qc, Qa, Qal]
  exact ⟨by simp, by simp, rfl, rfl⟩
theorem Zex : ∀ ss : List (List Strip), ((strM ss).map bV).map vB = strM ss
 | [] => rfl
 | l :: ss => by simp only [strM, Qb, Zex ss, Qho, Zet]
theorem Zgi (d : Dome) (go : List Int) (ss : List (List Strip)) : ((Zf7 d go ss).map bV).map vB = Zf7 d go ss := by
 simp only [Zf7, Qb, Xp, Qd, Zex, Qho, Zet]
end Go.C02
namespace Go.C02
open Go.Fam Go.Proofs
def r55n : List V → Prop × V := fnG (fun d => [.ag (Qal d)]) dD Ok22 (fun d => d) (fun d => .tp [.ag (Zfd d), .tp ((Zf7 d d.gores (Zdr d)).map bV)])
noncomputable def HF : Gam := HE.ext 1000055 r55n
theorem okHF : GOk Try.prog HF :=
 okHE.extO (f := 55) (r := r55n) (fun a w => Try.call55 a w) fun vs v bs h e => Qsw (e := fun d => [.ag (Qal d)]) (d := dD) (ok := Ok22) (v := fun d => .ag (Zfd d)) (hp := fun d => Zf7 d d.gores (Zdr d)) (fun d => Zgi d _ _) (fun d h => O55n d h) vs v bs h e
theorem f55o (d : Dome) : HF 1000055 [.ag (Qal d)] = (Ok22 d, .tp [.ag (Zfd d), .tp ((Zf7 d d.gores (Zdr d)).map bV)]) :=
 (show HF 1000055 _ = r55n [.ag (Qal d)] from rfl).trans (Qb1 _ (Qdh _))
theorem Zg5 (k : Nat) : ∀ ss : List (List Strip), (strM ss).map (shB k) = strM ss
 | [] => rfl
 | l :: ss => by
  simp only [strM, Qb, Zg5 k ss, shB, Qez _ _ (Qc4 (e := eStrip) (fun _ => rfl) l)]
def Zed (f : Fig) : List V := [.rf 4 1 0 f.dome.bolts.length 4, .rf (2 + (2 * f.dome.bolts.length + 3)) 1 0 f.dome.gores.length 1, .i f.dome.loss, .rf (2 + (2 * f.dome.bolts.length + 5)) 1 0 f.dome.rounds.length 2,
 .rf (2 + (2 * f.dome.bolts.length + 7)) 1 0 f.dome.widths.length 1, .i f.dome.slope, .i f.period, .i f.run, .i f.near, .rf (2 * f.dome.bolts.length + 11) 1 0 f.starts.length 1, .rf (2 * f.dome.bolts.length + 13) 1 0 f.times.length 1]
def Zgd (f : Fig) : List V := [.rf 4 1 0 f.dome.bolts.length 4, .rf (2 + (2 * f.dome.bolts.length + 3)) 1 0 f.dome.gores.length 1, .i f.dome.loss, .rf (2 + (2 * f.dome.bolts.length + 5)) 1 0 f.dome.rounds.length 2,
 .rf (2 + (2 * f.dome.bolts.length + 7)) 1 0 f.dome.widths.length 1, .i f.dome.slope]
def Zds (f : Fig) : List Blk := .cells 0 (Zed f) :: .cells 0 (Zed f) :: .cells 0 (Zgd f) :: .cells 0 (Zgd f) :: .cells 1 (shL 2 (Ze4 0 f.dome.bolts).flatten) ::
 (strM (Zdr f.dome) ++ [.cells 1 (f.dome.gores.map V.i), .hole, .cells 1 (f.dome.rounds.map eSpan).flatten, .hole, .cells 1 (f.dome.widths.map V.i), .hole, .cells 1 (f.starts.map V.i), .hole, .cells 1 (f.times.map V.i), .hole])
set_option maxRecDepth 20000 in
set_option maxHeartbeats 4000000 in
theorem O21n (f : Fig) (h : Ok21 f) : Qdf Try.prog 21 [.ag (eFig f)] (.ag (Zed f)) (Zds f) := by
 refine Qj0 okHF hmix Try.func21 N.cb21 N.cc21 N.cs21 N.cn21 ?_
 have g1 := f55o f.dome
 unfold Qal at g1
 have hs := h.s
 have ht := h.t
 have hnr := Qc4 (e := eSpan) (fun _ => rfl) f.dome.rounds
 have hl : (strM (Zdr f.dome)).length = 2 * f.dome.bolts.length := by rw [Zdx, Zdr, Qc]
 have gk : ∀ (L : List Blk) (k : Nat), (strM (Zdr f.dome) ++ L)[2 * f.dome.bolts.length + k]? = L[k]? := fun L k => by rw [← hl, Q1 (by omega), Q0]
 have sk : ∀ (L : List Blk) (k : Nat) (x : Blk), (strM (Zdr f.dome) ++ L).set (2 * f.dome.bolts.length + k) x = strM (Zdr f.dome) ++ L.set k x := fun L k x => by rw [← hl, Zc _ _ (by omega), Q0]
 have f1 : Qbd f.starts.length := by unfold Qbd; omega
 have f2 : Qbd f.times.length := by unfold Qbd; omega
 simp only [N.rc21, N.rs21, g1, h.d, f1, f2, endO, Zex, Zg5, Zet, hl, Zr, Zy, Xw, Nat.reduceBeqDiff, gk _ 6, gk _ 8, sk _ 6, sk _ 8, Z6, Zf7, Zfd, Qc, Xp, Qez _ _ hnr, fl_I, Qez _ _ (nr_i _), Qa7, Qbf, Qa8, Qai, Qa4, Qmk, ocV, nidQ, plO, plQ, plB, Qba, optL, Qf2, Qj2, Qgg, shV, shL, shB, Qho, putB, endO, Qae, Qa5, Qa2, Fam.step, Qaf, Qbi, Qb4, runX, eff, Qb9, fpR, fpQ, fpV, Qbp, hits, putB, nv, sv, Qce, evO, opv, qv, ldV, curG, Qap, putAt, Qb7, Qb6, V.cells, Qas, Qb3, Qaa, Qa6, Qa3, Qat, Qa0, Qa1, ↓reduceIte, Nat.reduceEqDiff, Nat.reduceAdd, Nat.reduceMul, Nat.reduceLT, Nat.reduceLeDiff, Qb, Qd, Qv, Qx, Qh, Qk, Zb, Qo, Z7, Qm, Zf, Q2, Qt, Q3, Q6, Qn, Qu, Qj, Qw, Qr, Zi, Q8, Zp, Q4, Zt, Zj, Z3, rvs, rv1, resV, vw_i, Qay, Qaz, zipA, beq_self_eq_true, Qi, Z2, Qs, Qy, Xg, Zk, Xc, Qp, Z8, Qz, Za, Qe, true_and, and_self, Xh, Zs, Zz, Zg, Qc, Qa, eFig]
 refine ⟨?_, rfl, rfl⟩
 rw [Zo, Zn, Zn, beq_eq_false_iff_ne, beq_eq_false_iff_ne]
 omega
theorem Zfe (f : Fig) : ((Zds f).map bV).map vB = Zds f := by
 simp only [Zds, Qb, Xp, Qd, Zex, Qho, Zet]
def s21n : List V → Prop × V := fnG (fun f => [.ag (eFig f)]) decF Ok21 (fun f => f) (fun f => .tp [.ag (Zed f), .tp ((Zds f).map bV)])
noncomputable def HG2 : Gam := HE.ext 1000021 s21n
theorem Zgl : GOk Try.prog HG2 :=
 okHE.extO (f := 21) (r := s21n) (fun a w => Try.call21 a w) fun vs v bs h e => Qsw (e := fun f => [.ag (eFig f)]) (d := decF) (ok := Ok21) (v := fun f => .ag (Zed f)) (hp := Zds) Zfe (fun f h => O21n f h) vs v bs h e
theorem k21n (f : Fig) : HG2 1000021 [.ag (eFig f)] = (Ok21 f, .tp [.ag (Zed f), .tp ((Zds f).map bV)]) :=
 (show HG2 1000021 _ = s21n [.ag (eFig f)] from rfl).trans (Qb1 _ (Qcw _))
end Go.C02
namespace Go.C02
open Go.Fam Go.Proofs
theorem Zg4 (k : Nat) : ∀ (a b : List V), shL k (a ++ b) = shL k a ++ shL k b
 | [], _ => rfl
 | x :: a, b => by simp only [Q3, shL, Zg4 k a b]
def rowS (i : Nat) (b : Bolt) : List V := [.i b.stretch.low, .i b.stretch.high, .rf (2 * i + 5) 1 0 b.strips.length 3, .i b.wrong]
def Zdw : Nat → List Bolt → List (List V)
 | _, [] => []
 | i, b :: bs => rowS i b :: Zdw (i + 1) bs
theorem Ze7 : ∀ (bs : List Bolt) (k : Nat), (Zdw k bs).length = bs.length
 | [], _ => rfl
 | b :: bs, k => by simp [Zdw, Ze7 bs]
theorem Ze6 : ∀ (bs : List Bolt) (k i : Nat), (Zdw k bs)[i]? = (bs[i]?).map (rowS (k + i))
 | [], _, _ => by simp [Zdw]
 | b :: bs, k, 0 => by simp [Zdw]
 | b :: bs, k, i + 1 => by
  simp only [Zdw, Qj]
  rw [Ze6 bs (k + 1) i, show k + 1 + i = k + (i + 1) by omega]
theorem Ze1 {bs : List Bolt} {k : Nat} : ∀ r ∈ Zdw k bs, r.length = 4 := by
 intro r hr
 obtain ⟨i, hi⟩ := Xt hr
 rw [Ze6] at hi
 obtain ⟨b, _, rfl⟩ := Xl.1 hi
 rfl
theorem Zg3 : ∀ (bs : List Bolt) (k : Nat), shL 2 (Ze4 k bs).flatten = (Zdw k bs).flatten
 | [], _ => rfl
 | b :: bs, k => by
  simp only [Ze4, Zdw, Q5, Zg4, Zg3 bs (k + 1)]
  congr 1
  simp only [rowO, rowS, shL, shV, show 2 + (2 * k + 1 + 1 + 1) = 2 * k + 5 by omega]
theorem Zfr {bs : List Bolt} {j : Nat} {b : Bolt} (h : bs[j]? = some b) : (X5 (j * 4 + 2) (Zdw 0 bs).flatten).headD V.u = .rf (2 * j + 5) 1 0 b.strips.length 3 := by
 have hj := Qav h
 have hx : (Zdw 0 bs)[j]? = some (rowS j b) := by rw [Ze6, h, Qi]; rfl
 have hd := Zee (k := 4) _ j _ Ze1 hx
 rw [List.headD_eq_head?_getD, List.head?_drop]
 have e : (Zdw 0 bs).flatten[j * 4 + 2]? = (((Zdw 0 bs).flatten.drop (j * 4)).take 4)[2]? := by
  rw [Xf (by decide), Xb]
 rw [e, hd]; rfl
theorem Zg0 {bs : List Bolt} {j : Nat} {b : Bolt} (h : bs[j]? = some b) (x : V) :
  List.take (j * 4 + 2) (Zdw 0 bs).flatten ++ [x] ++ X5 (j * 4 + 2 + 1) (Zdw 0 bs).flatten = ((Zdw 0 bs).set j [.i b.stretch.low, .i b.stretch.high, x, .i b.wrong]).flatten := by
 have hj := Qav h
 have hx : (Zdw 0 bs)[j]? = some (rowS j b) := by rw [Ze6, h, Qi]; rfl
 have hfl : (Zdw 0 bs).flatten.length = bs.length * 4 := by rw [Zdt (k := 4) _ Ze1, Ze7]
 rw [Zfh (by omega), Zer (k := 4) (m := 2) _ j _ _ Ze1 hx (by decide)]
 rfl
theorem Zdz (f : Fig) : (Zds f).length = 2 * f.dome.bolts.length + 15 := by
 simp only [Zds, Qh, Zy, Zdx, Zdr, Qc, Qk]
theorem Zft (f : Fig) (L : List Blk) : (Zds f ++ L)[4]? = some (.cells 1 (Zdw 0 f.dome.bolts).flatten) := by
 rw [← Zg3]; rfl
theorem Zfu {f : Fig} {L : List Blk} {j : Nat} {b : Bolt} (h : f.dome.bolts[j]? = some b) : (Zds f ++ L)[2 * j + 5]? = some (.cells 1 (b.strips.map eStrip).flatten) := by
 show (strM (Zdr f.dome) ++ _ ++ L)[2 * j]? = _
 have hj := Qav h
 rw [Zr, List.getElem?_append_left (by rw [Zdx, Zdr, Qc]; omega)]
 exact Zfj _ j _ (by simp [Zdr, h])
theorem Ze0 {f : Fig} (L : List Blk) (k : Nat) :
  (Zds f ++ L)[2 * f.dome.bolts.length + 5 + k]? = ([.cells 1 (f.dome.gores.map V.i), .hole, .cells 1 (f.dome.rounds.map eSpan).flatten, .hole, .cells 1 (f.dome.widths.map V.i), .hole, .cells 1 (f.starts.map V.i), .hole, .cells 1 (f.times.map V.i), .hole] ++ L)[k]? := by
 rw [show 2 * f.dome.bolts.length + 5 + k = 2 * f.dome.bolts.length + k + 1 + 1 + 1 + 1 + 1 by omega]
 show (strM (Zdr f.dome) ++ _ ++ L)[2 * f.dome.bolts.length + k]? = _
 rw [Zr, Q1 (by rw [Zdx, Zdr, Qc]; omega), Zdx, Zdr, Qc, Q0]
theorem Zf0 (f : Fig) (L : List Blk) (k : Nat) : (Zds f ++ L)[2 * f.dome.bolts.length + 15 + k]? = L[k]? := by
 rw [Q1 (by rw [Zdz]; omega), Zdz, Q0]
theorem Zf1 (f : Fig) (L : List Blk) (k : Nat) (x : Blk) : (Zds f ++ L).set (2 * f.dome.bolts.length + 15 + k) x = Zds f ++ L.set k x := by
 rw [Zc _ _ (by rw [Zdz]; omega), Zdz, Q0]
end Go.C02
namespace Go.C02
open Go.Fam Go.Proofs
mutual
theorem Zfk : ∀ v : V, upV 0 v = v
 | .u | .b _ | .i _ | .z _ | .sl _ _ | .sx _ _ | .pa _ | .pn | .yl _ => by simp [upV]
 | .ad _ _ _ | .rf _ _ _ _ _ | .mp _ _ | .it _ _ => by simp [upV]
 | .ag cs | .tp cs | .fn _ cs => by simp only [upV, Zey cs]
 | .gv _ v => by simp only [upV, Zfk v]
theorem Zey : ∀ vs : List V, upL 0 vs = vs
 | [] => rfl
 | v :: vs => by simp only [upL, Zfk v, Zey vs]
end
theorem Zg8 (hp : List Blk) : hpF 0 hp = hp := by
 have : (upB 0 : Blk → Blk) = id := by
  funext b; cases b <;> simp [upB, Zey]
 simp [hpF, this]
mutual
theorem Zfi : ∀ v : V, shV 0 v = v
 | .u | .b _ | .i _ | .z _ | .sl _ _ | .sx _ _ | .pa _ | .pn | .yl _ => by simp [shV]
 | .ad _ _ _ | .rf _ _ _ _ _ | .mp _ _ | .it _ _ => by simp [shV]
 | .ag cs | .tp cs | .fn _ cs => by simp only [shV, Zew cs]
 | .gv _ v => by simp only [shV, Zfi v]
theorem Zew : ∀ vs : List V, shL 0 vs = vs
 | [] => rfl
 | v :: vs => by simp only [shL, Zfi v, Zew vs]
end
theorem Zgc (hp : List Blk) : hp.map (shB 0) = hp := by
 have : (shB 0 : Blk → Blk) = id := by
  funext b; cases b <;> simp [shB, Zew]
 simp [this]
theorem Zge {Γ : Gam} {E : TypeId → Nat → Prop} {a : RC} {Q : Exit → St → Prop} {HP : List Blk} {l l' : List (Nat × V)} (h : l.map (fun p => (p.1, cutV HP 0 p.2)) = l') (h2 : wpR Γ E a Q ⟨lkp l', []⟩) : wpR Γ E (.drp 0 a) Q ⟨lkp l, HP⟩ := by
 rw [Qc5]
 have e1 : (fun t => cutV HP 0 (lkp l t)) = lkp l' := by rw [← h]; exact Qbl ..
 have e2 : cutH 0 HP = [] := by simp [cutH]
 show wpR Γ E a Q ⟨fun t => cutV HP 0 (lkp l t), cutH 0 HP⟩
 rw [e1, e2]
 exact h2
theorem Zfw {hp : List Blk} {f : Fig} {gen : Nat → Nat}
  (hb : ∃ rows : List (List V), hp[4]? = some (.cells 1 rows.flatten) ∧ (∀ r ∈ rows, r.length = 4) ∧ rows.length = f.dome.bolts.length ∧
   ∀ (i : Nat) (b : Bolt), f.dome.bolts[i]? = some b → rows[i]? = some [.i b.stretch.low, .i b.stretch.high, .rf (2 * i + 5) (gen i) 0 b.strips.length 3, .i b.wrong])
  (hs : ∀ (i : Nat) (b : Bolt), f.dome.bolts[i]? = some b → hp[2 * i + 5]? = some (.cells (gen i) (b.strips.map eStrip).flatten))
  (hg : hp[2 * f.dome.bolts.length + 5]? = some (.cells 1 (f.dome.gores.map V.i))) (hr : hp[2 * f.dome.bolts.length + 7]? = some (.cells 1 (f.dome.rounds.map eSpan).flatten))
  (hw : hp[2 * f.dome.bolts.length + 9]? = some (.cells 1 (f.dome.widths.map V.i))) (hst : hp[2 * f.dome.bolts.length + 11]? = some (.cells 1 (f.starts.map V.i)))
  (hti : hp[2 * f.dome.bolts.length + 13]? = some (.cells 1 (f.times.map V.i))) {k : Nat}
  (hk : hp[k]? = some (.cells 0 [.rf 4 1 0 f.dome.bolts.length 4, .rf (2 * f.dome.bolts.length + 5) 1 0 f.dome.gores.length 1, .i f.dome.loss, .rf (2 * f.dome.bolts.length + 7) 1 0 f.dome.rounds.length 2,
   .rf (2 * f.dome.bolts.length + 9) 1 0 f.dome.widths.length 1, .i f.dome.slope, .i f.period, .i f.run, .i f.near, .rf (2 * f.dome.bolts.length + 11) 1 0 f.starts.length 1, .rf (2 * f.dome.bolts.length + 13) 1 0 f.times.length 1])) :
  vw hp 8 (.ad k 0 0) = .pa (eFig f) := by
 obtain ⟨rows, h2, h4, hl, hrows⟩ := hb
 have hch := Zfa (k := 4) rows h4
 rw [hl] at hch
 have v3 : ∀ n, ∀ l : List Strip, (l.map eStrip).map (fun r => r.map (vw hp (n + 1))) = l.map eStrip := fun n l => Qcq (e := eStrip) hp (n + 1) (fun _ => rfl) l
 have v2 : ∀ n, ∀ l : List Span, (l.map eSpan).map (fun r => r.map (vw hp (n + 1))) = l.map eSpan := fun n l => Qcq (e := eSpan) hp (n + 1) (fun _ => rfl) l
 have e1 : rows.map (fun r => r.map (vw hp 6)) = f.dome.bolts.map eBolt := by
  apply X0
  intro i
  rw [Ql, Ql]
  by_cases hi : i < f.dome.bolts.length
  ·obtain ⟨b, hb⟩ : ∃ b, f.dome.bolts[i]? = some b := ⟨_, Qg hi⟩
   rw [hrows i b hb, hb]
   have hs := hs i b hb
   have hsl := Qdq (e := eStrip) (k := 3) (fun _ => rfl) b.strips
   simp only [Q7, Qb, Qd, vw_i, Qdw, hs, hsl, Qi, Zm, and_self, if_true, Qd6 (e := eStrip) (k := 3) (fun _ => rfl), v3]
   rfl
  ·rw [Zl (by omega), Zl (by omega)]; rfl
 have hfl := Zdt (k := 4) rows h4
 rw [hl] at hfl
 simp only [Qjx, hk, if_true, Qo, Qb, Qd, vw_i, Qdw, h2, hg, hr, hw, hst, hti, hfl, Qc, Zce, Qi, X1, Zm, and_self, hch, e1, Quy, Qd6 (e := eSpan) (k := 2) (fun _ => rfl), vw_I, v2]
 rfl
theorem Zfx {f : Fig} {j : Nat} {b : Bolt} (hb : f.dome.bolts[j]? = some b) (s : Strip) (X : List Blk) {nb : List V} (hn : nb = ((Zeu b s).strips.map eStrip).flatten)
  (hX : X[0]? = some (.cells 0 [.rf 4 1 0 f.dome.bolts.length 4, .rf (2 + (2 * f.dome.bolts.length + 3)) 1 0 f.dome.gores.length 1, .i f.dome.loss, .rf (2 + (2 * f.dome.bolts.length + 5)) 1 0 f.dome.rounds.length 2,
   .rf (2 + (2 * f.dome.bolts.length + 7)) 1 0 f.dome.widths.length 1, .i f.dome.slope, .i f.period, .i f.run, .i f.near, .rf (2 * f.dome.bolts.length + 11) 1 0 f.starts.length 1, .rf (2 * f.dome.bolts.length + 13) 1 0 f.times.length 1])) :
  vw (((Zds f ++ X).set (2 * j + 5) (.cells 2 nb)).set 4 (.cells 1 ((Zdw 0 f.dome.bolts).set j [.i b.stretch.low, .i b.stretch.high, .rf (2 * j + 5) 2 0 (b.strips.length + 1) 3, .i b.wrong]).flatten)) 8 (.ad (2 * f.dome.bolts.length + 15) 0 0) = .pa (eFig (Zdu f j s)) := by
 have hj := Qav hb
 have hl := Zdz f
 have hlen : (Zdu f j s).dome.bolts.length = f.dome.bolts.length := Xn
 have hgd : f.dome.bolts.getD j ⟨⟨0, 0⟩, [], 0⟩ = b := by rw [Qa, hb]; rfl
 have hat : ∀ (i : Nat) (b' : Bolt), (Zdu f j s).dome.bolts[i]? = some b' → (i = j ∧ b' = Zeu b s) ∨ (i ≠ j ∧ f.dome.bolts[i]? = some b') := fun i b' h => by
  simp only [Zdu, Zdv, hgd] at h
  by_cases hij : i = j
  ·subst hij
   left
   rw [Zq hj] at h
   exact ⟨rfl, (Option.some.inj h).symm⟩
  ·right
   rw [Qf (Ne.symm hij)] at h
   exact ⟨hij, h⟩
 refine Zfw (f := Zdu f j s) (gen := fun i => if i = j then 2 else 1) ⟨_, by rw [Zq (by simp [hl]; omega)], ?_, ?_, ?_⟩ ?_ ?_ ?_ ?_ ?_ ?_ ?_
 ·intro r hr
  rcases List.mem_or_eq_of_mem_set hr with h | rfl
  ·exact Ze1 r h
  ·rfl
 ·rw [Xn, Ze7, hlen]
 ·intro i b' h
  rcases hat i b' h with ⟨rfl, rfl⟩ | ⟨hij, h⟩
  ·rw [Zq (by rw [Ze7]; exact hj)]
   simp [Zeu]
  ·rw [Qf (Ne.symm hij), Ze6, h, Qi, if_neg hij]
   rfl
 ·intro i b' h
  rw [Qf (by omega)]
  rcases hat i b' h with ⟨rfl, rfl⟩ | ⟨hij, h⟩
  ·rw [Zq (by simp [hl]; omega), hn, if_pos rfl]
  ·rw [Qf (by omega), if_neg hij]
   exact Zfu h
 ·rw [hlen, Qf (by omega), Qf (by omega)]
  exact Ze0 X 0
 ·rw [hlen, Qf (by omega), Qf (by omega)]
  exact Ze0 X 2
 ·rw [hlen, Qf (by omega), Qf (by omega)]
  exact Ze0 X 4
 ·rw [hlen, Qf (by omega), Qf (by omega)]
  exact Ze0 X 6
 ·rw [hlen, Qf (by omega), Qf (by omega)]
  exact Ze0 X 8
 ·rw [hlen, Qf (by omega), Qf (by omega), Zf0 f X 0, hX]
  simp only [show 2 + (2 * f.dome.bolts.length + 3) = 2 * f.dome.bolts.length + 5 by omega, show 2 + (2 * f.dome.bolts.length + 5) = 2 * f.dome.bolts.length + 7 by omega, show 2 + (2 * f.dome.bolts.length + 7) = 2 * f.dome.bolts.length + 9 by omega]
  rfl
theorem q44 : HG2 44 [] = (True, .b true) := h44
theorem q46 (l k : List Int) : HG2 46 [.sl 1 (l.map eI), .sl 1 (k.map eI)] = (l.length < 10000000 ∧ k.length < 10000000, .b (subB l k)) := h46 l k
theorem q45e (d : Dome) : HG2 45 [.ag (Qal d)] = (True, eLE (Qwh d)) := e45 d
theorem q18e (f : Fig) : HG2 18 [.ag (eFig f)] = (True, eNE (Qe9 f)) := b18 f
theorem q22e (f : Fig) : HG2 22 [.ag (eFig f)] = (True, eNE (Qco f)) := b22 f
theorem q19e (f : Fig) : HG2 19 [.ag (eFig f)] = (True, eLE (badR f)) := b19 f
theorem q29e (f : Fig) : HG2 29 [.ag (eFig f)] = (True, .b (farF f)) := b29 f
theorem q36e (f : Fig) : HG2 36 [.ag (eFig f)] = (f.starts.length < 10000000 ∧ f.times.length < 10000000, .i (Qc2 f true)) := b36 f
set_option maxRecDepth 20000 in
set_option maxHeartbeats 8000000 in
theorem P14 (f : Fig) (j : Int) (s : Strip) : Qab Try.prog 14 [.ag (eFig f), .i j, .ag (eStrip s)] (.b true) := by
 refine Qac Zgl hmix Try.func14 M.cb14 M.cc14 M.cs14 M.cn14 ?_
 have g1 := q29e f
 have g2 := q36e f
 have g3 := k21n f
 have g9 := q44
 simp only [eFig] at g1 g2 g3
 cases hf : farF f with
 | true => simp only [M.rc14, M.rs14, g1, g9, hf, Qa7, Qa8, Qad, Qai, Qa4, Qae, Qa5, Qa2, Fam.step, Qaf, Qbz, Qbq, ug, evO, opv, qv, Qb2, Qrv, binV, ldV, iadV, lenV, Qaw, V.cells, Qas, Qaa, Qa6, flat, Qa3, Qa0, Qa1, ↓reduceIte, Nat.reduceEqDiff, Nat.reduceAdd, Nat.reduceLT, Nat.reduceLeDiff, Qb, Qd, Qv, Qx, Qh, Qk, Qo, Qm, Q2, Qt, Qn, Qw, endQ, rvs, rv1, resV, vw_i, vw_b, Qay, Qaz, zipA, Qi, Qs, Qy, Qp, Qz, Qe, Q9, true_and, and_true, and_self, false_and, forall_const, false_implies, implies_true, reduceCtorEq, beq_false, imp_self, Qc, Qa, Ql, eStrip, eFig]
 | false =>
  have h21 := Qn6 (Qvt hf)
  obtain ⟨hs, ht⟩ := h21.lens
  by_cases he : Qc2 f true = 0
  case neg => simp only [M.rc14, M.rs14, g1, g2, g9, hf, hs, ht, he, eq_self, Qa7, Qa8, Qad, Qai, Qa4, Qae, Qa5, Qa2, Fam.step, Qaf, Qbz, Qbq, ug, evO, opv, qv, Qb2, Qrv, binV, ldV, iadV, lenV, Qaw, V.cells, Qas, Qaa, Qa6, flat, Qa3, Qa0, Qa1, ↓reduceIte, Nat.reduceEqDiff, Nat.reduceAdd, Nat.reduceLT, Nat.reduceLeDiff, Qb, Qd, Qv, Qx, Qh, Qk, Qo, Qm, Q2, Qt, Qn, Qw, endQ, rvs, rv1, resV, vw_i, vw_b, Qay, Qaz, zipA, beq_self_eq_true, Qi, Qs, Qy, Qp, Qz, Za, Qe, Q9, decide_false, true_and, and_true, and_self, false_and, forall_const, implies_true, reduceCtorEq, beq_false, imp_self, Qc, Qa, Ql, eStrip, eFig]
  obtain ⟨h1, _, hp⟩ := Qek he
  have hv := (Qbs h1).dome
  have hnb := hv.nb
  by_cases h1 : j < 0
  case pos => simp only [M.rc14, M.rs14, g1, g2, g9, hf, hs, ht, he, eq_self, h1, Qa7, Qa8, Qad, Qai, Qa4, Qae, Qa5, Qa2, Fam.step, Qaf, Qbz, Qbq, ug, evO, opv, qv, Qb2, Qrv, binV, ldV, iadV, lenV, Qaw, V.cells, Qas, Qaa, Qa6, flat, Qa3, Qa0, Qa1, ↓reduceIte, Nat.reduceEqDiff, Nat.reduceAdd, Nat.reduceLT, Nat.reduceLeDiff, Qb, Qd, Qv, Qx, Qh, Qk, Qo, Qm, Q2, Qt, Qn, Qw, endQ, rvs, rv1, resV, vw_i, vw_b, Qay, Qaz, zipA, beq_self_eq_true, Qi, Qs, Qy, Qp, Qz, Qe, Q9, decide_true, true_and, and_true, and_self, false_and, forall_const, implies_true, reduceCtorEq, beq_false, imp_self, Qc, Qa, Ql, eStrip, eFig]
  by_cases h2 : (f.dome.bolts.length : Int) ≤ j
  case pos => simp only [M.rc14, M.rs14, g1, g2, g9, hf, hs, ht, he, eq_self, h1, h2, Qa7, Qa8, Qad, Qai, Qa4, Qae, Qa5, Qa2, Fam.step, Qaf, Qbz, Qbq, ug, evO, opv, qv, Qb2, Qrv, binV, ldV, iadV, lenV, Qaw, V.cells, Qas, Qaa, Qa6, flat, Qa3, Qa0, Qa1, ↓reduceIte, Nat.reduceEqDiff, Nat.reduceAdd, Nat.reduceLT, Nat.reduceLeDiff, Qb, Qd, Qv, Qx, Qh, Qk, Qo, Qm, Q2, Qt, Qn, Qw, endQ, rvs, rv1, resV, vw_i, vw_b, Qay, Qaz, zipA, beq_self_eq_true, Qi, Qs, Qy, Qp, Qz, Qe, Q9, decide_true, decide_false, true_and, and_true, and_self, false_and, forall_const, implies_true, reduceCtorEq, beq_false, imp_self, Qc, Qa, Ql, eStrip, eFig]
  have hj0 : 0 ≤ j := by omega
  have hj1 : j < f.dome.bolts.length := by omega
  obtain ⟨b, hb⟩ : ∃ b, f.dome.bolts[j.toNat]? = some b := ⟨_, Qg (by omega)⟩
  by_cases h3 : (8 : Int) ≤ b.strips.length
  case pos => simp only [M.rc14, M.rs14, g1, g2, g9, hf, hs, ht, he, eq_self, h1, h2, hj0, hj1, hb, h3, Qa7, Qa8, Qad, Qai, Qa4, Qae, Qa5, Qa2, Fam.step, Qaf, Qbz, Qbq, ug, evO, opv, qv, Qb2, binV, ldV, iadV, lenV, Qaw, V.cells, Qas, Qaa, Qa6, flat, Qa3, Qa0, Qa1, ↓reduceIte, Nat.reduceEqDiff, Nat.reduceAdd, Nat.reduceLT, Nat.reduceLeDiff, Qb, Qd, Qv, Qx, Qh, Qk, Zb, Qo, Qm, Q2, Qt, Qn, Qr, endQ, rvs, rv1, resV, vw_i, vw_b, Qay, Qaz, zipA, beq_self_eq_true, Qi, Qs, Qp, Qz, Qe, decide_true, decide_false, and_self, forall_const, implies_true, reduceCtorEq, Q7, Qc, Qa, Ql, eStrip, eBolt, eFig]
  have hl := Zdz f
  have b0 : ∀ L : List Blk, (Zds f ++ L)[2 * f.dome.bolts.length + 15]? = L[0]? := fun L => Zf0 f L 0
  have sb0 : ∀ (L : List Blk) (x : Blk), (Zds f ++ L).set (2 * f.dome.bolts.length + 15) x = Zds f ++ L.set 0 x := fun L x => Zf1 f L 0 x
  have hst : ∀ L : List Blk, (Zds f ++ L)[2 * j.toNat + 5]? = some (.cells 1 (b.strips.map eStrip).flatten) := fun L => Zfu hb
  have hhd := Zfr hb
  have hput := Zg0 hb
  have f1 : Qbd (b.strips.length + 1) := by unfold Qbd; omega
  have hsl := Qdq (e := eStrip) (k := 3) (fun _ => rfl) b.strips
  have hrl : (Zdw 0 f.dome.bolts).flatten.length = f.dome.bolts.length * 4 := by rw [Zdt (k := 4) _ Ze1, Ze7]
  have f2 : j.toNat * 4 + 2 + 1 ≤ f.dome.bolts.length * 4 := by omega
  have s4 : ∀ (L : List Blk) (x : Blk), ((Zds f ++ L).set (2 * j.toNat + 5) x)[4]? = some (.cells 1 (Zdw 0 f.dome.bolts).flatten) := fun L x => by rw [Qf (by omega)]; exact Zft f L
  have n1 : (2 * j.toNat == 2 * f.dome.bolts.length + 10) = false := beq_eq_false_iff_ne.2 (by omega)
  simp only [n1, M.rc14, M.rs14, s4, g1, g2, g3, hf, hs, ht, he, eq_self, h1, h2, hj0, hj1, hb, h3, h21, Zfe, Zgc, hl, Zed, b0, sb0, Zft, hst, hhd, hput, f1, hsl, hrl, f2, Zr, Xw, Nat.reduceBeqDiff, eStrip, Qag, Qa7, Qbf, Qa8, Qad, Qa4, Qcv, Qmk, ocV, nidQ, plO, plQ, plB, Qba, optL, Qf2, Qj2, shV, shL, putB, Qae, Qa5, Qa2, Fam.step, Qaf, Qbi, Qbz, Qb4, Qbq, ug, runX, eff, Qb9, fpR, fpQ, fpV, Qbp, hits, putB, nv, sv, Qce, evO, opv, qv, Qb2, binV, ldV, iadV, lenV, curG, Qaw, Qap, putAt, Qb7, Qb6, V.cells, Qas, Qb3, Qaa, Qa6, flat, Qa3, Qat, Qa0, Qa1, ↓reduceIte, Nat.reduceEqDiff, Nat.reduceAdd, Nat.reduceMul, Nat.reduceLT, Nat.reduceLeDiff, Qb, Qd, Qv, Qx, Qh, Qk, Zb, Qo, Z7, Qm, Zf, Q2, Qt, Q3, Q6, Qn, Qu, Qj, Qw, Qr, Zi, Q8, Q4, Zt, Zj, Z3, vw_i, Qay, Qaz, zipA, beq_self_eq_true, Qi, Z2, Qs, Qy, Xg, Zk, Qp, Z8, Qz, Za, Qe, decide_true, decide_false, true_and, and_self, forall_const, implies_true, reduceCtorEq, not_false_eq_true, ne_eq, Q7, Xh, Zs, Zz, Zg, Qc, Qa, Ql, eStrip, eBolt, eFig]
  refine Zge (l' := [(3, .pa (eFig f)), (7, .pa (eFig (Zdu f j.toNat s)))]) ?_ ?_
  ·simp only [Qb, Qd, cutV, Zg8, Nat.not_lt_zero, if_false, eFig]
   rw [Zfx hb s _ (by simp [Zeu, eStrip]) rfl]
   simp only [eFig]
  have w1 := q36e (Zdu f j.toNat s)
  have hs' : (Zdu f j.toNat s).starts.length < 10000000 := hs
  have ht' : (Zdu f j.toNat s).times.length < 10000000 := ht
  obtain ⟨F, hF⟩ : ∃ F, F = Zdu f j.toNat s := ⟨_, rfl⟩
  rw [← hF] at w1 hs' ht' ⊢
  have w2 := q19e f
  have w3 := q19e F
  have w4 := q45e f.dome
  have w5 := q45e F.dome
  have w6 := q22e f
  have w7 := q22e F
  have w8 := q18e f
  have w10 := q18e F
  have hng := hv.ng
  by_cases hc : Qc2 F true = 0
  case neg =>
   simp only [eFig] at w1
   simp only [w1, g9, hs', ht', hc, eFig, eq_self, Qa7, Qa8, Qad, Qai, Qa4, Qae, Qa5, Qa2, Fam.step, Qaf, evO, opv, qv, binV, ldV, Qaw, Qaa, Qa6, flat, Qa3, Qa0, Qa1, ↓reduceIte, Nat.reduceEqDiff, Nat.reduceAdd, Nat.reduceLT, Nat.reduceLeDiff, Qb, Qd, Qh, Qk, Qm, Q2, Qn, endQ, rvs, rv1, resV, vw_i, vw_b, Qay, Qaz, Qi, Qp, Za, Qe, decide_false, and_self, implies_true, eFig]
  have hp' := (Qek hc).2.2
  rw [hF] at hc hp'
  obtain ⟨c1, c2, c3⟩ := Zez he hc
  have bm := Zg6 he hc
  have lm : subB (Qwh (Zdu f j.toNat s).dome).1 (Qwh f.dome).1 = true := Zfn hp hp'
  have lem := Zfm he hc
  rw [← hF] at hc hp' c2 c3 bm lm lem
  have e1 : (badR f).2 = 0 := by unfold badR; rw [if_pos he]
  have e2 : (badR F).2 = 0 := by unfold badR; rw [if_pos hc]
  have e3 : (Qwh f.dome).2 = 0 := by unfold Qwh; rw [if_pos hp]
  have e4 : (Qwh F.dome).2 = 0 := by unfold Qwh; rw [if_pos hp']
  have n0 : F.dome.gores.length = f.dome.gores.length := by rw [hF]; rfl
  have nw : F.dome.widths.length = f.dome.widths.length := by rw [hF]; rfl
  have n1 : (badR f).1.length < 10000000 := by have := Zfs f; omega
  have n2 : ¬ (20 : Int) < (badR F).1.length := by have := Zfs F; omega
  have n3 : (badR F).1.length < 10000000 := by omega
  have hw12 : f.dome.widths.length ≤ 12 := by have := hv.nw; have := hv.nr; omega
  have ll : ∀ d : Dome, (Qwh d).1.length ≤ d.widths.length := fun d => by
   unfold Qwh
   split
   ·refine Nat.le_trans (List.length_filter_le _ _) ?_
    rw [Zd]; omega
   ·simp
  have n4 : (Qwh f.dome).1.length < 10000000 := by have := ll f.dome; omega
  have n5 : ¬ (20 : Int) < (Qwh F.dome).1.length := by have := ll F.dome; omega
  have n6 : (Qwh F.dome).1.length < 10000000 := by omega
  have n7 : ¬ (Qco f).1 < (Qco F).1 := by omega
  simp only [eFig, Qal, eNE, eLE, e1, e2, e3, e4, c1, c2] at w1 w2 w3 w4 w5 w6 w7 w8 w10
  by_cases hq : (Qe9 f).2 = 0
  case neg => simp only [w1, w2, w3, w4, w5, w6, w7, w8, w10, g9, hs', ht', hc, eFig, q46, n1, n2, n3, n4, n5, n6, n7, bm, lm, hq, eq_self, Qag, Qa7, Qa8, Qad, Qai, Qa4, Qae, Qa5, Qa2, Fam.step, Qaf, Qbz, Qbq, ug, evO, opv, qv, Qb2, binV, ldV, lenV, Qaw, Qaa, Qa6, flat, Qcy, Qa3, Qa0, Qa1, ↓reduceIte, Nat.reduceEqDiff, Nat.reduceAdd, Nat.reduceLT, Nat.reduceLeDiff, Qb, Qd, Qv, Qx, Qh, Qk, Qo, Qm, Zf, Q2, Qn, Qu, Qj, Qr, endQ, rvs, rv1, resV, vw_i, vw_b, Qay, Qaz, beq_self_eq_true, Qi, Qs, Qy, Zk, Qp, Qz, Za, Qe, Q9, decide_true, decide_false, decide_eq_true_eq, decide_eq_false_iff_not, and_true, and_self, false_and, forall_const, implies_true, beq_true, beq_false, Qff, imp_self, Qc, eFig]
  case pos =>
   obtain ⟨r1, r2, r3⟩ : (Qe9 f).2 = 0 ∧ (Qe9 F).2 = 0 ∧ (Qe9 F).1 ≤ (Qe9 f).1 := by
    rcases lem with h | h
    ·exact absurd hq h
    ·exact h
   simp only [w1, w2, w3, w4, w5, w6, w7, w8, w10, g9, hs', ht', hc, eFig, q46, n1, n2, n3, n4, n5, n6, n7, bm, lm, hq, r2, r3, eq_self, Qag, Qa7, Qa8, Qad, Qai, Qa4, Qae, Qa5, Qa2, Fam.step, Qaf, Qbz, Qbq, ug, evO, opv, qv, Qb2, binV, ldV, lenV, Qaw, Qaa, Qa6, flat, Qcy, Qa3, Qa0, Qa1, ↓reduceIte, Nat.reduceEqDiff, Nat.reduceAdd, Nat.reduceLT, Nat.reduceLeDiff, Qb, Qd, Qv, Qx, Qh, Qk, Qo, Qm, Zf, Q2, Qn, Qu, Qj, Qr, endQ, rvs, rv1, resV, vw_i, vw_b, Qay, Qaz, beq_self_eq_true, Qi, Qs, Qy, Qp, Qz, Qe, Q9, decide_true, decide_false, and_self, forall_const, implies_true, imp_self, Qc, eFig]
end Go.C02
