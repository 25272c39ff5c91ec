import Derived.Test.YtcdgojonaloclaaG3
import Derived.Test.YtcdgojonaloclaaChecked
import Derived.Test.YtcdgojonaloclaaG9
set_option linter.all false
open List renaming getD_eq_getElem?_getD → Qc, all_eq_true → Qd, getElem?_eq_getElem → Qf, length_set → Qi, length_nil → Qk, mem_range → Qm, take_succ_cons → Qo, length_take → Qr, length_drop → Qs, length_cons → Qt, getElem?_cons_zero → Qu, getElem?_cons_succ → Qv, append_nil → Qw, mem_of_getElem? → Qx, map_cons → Qz, take_nil → Q0, getElem?_set → Q3, map_nil → Q4, foldl_cons → Za
open Nat renaming mod_lt → Qa, mod_add_mod → Qb, mod_eq_of_lt → Qg, lt_or_gt_of_ne → Qh, le_refl → Qj, lt_trichotomy → Ql, add_assoc → Qq, mul_le_mul_left → Qy, zero_add → Q5, div_add_mod → Q8, strongRecOn → Q9
open Bool renaming and_eq_true → Qe, or_eq_true → Qn, false_eq_true → Qp, or_false → Q1, true_eq_false → Q2, and_false → Zb
open Option renaming getD_some → Q6
open Int renaming le_refl → Q7
set_option maxRecDepth 8000
namespace Go.C02
open Go.Fam Go.Proofs
def rc9 : RC := (.seq (.reg false [(cX 1 0), (cQ 2 [] (.mv (kB false)))]) (.keep [1] (.seq (.seq (.reg false [(cLd 9 1 true 11), (cQ 10 [9] (.call (kF 24) [(.t 9)]))]) (.keep [1,10] (.cond (.t 10) (.seq (.reg false [(cQ 11 [] (.call (kF 17) [])), (cMv 2 11)]) .ret) .skip))) (.keep [1] (.seq (.reg false [(cLd 13 1 true 11), (cQ 14 [13] (.call (kF 21) [(.t 13)])), (cQ 15 [14] (.call (kF 26) [(.t 14)])), (cMv 12 15), (cEx 16 12 0), (cEx 17 12 1), (cMv 3 16), (cMv 4 17)]) (.keep [1,3,4] (.seq (.reg false [(cLd 19 1 true 11), (cQ 20 [19] (.call (kF 34) [(.t 19)])), (cMv 18 20), (cEx 21 18 0), (cEx 22 18 1), (cMv 5 21), (cMv 6 22)]) (.keep [1,3,4,5,6] (.seq (.reg false [(cLd 24 1 true 11), (cQ 25 [24] (.call (kF 21) [(.t 24)])), (cQ 26 [25] (.call (kF 35) [(.t 25)])), (cMv 23 26), (cEx 27 23 0), (cEx 28 23 1), (cMv 7 27), (cMv 8 28)]) (.keep [1,3,4,5,6,7,8] (.seq (.seq (.reg true [(cMv 29 3), (cMv 30 5), (cB 31 .neq 29 30), (cMv 32 31), (gMv 33 32 false 4), (gMv 34 32 false 6), (gQ 35 32 false [33,34] (.bin .neq (.t 33) (.t 34))), (cQ 36 [32,35] (.pick (.t 32) (kB true) (.t 35))), (cMv 37 36), (gMv 38 37 false 8), (gMv 39 37 false 6), (gQ 40 37 false [38,39] (.bin .neq (.t 38) (.t 39))), (cQ 41 [37,40] (.pick (.t 37) (kB true) (.t 40)))]) (.keep [1,5,6,7,41] (.cond (.t 41) (.seq (.reg false [(cQ 2 [] (.mv (kB false)))]) .ret) .skip))) (.keep [1,5,6,7] (.seq (.seq (.reg false [(cMv 42 6), (cC 43 .neq 42 0)]) (.keep [1,5,7,43] (.cond (.t 43) (.seq (.reg true [(cMv 44 7), (cLn 45 44), (cC 46 .eql 45 0), (cMv 47 46), (gQ 48 47 true [] (.call (kF 17) [])), (cQ 49 [47,48] (.pick (.t 47) (.t 48) (kB false))), (cMv 2 49)]) .ret) .skip))) (.keep [1,5,7] (.seq (.reg true [(cLd 50 1 true 11), (cMv 51 7), (cQ 52 [50,51] (.call (kF 27) [(.t 50), (.t 51)])), (cMv 53 52), (gQ 54 53 true [1] (.ld true 11 (.t 1))), (gMv 55 53 true 7), (gQ 56 53 true [54,55] (.call (kF 28) [(.t 54), (.t 55)])), (gMv 57 53 true 5), (gQ 58 53 true [56,57] (.bin .eql (.t 56) (.t 57))), (cQ 59 [53,58] (.pick (.t 53) (.t 58) (kB false))), (cMv 60 59), (gQ 61 60 true [] (.call (kF 17) [])), (cQ 62 [60,61] (.pick (.t 60) (.t 61) (kB false))), (cMv 2 62)]) .ret)))))))))))))))
def pu9 : List Nat := [1]
def rs9 : List RV := [.t 2]
theorem cc9 : comp Try.prog pu9 (Try.f9.ntmps, 0) 0 1 rc9 (Try.f9.body.getD .skip) = some rc9 := by kernel_rfl
theorem cb9 : Try.f9.body = some (Try.f9.body.getD .skip) := by kernel_rfl
theorem cs9 : resRV Try.prog Try.f9.results.toList = some rs9 := by kernel_rfl
theorem cn9 : 1 ≤ Try.f9.ntmps := by decide
end Go.C02
set_option linter.unusedSimpArgs false
set_option linter.unusedVariables false
namespace Go.C02
open Go.Fam Go.Proofs
section
variable (f : Fig) (l k : List Int) (n : Int)
theorem b26 : HB 26 [.ag (eFig f)] = (True, eNE (soonR f)) := y26 f
theorem b24 : HB 24 [.ag (eFig f)] = (True, .b (farRing f)) := z24 f
theorem b21 : HB 21 [.ag (eFig f)] = (Ok21 f, .ag (eFig f)) := z21 f
theorem b34 : HB 34 [.ag (eFig f)] = (f.starts.length < 10000000 ∧ f.times.length < 10000000, eNE (soonestR f)) := y34 f
theorem b27 : HB 27 [.ag (eFig f), .sl 1 (l.map eI)] = (OkT f.times ∧ l.length < 10000000, .b (canSewR f.times l)) := y27 f l
theorem b28 : HB 28 [.ag (eFig f), .sl 1 (l.map eI)] = ((l.length ≤ f.times.length ∧ f.times.length < 100000) ∧ (∀ x ∈ f.times, tame 1000000 x) ∧ ∀ x ∈ l, tame 10000000 x, .i (endF f.times l l.length)) := y28 f l
theorem b35 : HB 35 [.ag (eFig f)] = (True, planP f) := k35 f
end
theorem Ok21.lens {f : Fig} (h : Ok21 f) : f.starts.length < 10000000 ∧ f.times.length < 10000000 := ⟨by have := h.s; omega, by have := h.t; omega⟩
end Go.C02
set_option maxRecDepth 8000
namespace Go.C02.N
open Go.Fam Go.Proofs
end Go.C02.N
set_option linter.unusedSimpArgs false
set_option linter.unusedVariables false
namespace Go.C02
open Go.Fam Go.Proofs
end Go.C02
set_option linter.unusedSimpArgs false
set_option linter.unusedVariables false
namespace Go.C02
open Go.Fam Go.Proofs
end Go.C02
set_option linter.unusedSimpArgs false
set_option linter.unusedVariables false
namespace Go.C02
open Go.Fam Go.Proofs
end Go.C02
set_option linter.unusedSimpArgs false
set_option linter.unusedVariables false
namespace Go.C02
open Go.Fam Go.Proofs
end Go.C02
set_option linter.unusedSimpArgs false
set_option linter.unusedVariables false
namespace Go.C02
open Go.Fam Go.Proofs
inductive Sch (t : List Int) (b : Nat → Int) : Nat → Nat → Int → Prop
  | nil (f : Nat) : Sch t b f 0 0
  | cut (f c k : Nat) (D1 D2 : Int) (hk : k < c) (h1 : Sch t b f k D1) (h2 : Sch t b (f + k + 1) (c - k - 1) D2) (hb : b (f + k) = max D1 D2) : Sch t b f c (max D1 D2 + t.getD ((f + k) % t.length) 0)
theorem Sch.congr {t : List Int} {b b' : Nat → Int} {f c : Nat} {D : Int} (h : Sch t b f c D) : (∀ q, f ≤ q → q < f + c → b q = b' q) → Sch t b' f c D := by
  induction h with
  | nil f => intro _; exact .nil f
  | cut f c k D1 D2 hk h1 h2 hb ih1 ih2 =>
    intro he
    exact .cut f c k D1 D2 hk (ih1 fun q h3 h4 => he q h3 (by omega)) (ih2 fun q h3 h4 => he q (by omega) (by omega)) (by rw [← he _ (by omega) (by omega)]; exact hb)
theorem Sch.in_ {t : List Int} (ht : ∀ x ∈ t, 1 ≤ x) (hn : 0 < t.length) {b : Nat → Int} {f c : Nat} {D : Int} (h : Sch t b f c D) : 0 ≤ D ∧ ∀ q, f ≤ q → q < f + c → 0 ≤ b q ∧ b q + t.getD (q % t.length) 0 ≤ D := by
  induction h with
  | nil f => exact ⟨by omega, fun q h1 h2 => by omega⟩
  | cut f c k D1 D2 hk h1 h2 hb ih1 ih2 =>
    obtain ⟨a1, a2⟩ := ih1
    obtain ⟨b1, b2⟩ := ih2
    have hx := getD_in (P := fun x => 1 ≤ x) (Qa (f + k) hn) ht
    refine ⟨by omega, fun q h3 h4 => ?_⟩
    rcases Ql q (f + k) with h | h | h
    · have := a2 q h3 (by omega); omega
    · subst h
      rw [hb]
      have := Q7 (max D1 D2 + t.getD ((f + k) % t.length) 0)
      omega
    · have := b2 q (by omega) (by omega); omega
theorem Sch.apart {t : List Int} (ht : ∀ x ∈ t, 1 ≤ x) (hn : 0 < t.length) {b : Nat → Int} {f c : Nat} {D : Int} (h : Sch t b f c D) : ∀ q, f ≤ q → q < f + c → ∃ lo hi, (f ≤ lo ∧ lo ≤ q ∧ q < hi ∧ hi ≤ f + c) ∧
    (lo = f ∨ b q < b (lo - 1) + t.getD ((lo - 1) % t.length) 0 ∧ b q + t.getD (q % t.length) 0 ≤ b (lo - 1)) ∧ (hi = f + c ∨ b q < b hi + t.getD (hi % t.length) 0 ∧ b q + t.getD (q % t.length) 0 ≤ b hi) ∧
    ∀ q', f ≤ q' → q' < f + c → q' ≠ q → (lo ≤ q' ∧ q' < hi → b q' + t.getD (q' % t.length) 0 ≤ b q) := by
  induction h with
  | nil f => intro q h1 h2; omega
  | cut f c k D1 D2 hk h1 h2 hb ih1 ih2 =>
    intro q h3 h4
    have i1 := h1.in_ ht hn
    have i2 := h2.in_ ht hn
    rcases Ql q (f + k) with h | h | h
    · obtain ⟨lo, hi, hr, hl, hh, hin⟩ := ih1 q h3 h
      have hq := i1.2 q h3 h
      have htq := getD_in (P := fun x => 1 ≤ x) (Qa q hn) ht
      have htk := getD_in (P := fun x => 1 ≤ x) (Qa (f + k) hn) ht
      refine ⟨lo, hi, by omega, hl, ?_, fun q' h5 h6 hne h7 => hin q' h5 (by omega) hne h7⟩
      right
      rcases hh with hh | hh
      · subst hh; rw [hb]; omega
      · exact hh
    · subst h
      refine ⟨f, f + c, by omega, .inl rfl, .inl rfl, fun q' h5 h6 hne _ => ?_⟩
      rw [hb]
      rcases Qh hne with h7 | h7
      · have := i1.2 q' h5 h7; omega
      · have := i2.2 q' (by omega) (by omega); omega
    · obtain ⟨lo, hi, hr, hl, hh, hin⟩ := ih2 q (by omega) (by omega)
      have hq := i2.2 q (by omega) (by omega)
      have htq := getD_in (P := fun x => 1 ≤ x) (Qa q hn) ht
      have htk := getD_in (P := fun x => 1 ≤ x) (Qa (f + k) hn) ht
      refine ⟨lo, hi, by omega, ?_, ?_, fun q' h5 h6 hne h7 => hin q' (by omega) (by omega) hne h7⟩
      · right
        rcases hl with hl | hl
        · subst hl
          rw [show f + k + 1 - 1 = f + k by omega, hb]; omega
        · exact hl
      · rcases hh with hh | hh
        · left; omega
        · exact .inr hh
theorem Sch.clash {t : List Int} (ht : ∀ x ∈ t, 1 ≤ x) (hn : 0 < t.length) {b : Nat → Int} {f c : Nat} {D : Int} (h : Sch t b f c D) : ∀ q q', f ≤ q → q < q' → q' < f + c →
    b q + t.getD (q % t.length) 0 ≤ b q' ∨ b q' + t.getD (q' % t.length) 0 ≤ b q ∨ ∃ m, q < m ∧ m < q' ∧ (b q + t.getD (q % t.length) 0 ≤ b m ∧ b q' + t.getD (q' % t.length) 0 ≤ b m) := by
  induction h with
  | nil f => intro q q' h1 h2 h3; omega
  | cut f c k D1 D2 hk h1 h2 hb ih1 ih2 =>
    intro q q' h3 h4 h5
    have i1 := h1.in_ ht hn
    have i2 := h2.in_ ht hn
    by_cases a1 : q' < f + k
    · exact ih1 q q' h3 h4 a1
    by_cases a2 : q' = f + k
    · subst a2
      have := i1.2 q h3 h4
      left; rw [hb]; omega
    by_cases a3 : q < f + k
    · right; right
      have := i1.2 q h3 a3
      have := i2.2 q' (by omega) (by omega)
      exact ⟨f + k, a3, by omega, by rw [hb]; omega⟩
    by_cases a4 : q = f + k
    · subst a4
      have := i2.2 q' (by omega) (by omega)
      right; left; rw [hb]; omega
    · exact ih2 q q' (by omega) h4 (by omega)
def atB (t out : List Int) (q : Nat) : Int := out.getD (q % t.length) 0
theorem getD_set {l : List Int} {i j : Nat} {v : Int} (hi : i < l.length) : (l.set i v).getD j 0 = if j = i then v else l.getD j 0 := by
  simp only [Qc, Q3]
  by_cases h : i = j
  · subst h; simp [hi]
  · rw [if_neg h, if_neg (fun e => h e.symm)]
theorem mod_inj {n f q q' : Nat} (h1 : f ≤ q ∧ q < f + n) (h2 : f ≤ q' ∧ q' < f + n) (h : q % n = q' % n) : q = q' := by
  have hn : 0 < n := by omega
  have a1 := Q8 q n
  have a2 := Q8 q' n
  rcases Ql (q / n) (q' / n) with e | e | e
  · have : n * (q / n + 1) ≤ n * (q' / n) := Qy n e
    rw [Nat.mul_add, Nat.mul_one] at this; omega
  · rw [e] at a1; omega
  · have : n * (q' / n + 1) ≤ n * (q / n) := Qy n e
    rw [Nat.mul_add, Nat.mul_one] at this; omega
theorem begF_out {t : List Int} (hn : 0 < t.length) : ∀ (k f c : Nat) (out : List Int), out.length = t.length → c ≤ t.length → ∀ j, j < t.length → (∀ q, f ≤ q → q < f + c → q % t.length ≠ j) → (begF k t (f % t.length) c out).getD j 0 = out.getD j 0 := by
  intro k
  induction k with
  | zero => intros; rfl
  | succ k ih =>
    intro f c out ho hc j hj hne
    simp only [begF]
    split
    · rfl
    · rename_i h0
      rw [seg_mod]
      obtain ⟨b, hb⟩ : ∃ b, b = lastOf (seg t f c) := ⟨_, rfl⟩
      rw [← hb]
      have hbc : b < c := by rw [hb]; exact last_lt h0
      have e1 : (f % t.length + b) % t.length = (f + b) % t.length := Qb _ _ _
      have e2 : (f % t.length + b + 1) % t.length = (f + b + 1) % t.length := by rw [Qq, Qb, Qq]
      rw [e1, e2]
      have hlen : (begF k t (f % t.length) b (out.set ((f + b) % t.length) (max (Dn (seg t (f % t.length) b)) (Dn (seg t ((f + b + 1) % t.length) (c - b - 1)))))).length = t.length := by rw [begF_len, Qi, ho]
      rw [ih (f + b + 1) (c - b - 1) _ hlen (by omega) j hj fun q h1 h2 => hne q (by omega) (by omega)]
      rw [ih f b _ (by rw [Qi, ho]) (by omega) j hj fun q h1 h2 => hne q h1 (by omega)]
      rw [getD_set (by rw [ho]; exact Qa _ hn), if_neg (fun e => hne (f + b) (by omega) (by omega) e.symm)]
theorem begF_sch {t : List Int} (hn : 0 < t.length) : ∀ (k f c : Nat) (out : List Int), out.length = t.length → c ≤ t.length → c ≤ k → Sch t (atB t (begF k t (f % t.length) c out)) f c (Dn (seg t f c)) := by
  intro k
  induction k with
  | zero =>
    intro f c out ho hc hk
    have : c = 0 := by omega
    subst this
    exact .nil f
  | succ k ih =>
    intro f c out ho hc hk
    by_cases h0 : c = 0
    · subst h0; exact .nil f
    · simp only [begF, if_neg h0]
      rw [seg_mod]
      obtain ⟨b, hb⟩ : ∃ b, b = lastOf (seg t f c) := ⟨_, rfl⟩
      rw [← hb]
      have hbc : b < c := by rw [hb]; exact last_lt h0
      have e1 : (f % t.length + b) % t.length = (f + b) % t.length := Qb _ _ _
      have e2 : (f % t.length + b + 1) % t.length = (f + b + 1) % t.length := by rw [Qq, Qb, Qq]
      rw [e1, e2, seg_mod, seg_mod]
      obtain ⟨v, hv⟩ : ∃ v, v = max (Dn (seg t f b)) (Dn (seg t (f + b + 1) (c - b - 1))) := ⟨_, rfl⟩
      rw [← hv]
      obtain ⟨o1, ho1⟩ : ∃ o1, o1 = begF k t (f % t.length) b (out.set ((f + b) % t.length) v) := ⟨_, rfl⟩
      have ho1l : o1.length = t.length := by rw [ho1, begF_len, Qi, ho]
      rw [← ho1]
      have hne : seg t f c ≠ [] := fun e => h0 (by rw [← seg_len t f c, e]; rfl)
      have hD := Dn_cut hne
      rw [← hb, seg_take (Nat.le_of_lt hbc), seg_get hbc, seg_drop, seg_mod, ← hv] at hD
      rw [hD, hv]
      have s1 := ih f b (out.set ((f + b) % t.length) v) (by rw [Qi, ho]) (by omega) (by omega)
      rw [← ho1] at s1
      have s2 := ih (f + b + 1) (c - b - 1) o1 ho1l (by omega) (by omega)
      have hrest : ∀ q, f ≤ q → q ≤ f + b → atB t (begF k t ((f + b + 1) % t.length) (c - b - 1) o1) q = atB t o1 q := fun q h1 h2 => by
        unfold atB
        refine begF_out hn k (f + b + 1) (c - b - 1) o1 ho1l (by omega) _ (Qa _ hn) fun q' h3 h4 e => ?_
        have := mod_inj (n := t.length) (f := f) (q := q') (q' := q) (by omega) (by omega) e
        omega
      refine .cut f c b _ _ hbc (s1.congr fun q h1 h2 => (hrest q h1 (by omega)).symm) s2 ?_
      rw [hrest _ (by omega) (by omega), ← hv, ho1]
      unfold atB
      rw [begF_out hn k f b _ (by rw [Qi, ho]) (by omega) _ (Qa _ hn) fun q' h3 h4 e => by
        have := mod_inj (n := t.length) (f := f) (q := q') (q' := f + b) (by omega) (by omega) e
        omega]
      rw [getD_set (by rw [ho]; exact Qa _ hn), if_pos rfl]
end Go.C02
set_option linter.unusedSimpArgs false
set_option linter.unusedVariables false
namespace Go.C02
open Go.Fam Go.Proofs
theorem getDB_set {l : List Bool} {i j : Nat} {v : Bool} (hi : i < l.length) : (l.set i v).getD j false = if j = i then v else l.getD j false := by
  simp only [Qc, Q3]
  by_cases h : i = j
  · subst h; simp [hi]
  · rw [if_neg h, if_neg (fun e => h e.symm)]
theorem occ1_get {t b : List Int} {seam : Nat} {out : List Bool} {i g : Nat} (hl : out.length = b.length) (hi : i < b.length) :
    (occ1 t b seam out i).getD g false = true ↔ out.getD g false = true ∨ ((b.getD i 0 + t.getD i 0 ≤ b.getD seam 0 ∧ (out.getD i false = true ∨ out.getD ((i + 1) % b.length) false = true)) ∧ (g = i ∨ g = (i + 1) % b.length)) := by
  unfold occ1
  have hn : (i + 1) % b.length < b.length := Qa _ (by omega)
  split
  · rename_i h
    rw [getDB_set (by rw [Qi]; omega), getDB_set (by omega)]
    by_cases h1 : g = (i + 1) % b.length
    · rw [if_pos h1]
      exact ⟨fun _ => .inr ⟨h, .inr h1⟩, fun _ => rfl⟩
    · rw [if_neg h1]
      by_cases h2 : g = i
      · rw [if_pos h2]
        exact ⟨fun _ => .inr ⟨h, .inl h2⟩, fun _ => rfl⟩
      · rw [if_neg h2]
        exact ⟨.inl, fun h' => h'.resolve_right fun h'' => h''.2.elim h2 h1⟩
  · rename_i h
    constructor
    · exact .inl
    · rintro (h' | ⟨h', _⟩)
      · exact h'
      · exact absurd h' h
theorem occ_in {t b : List Int} {seam : Nat} (hs : seam < b.length) {X : Nat → Prop} (h0 : X seam) (h1 : X ((seam + 1) % b.length)) (hc : ∀ i, i < b.length → b.getD i 0 + t.getD i 0 ≤ b.getD seam 0 → (X i ∨ X ((i + 1) % b.length)) → X i ∧ X ((i + 1) % b.length)) :
    ∀ g, (occN t b seam).getD g false = true → X g := by
  have hn : (seam + 1) % b.length < b.length := Qa _ (by omega)
  have hr : ∀ (out : List Bool), out.length = b.length → (∀ g, out.getD g false = true → X g) → ∀ j, j ≤ b.length → ∀ g, (occR t b seam out j).getD g false = true → X g := by
    intro out hl hout j
    induction j with
    | zero => intro _ g hg; exact hout g hg
    | succ j ih =>
      intro hj g hg
      rw [occR_succ, occ1_get (by rw [occR_len, hl]) (by omega)] at hg
      rcases hg with hg | ⟨⟨h2, h3⟩, h4⟩
      · exact ih (by omega) g hg
      · have := hc j (by omega) h2 (h3.imp (ih (by omega) _) (ih (by omega) _))
        rcases h4 with rfl | rfl
        · exact this.1
        · exact this.2
  have hI : ∀ k g, (occI t b seam k).getD g false = true → X g := by
    intro k
    induction k with
    | zero =>
      intro g hg
      unfold occI occ0 at hg
      rw [getDB_set (by simp; omega), getDB_set (by simp; omega)] at hg
      split at hg
      · rename_i e; rw [e]; exact h1
      · split at hg
        · rename_i e; rw [e]; exact h0
        · exfalso
          rw [Qc] at hg
          by_cases hgl : g < b.length
          · rw [List.getElem?_replicate_of_lt hgl] at hg; cases hg
          · rw [List.getElem?_eq_none (by simp; omega)] at hg; cases hg
    | succ k ih => exact hr _ (occI_len _ _ _ _) ih _ (Qj _)
  exact hI b.length
theorem occR_mono {t b : List Int} {seam : Nat} {out : List Bool} (hl : out.length = b.length) {g : Nat} (hg : out.getD g false = true) : ∀ j, j ≤ b.length → (occR t b seam out j).getD g false = true := by
  intro j
  induction j with
  | zero => intro _; exact hg
  | succ j ih =>
    intro hj
    rw [occR_succ, occ1_get (by rw [occR_len, hl]) (by omega)]
    exact .inl (ih (by omega))
theorem occR_step {t b : List Int} {seam : Nat} {out : List Bool} (hl : out.length = b.length) {i : Nat} (hi : i < b.length) (he : b.getD i 0 + t.getD i 0 ≤ b.getD seam 0) (ho : out.getD i false = true ∨ out.getD ((i + 1) % b.length) false = true) :
    (occR t b seam out b.length).getD i false = true ∧ (occR t b seam out b.length).getD ((i + 1) % b.length) false = true := by
  have key : ∀ j, i < j → j ≤ b.length → (occR t b seam out j).getD i false = true ∧ (occR t b seam out j).getD ((i + 1) % b.length) false = true := by
    intro j
    induction j with
    | zero => intro h; omega
    | succ j ih =>
      intro h1 h2
      rw [occR_succ, occ1_get (by rw [occR_len, hl]) (by omega), occ1_get (by rw [occR_len, hl]) (by omega)]
      by_cases e : i = j
      · subst e
        have := ho.imp (fun h => occR_mono (t := t) (seam := seam) hl h i (by omega)) (fun h => occR_mono (t := t) (seam := seam) hl h i (by omega))
        exact ⟨.inr ⟨⟨he, this⟩, .inl rfl⟩, .inr ⟨⟨he, this⟩, .inr rfl⟩⟩
      · obtain ⟨k1, k2⟩ := ih (by omega) (by omega)
        exact ⟨.inl k1, .inl k2⟩
  exact key b.length hi (Qj _)
theorem occI_mono {t b : List Int} {seam g k : Nat} (hg : (occI t b seam k).getD g false = true) : ∀ j, k ≤ j → (occI t b seam j).getD g false = true := by
  intro j hj
  induction j with
  | zero => have : k = 0 := by omega
            subst this; exact hg
  | succ j ih =>
    by_cases e : k = j + 1
    · subst e; exact hg
    · exact occR_mono (occI_len _ _ _ _) (ih (by omega)) _ (Qj _)
theorem occI_start {t b : List Int} {seam : Nat} (hs : seam < b.length) (k : Nat) : (occI t b seam k).getD seam false = true ∧ (occI t b seam k).getD ((seam + 1) % b.length) false = true := by
  have hn : (seam + 1) % b.length < b.length := Qa _ (by omega)
  have h0 : (occI t b seam 0).getD seam false = true ∧ (occI t b seam 0).getD ((seam + 1) % b.length) false = true := by
    unfold occI occ0
    constructor
    · rw [getDB_set (by simp; omega), getDB_set (by simp; omega)]
      split <;> simp
    · rw [getDB_set (by simp; omega), if_pos rfl]
  exact ⟨occI_mono h0.1 k (Nat.zero_le _), occI_mono h0.2 k (Nat.zero_le _)⟩
theorem occ_right {t b : List Int} {q : Nat} (hn : 0 < b.length) : ∀ r, r < b.length → (∀ j, 1 ≤ j → j ≤ r → b.getD ((q + j) % b.length) 0 + t.getD ((q + j) % b.length) 0 ≤ b.getD (q % b.length) 0) → (occI t b (q % b.length) r).getD ((q + r + 1) % b.length) false = true := by
  intro r
  induction r with
  | zero =>
    intro _ _
    have := (occI_start (t := t) (b := b) (seam := q % b.length) (Qa _ hn) 0).2
    rwa [Qb] at this
  | succ r ih =>
    intro hr he
    have h1 := ih (by omega) fun j h1 h2 => he j h1 (by omega)
    have := (occR_step (t := t) (b := b) (seam := q % b.length) (out := occI t b (q % b.length) r) (i := (q + (r + 1)) % b.length) (occI_len _ _ _ _) (Qa _ hn) (he (r + 1) (by omega) (Qj _)) (.inl h1)).2
    rw [Qb] at this
    exact this
theorem occ_left {t b : List Int} {q : Nat} (hn : 0 < b.length) : ∀ r, r < b.length → r ≤ q → (∀ j, 1 ≤ j → j ≤ r → b.getD ((q - j) % b.length) 0 + t.getD ((q - j) % b.length) 0 ≤ b.getD (q % b.length) 0) → (occI t b (q % b.length) r).getD ((q - r) % b.length) false = true := by
  intro r
  induction r with
  | zero =>
    intro _ _ _
    exact (occI_start (t := t) (b := b) (seam := q % b.length) (Qa _ hn) 0).1
  | succ r ih =>
    intro hr hq he
    have h1 := ih (by omega) (by omega) fun j h1 h2 => he j h1 (by omega)
    have e1 : ((q - (r + 1)) % b.length + 1) % b.length = (q - r) % b.length := by rw [Qb, show q - (r + 1) + 1 = q - r by omega]
    exact (occR_step (t := t) (b := b) (seam := q % b.length) (out := occI t b (q % b.length) r) (i := (q - (r + 1)) % b.length) (occI_len _ _ _ _) (Qa _ hn) (he (r + 1) (by omega) (Qj _)) (.inr (by rw [e1]; exact h1))).1
theorem no_clash {t b : List Int} (hc : canSewR t b = true) {x y : Nat} (hx : x < b.length) (hy : y < b.length) (hne : x ≠ y) (h1 : ¬ b.getD x 0 + t.getD x 0 ≤ b.getD y 0) (h2 : ¬ b.getD y 0 + t.getD y 0 ≤ b.getD x 0) (g : Nat) (hg : g < b.length) : ¬ ((occN t b x).getD g false = true ∧ (occN t b y).getD g false = true) := by
  unfold canSewR at hc
  rw [Qe, Qd] at hc
  have key : ∀ a c, a < b.length → c < a → ¬ b.getD a 0 + t.getD a 0 ≤ b.getD c 0 → ¬ b.getD c 0 + t.getD c 0 ≤ b.getD a 0 → ¬ ((occN t b a).getD g false = true ∧ (occN t b c).getD g false = true) := by
    intro a c ha hca k1 k2 k3
    have := Qd.1 (hc.2 a (Qm.2 ha)) c (Qm.2 hca)
    unfold noClash at this
    rw [Qn, Qn, decide_eq_true_eq, decide_eq_true_eq, Qd] at this
    rcases this with (h | h) | h
    · exact k2 h
    · exact k1 h
    · have := h g (Qm.2 hg)
      rw [k3.1, k3.2] at this
      cases this
  rcases Qh hne with h | h
  · exact fun hh => key y x hy h h2 h1 ⟨hh.2, hh.1⟩
  · exact key x y hx h h1 h2
theorem last_ended {t b : List Int} (ht : ∀ x ∈ t, 1 ≤ x) (hbt : b.length = t.length) (hc : canSewR t b = true) {f c q0 : Nat} (hcn : c ≤ b.length) (h0 : f ≤ q0 ∧ q0 < f + c) (hmax : ∀ q, f ≤ q → q < f + c → b.getD (q % b.length) 0 ≤ b.getD (q0 % b.length) 0) :
    ∀ q, f ≤ q → q < f + c → q ≠ q0 → b.getD (q % b.length) 0 + t.getD (q % b.length) 0 ≤ b.getD (q0 % b.length) 0 := by
  have hn : 0 < b.length := by omega
  have htp : ∀ q, 1 ≤ t.getD (q % b.length) 0 := fun q => getD_in (P := fun x => 1 ≤ x) (by rw [← hbt]; exact Qa _ hn) ht
  have right : ∀ r, q0 + r < f + c → 1 ≤ r → b.getD ((q0 + r) % b.length) 0 + t.getD ((q0 + r) % b.length) 0 ≤ b.getD (q0 % b.length) 0 := by
    intro r
    induction r using Q9 with
    | _ r ih =>
      intro h1 h2
      refine Classical.byContradiction fun hne => ?_
      have hocc := occ_right (t := t) (b := b) (q := q0) hn (r - 1) (by omega) fun j hj1 hj2 => ih j (by omega) (by omega) hj1
      rw [show q0 + (r - 1) + 1 = q0 + r by omega] at hocc
      have hocc := occI_mono hocc b.length (by omega)
      have hself := (occI_start (t := t) (b := b) (seam := (q0 + r) % b.length) (Qa _ hn) b.length).1
      have hm := hmax (q0 + r) (by omega) h1
      have hp := htp q0
      exact no_clash hc (x := (q0 + r) % b.length) (y := q0 % b.length) (Qa _ hn) (Qa _ hn) (fun e => by
        have := mod_inj (n := b.length) (f := f) (q := q0 + r) (q' := q0) (by omega) (by omega) e; omega) hne (by omega) _ (Qa _ hn) ⟨hself, hocc⟩
  have left : ∀ r, r ≤ q0 → f ≤ q0 - r → 1 ≤ r → b.getD ((q0 - r) % b.length) 0 + t.getD ((q0 - r) % b.length) 0 ≤ b.getD (q0 % b.length) 0 := by
    intro r
    induction r using Q9 with
    | _ r ih =>
      intro h0' h1 h2
      refine Classical.byContradiction fun hne => ?_
      have hocc := occ_left (t := t) (b := b) (q := q0) hn (r - 1) (by omega) (by omega) fun j hj1 hj2 => ih j (by omega) (by omega) (by omega) hj1
      have hocc := occI_mono hocc b.length (by omega)
      have hself := (occI_start (t := t) (b := b) (seam := (q0 - r) % b.length) (Qa _ hn) b.length).2
      rw [Qb, show q0 - r + 1 = q0 - (r - 1) by omega] at hself
      have hm := hmax (q0 - r) (by omega) (by omega)
      have hp := htp q0
      exact no_clash hc (x := (q0 - r) % b.length) (y := q0 % b.length) (Qa _ hn) (Qa _ hn) (fun e => by
        have := mod_inj (n := b.length) (f := f) (q := q0 - r) (q' := q0) (by omega) (by omega) e; omega) hne (by omega) _ (Qa _ hn) ⟨hself, hocc⟩
  intro q h1 h2 h3
  rcases Qh h3 with h | h
  · have := left (q0 - q) (by omega) (by omega) (by omega)
    rwa [show q0 - (q0 - q) = q by omega] at this
  · have := right (q - q0) (by omega) (by omega)
    rwa [show q0 + (q - q0) = q by omega] at this
theorem exists_max (g : Nat → Int) : ∀ (c f : Nat), 0 < c → ∃ q0, (f ≤ q0 ∧ q0 < f + c) ∧ ∀ q, f ≤ q → q < f + c → g q ≤ g q0 := by
  intro c
  induction c with
  | zero => intro f h; omega
  | succ c ih =>
    intro f _
    by_cases h0 : c = 0
    · subst h0
      exact ⟨f, by omega, fun q h1 h2 => by have : q = f := by omega
                                            rw [this]; exact Q7 _⟩
    · obtain ⟨q0, h1, h2⟩ := ih f (by omega)
      by_cases h : g q0 ≤ g (f + c)
      · refine ⟨f + c, by omega, fun q h3 h4 => ?_⟩
        by_cases e : q = f + c
        · rw [e]; exact Q7 _
        · have := h2 q h3 (by omega); omega
      · refine ⟨q0, by omega, fun q h3 h4 => ?_⟩
        by_cases e : q = f + c
        · rw [e]; omega
        · exact h2 q h3 (by omega)
theorem row_lower {t b : List Int} (ht : ∀ x ∈ t, 1 ≤ x) (hb0 : ∀ x ∈ b, 0 ≤ x) (hbt : b.length = t.length) (hc : canSewR t b = true) : ∀ (n c f : Nat) (M : Int), c ≤ n → c ≤ b.length → 0 ≤ M → (∀ q, f ≤ q → q < f + c → b.getD (q % b.length) 0 + t.getD (q % b.length) 0 ≤ M) → Dn (seg t f c) ≤ M := by
  intro n
  induction n with
  | zero =>
    intro c f M h1 _ hM _
    have : c = 0 := by omega
    subst this
    exact hM
  | succ n ih =>
    intro c f M h1 h2 hM hq
    by_cases h0 : c = 0
    · subst h0; exact hM
    obtain ⟨q0, hq0, hmax⟩ := exists_max (fun q => b.getD (q % b.length) 0) c f (by omega)
    have hend := last_ended ht hbt hc h2 hq0 hmax
    obtain ⟨k, rfl⟩ : ∃ k, q0 = f + k := ⟨q0 - f, by omega⟩
    have hbp : 0 ≤ b.getD ((f + k) % b.length) 0 := getD_in (P := fun x => 0 ≤ x) (Qa _ (by omega)) hb0
    have d1 := ih k f _ (by omega) (by omega) hbp fun q h3 h4 => hend q h3 (by omega) (by omega)
    have d2 := ih (c - k - 1) (f + k + 1) _ (by omega) (by omega) hbp fun q h3 h4 => hend q (by omega) (by omega) (by omega)
    have d3 := Dn_le (l := seg t f c) (i := k) (by rw [seg_len]; omega)
    rw [seg_take (by omega), seg_get (by omega), seg_drop, seg_mod] at d3
    have d4 := hq (f + k) (by omega) (by omega)
    rw [hbt] at d4 d1 d2
    omega
theorem endF_ge (t b : List Int) : ∀ (n i : Nat), i < n → b.getD i 0 + t.getD i 0 ≤ endF t b n ∧ 0 ≤ endF t b n := by
  intro n
  induction n with
  | zero => intro i h; omega
  | succ n ih =>
    intro i hi
    unfold endF
    by_cases e : i = n
    · subst e
      refine ⟨by omega, ?_⟩
      cases i with
      | zero => unfold endF; omega
      | succ i => have := (ih 0 (by omega)).2; omega
    · have := ih i (by omega); omega
theorem sooner {t b : List Int} (hT : OkT t) (hc : canSewR t b = true) : minL (ringC t) ≤ endF t b b.length := by
  have hT1 := hT.1
  have ht : ∀ x ∈ t, 1 ≤ x := fun x hx => (hT.2.2 x hx).1
  have hc' := hc
  unfold canSewR at hc'
  rw [Qe, allN_eq, Qe, decide_eq_true_eq, Qd] at hc'
  obtain ⟨⟨hbt, hbx⟩, _⟩ := hc'
  have hb0 : ∀ x ∈ b, 0 ≤ x := fun x hx => by have := hbx x hx; simp only [within, Qe, decide_eq_true_eq] at this; omega
  obtain ⟨q0, hq0, hmax⟩ := exists_max (fun q => b.getD (q % b.length) 0) b.length 0 (by omega)
  have hend := last_ended ht hbt hc (Qj _) hq0 hmax
  have hq0m : q0 % b.length = q0 := Qg (by omega)
  have hbp : 0 ≤ b.getD (q0 % b.length) 0 := getD_in (P := fun x => 0 ≤ x) (Qa _ (by omega)) hb0
  have d1 := row_lower ht hb0 hbt hc b.length (b.length - 1) (q0 + 1) _ (by omega) (by omega) hbp fun q h1 h2 => by
    have h3 : q % b.length < b.length := Qa _ (by omega)
    have h4 : q % b.length ≠ q0 := fun e => by
      have := mod_inj (n := b.length) (f := q0) (q := q) (q' := q0) (by omega) (by omega) (by rw [e, hq0m]); omega
    have := hend (q % b.length) (by omega) (by omega) h4
    rwa [Nat.mod_mod] at this
  have hg := ringC_get (t := t) (s := q0) (by omega)
  rw [seg_mod, ← hbt] at hg
  have h5 := minL_le (Qx hg)
  have h6 := (endF_ge t b b.length q0 (by omega)).1
  rw [hq0m] at d1
  omega
end Go.C02
set_option linter.unusedSimpArgs false
set_option linter.unusedVariables false
namespace Go.C02
open Go.Fam Go.Proofs
theorem plan_sch {t : List Int} (h : OkT t) : Sch t (atB t (planN t)) (closeN t + 1) (t.length - 1) (restN t) ∧ (planN t).getD (closeN t) 0 = restN t := by
  have h1 := h.1
  have hcl := closeN_lt h
  have hl : ((List.replicate t.length (0 : Int)).set (closeN t) (restN t)).length = t.length := by simp
  have e : restN t = Dn (seg t (closeN t + 1) (t.length - 1)) := by unfold restN; rw [seg_mod]
  constructor
  · rw [e]
    unfold planN begN
    rw [e]
    exact begF_sch (by omega) (t.length - 1) (closeN t + 1) (t.length - 1) _ (by simp) (by omega) (Qj _)
  · unfold planN begN
    rw [begF_out (by omega) (t.length - 1) (closeN t + 1) (t.length - 1) _ hl (by omega) _ hcl fun q h3 h4 e => by
      have := mod_inj (n := t.length) (f := closeN t) (q := q) (q' := closeN t) (by omega) (by omega) (by rw [e, Qg hcl])
      omega]
    rw [getD_set (by simp; omega), if_pos rfl]
theorem min_ring {t : List Int} (h : OkT t) : minL (ringC t) = restN t + t.getD (closeN t) 0 := by
  have h1 := h.1
  have hne : ringC t ≠ [] := fun e => by have := ringC_len t; rw [e, Qk] at this; omega
  have h2 := argL_get hne
  have h3 := ringC_get (closeN_lt h)
  unfold closeN at h3 ⊢
  rw [h2] at h3
  exact Option.some.inj h3
theorem pos_of {t : List Int} {c i : Nat} (hc : c < t.length) (hi : i < t.length) (hne : i ≠ c) : ∃ q, (c + 1 ≤ q ∧ q < c + t.length) ∧ q % t.length = i := by
  by_cases h : c < i
  · exact ⟨i, by omega, Qg hi⟩
  · exact ⟨i + t.length, by omega, by rw [Nat.add_mod_right, Qg hi]⟩
theorem plan_ends {t : List Int} (h : OkT t) : ∀ i, i < t.length → i ≠ closeN t → 0 ≤ (planN t).getD i 0 ∧ (planN t).getD i 0 + t.getD i 0 ≤ restN t := by
  intro i hi hne
  obtain ⟨s1, s2⟩ := plan_sch h
  have h1 := h.1
  have ht : ∀ x ∈ t, 1 ≤ x := fun x hx => (h.2.2 x hx).1
  obtain ⟨q, hq, he⟩ := pos_of (closeN_lt h) hi hne
  have := (s1.in_ ht (by omega)).2 q hq.1 (by omega)
  unfold atB at this
  rwa [he] at this
theorem plan_can {t : List Int} (h : OkT t) : canSewR t (planN t) = true := by
  have h1 := h.1
  have hpl := planN_len t
  have ht : ∀ x ∈ t, 1 ≤ x := fun x hx => (h.2.2 x hx).1
  have hcl := closeN_lt h
  obtain ⟨s1, s2⟩ := plan_sch h
  have hends := plan_ends h
  unfold canSewR
  rw [Qe]
  constructor
  · rw [allN_eq, Qe, decide_eq_true_eq, Qd]
    refine ⟨hpl, fun x hx => ?_⟩
    have := planN_in h x hx
    simp only [within, Qe, decide_eq_true_eq]; omega
  · rw [Qd]
    intro a ha
    rw [Qd]
    intro b hb
    rw [Qm] at ha hb
    rw [hpl] at ha
    unfold noClash
    rw [Qn, Qn, decide_eq_true_eq, decide_eq_true_eq]
    have key : ∀ x y, x < t.length → y < t.length → x ≠ y → x ≠ closeN t → y ≠ closeN t →
        ((planN t).getD x 0 + t.getD x 0 ≤ (planN t).getD y 0 ∨ (planN t).getD y 0 + t.getD y 0 ≤ (planN t).getD x 0) ∨ ∀ g, g < t.length → ¬ ((occN t (planN t) x).getD g false = true ∧ (occN t (planN t) y).getD g false = true) := by
      have wlog : ∀ x y qx qy, x < t.length → y < t.length → (closeN t + 1 ≤ qx ∧ qx < closeN t + t.length) → (closeN t + 1 ≤ qy ∧ qy < closeN t + t.length) → qx % t.length = x → qy % t.length = y → qx < qy →
          ((planN t).getD x 0 + t.getD x 0 ≤ (planN t).getD y 0 ∨ (planN t).getD y 0 + t.getD y 0 ≤ (planN t).getD x 0) ∨ ∀ g, g < t.length → ¬ ((occN t (planN t) x).getD g false = true ∧ (occN t (planN t) y).getD g false = true) := by
        intro x y qx qy hx hy hqx hqy ex ey hlt
        have hc := s1.clash ht (by omega) qx qy hqx.1 hlt (by omega)
        unfold atB at hc
        rw [ex, ey] at hc
        rcases hc with hc | hc | ⟨m, hm1, hm2, hm3, hm4⟩
        · exact .inl (.inl hc)
        · exact .inl (.inr hc)
        right
        have htx := getD_in (P := fun x => 1 ≤ x) hx ht
        have hty := getD_in (P := fun x => 1 ≤ x) hy ht
        have htm := getD_in (P := fun x => 1 ≤ x) (Qa m (show 0 < t.length by omega)) ht
        have htc := getD_in (P := fun x => 1 ≤ x) hcl ht
        have hxe := hends x hx fun e => by
          have := mod_inj (n := t.length) (f := closeN t) (q := qx) (q' := closeN t) (by omega) (by omega) (by rw [ex, e, Qg hcl]); omega
        have hye := hends y hy fun e => by
          have := mod_inj (n := t.length) (f := closeN t) (q := qy) (q' := closeN t) (by omega) (by omega) (by rw [ey, e, Qg hcl]); omega
        have hX : ∀ g, (occN t (planN t) x).getD g false = true → ∃ p, (closeN t + 1 ≤ p ∧ p ≤ m) ∧ p % t.length = g := by
          refine occ_in (X := fun g => ∃ p, (closeN t + 1 ≤ p ∧ p ≤ m) ∧ p % t.length = g) (by omega) ⟨qx, by omega, ex⟩ ⟨qx + 1, by omega, by rw [hpl, ← ex, Qb]⟩ ?_
          intro i hi hie hor
          rw [hpl] at hi hor ⊢
          have hic : i ≠ closeN t := fun e => by subst e; rw [s2] at hie; omega
          obtain ⟨p, hp, hpi⟩ := pos_of hcl hi hic
          have hpm : p ≠ m := fun e => by subst e; rw [hpi] at hm3 htm; omega
          have hlow : p < m := by
            rcases Qh hpm with h5 | h5
            · exact h5
            · exfalso
              rcases hor with ⟨p', hp', e'⟩ | ⟨p', hp', e'⟩
              · have := mod_inj (n := t.length) (f := closeN t + 1) (q := p') (q' := p) (by omega) (by omega) (by rw [e', hpi]); omega
              · have := mod_inj (n := t.length) (f := closeN t + 1) (q := p') (q' := p + 1) (by omega) (by omega) (by rw [e', ← hpi, Qb]); omega
          exact ⟨⟨p, by omega, hpi⟩, ⟨p + 1, by omega, by rw [← hpi, Qb]⟩⟩
        have hY : ∀ g, (occN t (planN t) y).getD g false = true → ∃ p, (m + 1 ≤ p ∧ p ≤ closeN t + t.length) ∧ p % t.length = g := by
          refine occ_in (X := fun g => ∃ p, (m + 1 ≤ p ∧ p ≤ closeN t + t.length) ∧ p % t.length = g) (by omega) ⟨qy, by omega, ey⟩ ⟨qy + 1, by omega, by rw [hpl, ← ey, Qb]⟩ ?_
          intro i hi hie hor
          rw [hpl] at hi hor ⊢
          have hic : i ≠ closeN t := fun e => by subst e; rw [s2] at hie; omega
          obtain ⟨p, hp, hpi⟩ := pos_of hcl hi hic
          have hpm : p ≠ m := fun e => by subst e; rw [hpi] at hm4 htm; omega
          have hhigh : m < p := by
            rcases Qh hpm with h5 | h5
            · exfalso
              rcases hor with ⟨p', hp', e'⟩ | ⟨p', hp', e'⟩
              · have := mod_inj (n := t.length) (f := closeN t + 1) (q := p') (q' := p) (by omega) (by omega) (by rw [e', hpi]); omega
              · have := mod_inj (n := t.length) (f := closeN t + 1) (q := p') (q' := p + 1) (by omega) (by omega) (by rw [e', ← hpi, Qb]); omega
            · exact h5
          exact ⟨⟨p, by omega, hpi⟩, ⟨p + 1, by omega, by rw [← hpi, Qb]⟩⟩
        rintro g hg ⟨g1, g2⟩
        obtain ⟨p1, hp1, e1⟩ := hX g g1
        obtain ⟨p2, hp2, e2⟩ := hY g g2
        have := mod_inj (n := t.length) (f := closeN t + 1) (q := p1) (q' := p2) (by omega) (by omega) (by rw [e1, e2])
        omega
      intro x y hx hy hne hxc hyc
      obtain ⟨qx, hqx, ex⟩ := pos_of hcl hx hxc
      obtain ⟨qy, hqy, ey⟩ := pos_of hcl hy hyc
      rcases Ql qx qy with h5 | h5 | h5
      · exact wlog x y qx qy hx hy hqx hqy ex ey h5
      · subst h5; exact absurd (ex.symm.trans ey) hne
      · rcases wlog y x qy qx hy hx hqy hqx ey ex h5 with h6 | h6
        · exact .inl h6.symm
        · exact .inr fun g hg hh => h6 g hg ⟨hh.2, hh.1⟩
    by_cases hac : a = closeN t
    · left; left
      have := (hends b (by omega) (by omega)).2
      rw [hac, s2]; exact this
    by_cases hbc : b = closeN t
    · left; right
      have := (hends a ha hac).2
      rw [hbc, s2]; exact this
    rcases key a b ha (by omega) (by omega) hac hbc with (h5 | h5) | h5
    · exact .inl (.inr h5)
    · exact .inl (.inl h5)
    · right
      rw [Qd]
      intro g hg
      rw [Qm, hpl] at hg
      have := h5 g hg
      cases hu : (occN t (planN t) a).getD g false <;> cases hv : (occN t (planN t) b).getD g false <;> simp_all
theorem maxL_ge {l : List Int} {x : Int} (h : x ∈ l) : x ≤ maxL l := by
  have key : ∀ (l : List Int) (a : Int), a ≤ l.foldl max a ∧ ∀ x ∈ l, x ≤ l.foldl max a := by
    intro l
    induction l with
    | nil => intro a; simp
    | cons y l ih =>
      intro a
      obtain ⟨h1, h2⟩ := ih (max a y)
      rw [Za]
      refine ⟨by omega, fun x hx => ?_⟩
      rcases List.mem_cons.1 hx with rfl | hx
      · omega
      · exact h2 x hx
  cases l with
  | nil => cases h
  | cons a l =>
    obtain ⟨h1, h2⟩ := key l a
    rcases List.mem_cons.1 h with rfl | h
    · exact h1
    · exact h2 x h
theorem maxL_le {l : List Int} {M : Int} (hne : l ≠ []) (h : ∀ x ∈ l, x ≤ M) : maxL l ≤ M := by
  have key : ∀ (l : List Int) (a : Int), a ≤ M → (∀ x ∈ l, x ≤ M) → l.foldl max a ≤ M := by
    intro l
    induction l with
    | nil => intro a ha _; exact ha
    | cons y l ih =>
      intro a ha hl
      rw [Za]
      have := hl y (by simp)
      exact ih _ (by omega) fun x hx => hl x (by simp [hx])
  cases l with
  | nil => exact absurd rfl hne
  | cons a l => exact key l a (h a (by simp)) fun x hx => h x (by simp [hx])
theorem endsN_getD {t b : List Int} (hl : b.length = t.length) {i : Nat} (hi : i < t.length) : (endsN t b)[i]? = some (b.getD i 0 + t.getD i 0) := by
  refine endsN_get ?_ ?_
  · rw [Qf hi, Qc, Qf hi]; rfl
  · rw [Qf (by omega), Qc, Qf (by omega)]; rfl
theorem soon_eq {t : List Int} (h : OkT t) : maxL (endsN t (planN t)) = minL (ringC t) := by
  have h1 := h.1
  have hpl := planN_len t
  have hcl := closeN_lt h
  have hmr := min_ring h
  obtain ⟨s1, s2⟩ := plan_sch h
  have hg := endsN_getD hpl hcl
  rw [s2] at hg
  have h2 := maxL_ge (Qx hg)
  have h3 : maxL (endsN t (planN t)) ≤ minL (ringC t) := by
    refine maxL_le (fun e => by have := endsN_len hpl; rw [e, Qk] at this; omega) fun x hx => ?_
    obtain ⟨i, hi⟩ := List.getElem?_of_mem hx
    have hil := getElemLt hi
    rw [endsN_len hpl] at hil
    rw [endsN_getD hpl hil] at hi
    have hi := Option.some.inj hi
    have htc := getD_in (P := fun x => 1 ≤ x ∧ x ≤ 99) hcl h.2.2
    by_cases e : i = closeN t
    · rw [e, s2] at hi; omega
    · have := plan_ends h i hil e; omega
  omega
theorem endF_le {t b : List Int} {M : Int} (h0 : 0 ≤ M) : ∀ n, (∀ i, i < n → b.getD i 0 + t.getD i 0 ≤ M) → endF t b n ≤ M := by
  intro n
  induction n with
  | zero => intro _; exact h0
  | succ n ih =>
    intro h
    unfold endF
    have := ih fun i hi => h i (by omega)
    have := h n (by omega)
    omega
theorem plan_end {t : List Int} (h : OkT t) : endF t (planN t) t.length = minL (ringC t) := by
  have hcl := closeN_lt h
  have hmr := min_ring h
  obtain ⟨s1, s2⟩ := plan_sch h
  have h1 := (endF_ge t (planN t) t.length (closeN t) hcl).1
  rw [s2] at h1
  have htc := getD_in (P := fun x => 1 ≤ x ∧ x ≤ 99) hcl h.2.2
  have hr : 0 ≤ restN t := by
    have := Dn_seg h (f := (closeN t + 1) % t.length) (m := t.length - 1) (by have := h.2.1; omega)
    exact this.1
  have h2 := endF_le (t := t) (b := planN t) (M := minL (ringC t)) (by omega) t.length fun i hi => by
    by_cases e : i = closeN t
    · rw [e, s2]; omega
    · have := plan_ends h i hi e; omega
  omega
end Go.C02
set_option linter.unusedSimpArgs false
set_option linter.unusedVariables false
namespace Go.C02
open Go.Fam Go.Proofs
def Below (l' l : List Int) : Prop := l'.length = l.length ∧ ∀ i, i < l.length → l'.getD i 0 ≤ l.getD i 0
theorem getD_take {l : List Int} {k i : Nat} (h : i < k) : (l.take k).getD i 0 = l.getD i 0 := by
  simp only [Qc]; rw [List.getElem?_take_of_lt h]
theorem getD_drop {l : List Int} {k i : Nat} : (l.drop k).getD i 0 = l.getD (k + i) 0 := by
  simp only [Qc]; rw [List.getElem?_drop]
theorem Below.take {l' l : List Int} (h : Below l' l) (k : Nat) : Below (l'.take k) (l.take k) :=
  ⟨by rw [Qr, Qr, h.1], fun i hi => by
    rw [Qr] at hi
    rw [getD_take (by omega), getD_take (by omega)]; exact h.2 i (by omega)⟩
theorem Below.drop {l' l : List Int} (h : Below l' l) (k : Nat) : Below (l'.drop k) (l.drop k) :=
  ⟨by rw [Qs, Qs, h.1], fun i hi => by
    rw [Qs] at hi
    rw [getD_drop, getD_drop]; exact h.2 _ (by omega)⟩
end Go.C02
set_option maxRecDepth 8000
set_option linter.unusedSimpArgs false
namespace Go.C02
open Go.Fam Go.Proofs
set_option maxRecDepth 20000 in
set_option maxHeartbeats 4000000 in
theorem P9 (f : Fig) : PureCall Try.prog 9 [.ag (eFig f)] (.b true) := by
  refine pure_body okHB hmix Try.func9 cb9 cc9 cs9 cn9 ?_
  have g1 := b24 f
  have g2 := b21 f
  have g3 := b26 f
  have g4 := b34 f
  have g5 := b35 f
  have g6 := b27 f (planN f.times)
  have g7 := b28 f (planN f.times)
  have g9 := b17
  cases hf : farRing f with
  | true =>
    simp only [eFig] at g1
    simp only [rc9, rs9, g1, g9, hf, ru_reg, ru_seq, ru_cnd, ru_ret, ru_keep, thenQ, run_nil, run_cons, Fam.step, stepQ, evO, opv, qv, ldV, callV, V.cells, solid, hasRef, hasRefL, flat, upd_some, lkp_cons, lkp_nil, ↓reduceIte, Nat.reduceEqDiff, Nat.reduceAdd, Nat.reduceLT, Nat.reduceLeDiff, Qz, Q4, Qt, Qk, Qo, Q0, Qw, endQ, rvs, rv1, resV, vw_i, vw_b, vw_sl, vw_ag, zipA, Q5, Q1, Qp, and_self, implies_true, eFig]
  | false =>
    have h21 := farRing_ok hf
    obtain ⟨hs, ht⟩ := h21.lens
    by_cases hc : figCheck f = 0
    case neg =>
      have e1 : soonR f = (0, figCheck f) := by unfold soonR; rw [if_pos hc]
      have e2 : soonestR f = (0, figCheck f) := by unfold soonestR; rw [if_pos hc]
      have e3 : planP f = .tp [.sl 1 [], .i (figCheck f)] := by unfold planP; rw [if_pos hc]
      rw [e1] at g3
      rw [e2] at g4
      rw [e3] at g5
      simp only [eFig, eNE] at g1 g2 g3 g4 g5
      simp only [rc9, rs9, g1, g2, g3, g4, g5, g9, hf, h21, hs, ht, hc, eq_self, Int.natCast_zero, ru_skip, ru_reg, ru_seq, ru_cnd, ru_ret, ru_keep, thenQ, run_nil, run_cons, Fam.step, stepQ, needQ, condB, ug, evO, opv, qv, pickV_bb, binV, ldV, lenV, callV, V.cells, solid, hasRef, hasRefL, flat, flatL, upd_some, lkp_cons, lkp_nil, ↓reduceIte, Nat.reduceEqDiff, Nat.reduceAdd, Nat.reduceLT, Nat.reduceLeDiff, Qz, Q4, List.all_cons, List.all_nil, Qt, Qk, Qo, Q0, Qw, Qu, Qv, Q6, endQ, rvs, rv1, resV, vw_i, vw_b, vw_sl, vw_ag, zipA, beq_self_eq_true, Q5, Bool.and_self, Bool.and_true, Zb, Q1, Bool.not_true, Bool.not_false, Qp, Q2, decide_true, decide_false, and_self, forall_const, implies_true, imp_self, eFig]
    case pos =>
      have hT := okT_of hc
      have hpl := planN_len f.times
      have e1 : soonR f = (minL (ringC f.times), 0) := by unfold soonR; rw [if_neg (by simp [hc]), soon_eq hT]
      have e2 : soonestR f = (minL (ringC f.times), 0) := by unfold soonestR; rw [if_neg (by simp [hc])]
      have e3 : planP f = .tp [.sl 1 ((planN f.times).map eI), .i 0] := by unfold planP; rw [if_neg (by simp [hc])]
      have hl : (planN f.times).length < 10000000 := by have := hT.2.1; omega
      have hl2 : (planN f.times).length ≤ f.times.length := by omega
      have hl3 : f.times.length < 100000 := by have := hT.2.1; omega
      have ha : ∀ x ∈ f.times, tame 1000000 x := fun x hx => by have := hT.2.2 x hx; unfold tame; omega
      have hb : ∀ x ∈ planN f.times, tame 10000000 x := fun x hx => by have := planN_in hT x hx; unfold tame; omega
      rw [e1] at g3
      rw [e2] at g4
      rw [e3] at g5
      rw [plan_can hT] at g6
      rw [hpl, plan_end hT] at g7
      simp only [eFig, eNE] at g1 g2 g3 g4 g5 g6 g7
      simp only [rc9, rs9, g1, g2, g3, g4, g5, g6, g7, g9, hf, h21, hs, ht, hT, hl3, eq_self, hpl, ru_skip, ru_reg, ru_seq, ru_cnd, ru_ret, ru_keep, thenQ, run_nil, run_cons, Fam.step, stepQ, needQ, condB, ug, evO, opv, qv, pickV_bb, binV, ldV, callV, V.cells, solid, hasRef, hasRefL, flat, flatL, upd_some, lkp_cons, lkp_nil, ↓reduceIte, Nat.reduceEqDiff, Nat.reduceAdd, Nat.reduceLT, Nat.reduceLeDiff, Qz, Q4, List.all_cons, List.all_nil, Qt, Qk, Qo, Q0, Qw, Qu, Qv, Q6, endQ, rvs, rv1, resV, vw_i, vw_b, vw_sl, vw_ag, zipA, beq_self_eq_true, Q5, Bool.and_self, Bool.and_true, Zb, Q1, Bool.not_true, Qp, Q2, decide_true, true_and, and_true, and_self, forall_const, implies_true, imp_self, eFig]
      exact ⟨Qj _, ha, hb⟩
end Go.C02
