import Derived.Test.YtcdgojonaloclaaG6
import Derived.Test.YtcdgojonaloclaaG3
import Derived.Test.YtcdgojonaloclaaChecked
set_option linter.all false
open List renaming map_cons → Qa, getElem?_cons_zero → Qb, map_nil → Qc, length_cons → Qe, getElem?_cons_succ → Qf, take_succ_cons → Qg, length_nil → Qh, getD_eq_getElem?_getD → Qj, nil_append → Qk, drop_succ_cons → Ql, length_map → Qm, append_nil → Qn, cons_append → Qo, headD_cons → Qq, drop_zero → Qr, take_zero → Qs, take_nil → Qt, set_cons_zero → Qu, getElem?_eq_getElem → Qv, getElem?_map → Qz, all_nil → Q1, all_cons → Q3, mem_of_getElem? → Q4, getElem?_nil → Q5, set_cons_succ → Q7, drop_nil → Za, replicate_zero → Zb, length_take → Zh, contains_nil → Zi, isEmpty_nil → Zj, contains_cons → Zl, eq_nil_of_length_eq_zero → Zn, getLast?_concat → Zo, isEmpty_cons → Zp, any_nil → Zs, replicate → Zt, take_of_length_le → Zu, range → Zy, any_cons → Zz, getElem?_range → Z0, length_append → Z2, mem_append → Z4, sum_append → Z5, idxOf_lt_length_of_mem → Z6, mem_map → Z7, replicate_succ → Z8, take_length → Xe, map_append → Xh, mem_range → Xk, mem_or_eq_of_mem_set → Xn, getLast?_nil → Xo, foldl_append → Xp, flatMap_cons → Xq, length_drop → Xs, flatMap_nil → Xt, length_set → Xv, length_singleton → Xw, getElem?_eq_none → Xy, length_replicate → Xz, getElem?_of_mem → X0, mem_of_mem_take → X3, mem_of_mem_drop → X4, mem_cons_of_mem → X5, foldl_nil → X6, filter_eq_self → X7, map_congr_left → X8, sum_cons → X9, sum_singleton → Ja, mem_singleton → Jb, append_assoc → Jc, idxOf_append → Jd, cons → Je, foldl_cons → Jf
open Nat renaming zero_add → Qi, le_refl → Zw, mod_lt → Xa, mul_one → Xc, add_zero → Xd
open Bool renaming false_eq_true → Qd, and_self → Qx, or_false → Q0, and_true → Q9, not_false → Ze, not_true → Zf, false_and → Zk, true_and → Zr, false_or → Zv, not_eq_true' → Zx, true_eq_false → Z9, not_eq_true → Xf, or_eq_false_iff → Xg, and_false → Xl, and_eq_true → Xr, and_eq_false_iff → Xx
open Option renaming getD_some → Qp, map_some → Q6, getD_none → Zg, isSome_some → Zq, isSome_none → Z3, some → X2
open Int renaming natCast_add → Qw, natCast_one → Qy, lt_irrefl → Q2, natCast_zero → Q8, toNat_natCast → Zc, natCast_nonneg → Zd, tmod_eq_emod_of_nonneg → Zm, natCast_emod → Z1, le_refl → Xb, natCast_inj → Xi, emod_lt_of_pos → Xj, tdiv_eq_ediv_of_nonneg → Xm, emod_nonneg → Xu, mul_le_mul → X1
set_option linter.unusedSimpArgs false
set_option linter.unusedVariables false
namespace Go.C02
open Go.Fam Go.Proofs
def s87 : List V → Prop × V := fnG eRN dRN (fun a => OkR a.1) (fun a => Qax a.1 a.2) (fun l => .sl 1 (l.map eCan))
noncomputable def H6 : Gam := H5.ext 87 s87
theorem okH6 : GOk Try.prog H6 := okH5.ext (f := 87) (r := s87) (fun a w => Try.call87 a w) (Qau fun a h => W87 a.1 a.2 h)
theorem h87 (r : Ring) (n : Int) : H6 87 [.pa (Qb5 r), .i n] = (OkR r, .sl 1 ((Qax r n).map eCan)) :=
 (show H6 87 _ = s87 (eRN (r, n)) from rfl).trans (Qb1 _ (Qrb _))
theorem h84c (r : Ring) (a : Int) : H6 84 [.pa (Qb5 r), .i a] = (0 < r.fig.period ∧ r.fig.period ≤ 1000000, .i (modN a r.fig.period)) := h84 r a
theorem Qed {Γ : Gam} {E : TypeId → Nat → Prop} {Q : Exit → St → Prop} {σ : St} {α : Type} {l : List Nat} {d : Option Nat} {a : RC} (n : Nat) (S : Nat → α → St) (C : Nat → α → Prop) (x0 : α) (h0 : kp l d σ = S 0 x0) (c0 : C 0 x0)
  (hs : ∀ i x, i < n → C i x → wpR Γ E a (Qae (fun σ'' => ∃ y, C (i + 1) y ∧ kp l d σ'' = S (i + 1) y) Q) (S i x)) (hn : ∀ x, C n x → wpR Γ E a (Qae (fun _ => False) Q) (S n x)) : wpR Γ E (.loop l d a) Q σ := by
 refine Qm3 (fun k σ => ∃ (i : Nat) (x : α), i ≤ n ∧ k = n - i ∧ C i x ∧ σ = S i x) ⟨n, 0, x0, Nat.zero_le _, rfl, c0, h0⟩ ?_
 rintro k _ ⟨i, x, hi, rfl, hc, rfl⟩
 rcases Nat.lt_or_ge i n with h | h
 ·refine Qf9 _ _ _ _ (fun e σ he => ?_) (hs i x h hc)
  cases e <;> first | exact he | skip
  obtain ⟨y, hc', hk⟩ := he
  exact ⟨n - (i + 1), by omega, i + 1, y, h, rfl, hc', hk⟩
 ·have : i = n := by omega
  subst this
  refine Qf9 _ _ _ _ (fun e σ he => ?_) (hn x hc)
  cases e <;> first | exact he | exact he.elim
def atF (p : Int) (S : Int → Prop) (l : List Int) : Int → Prop := fun y => ∃ a, S a ∧ ∃ s ∈ l, y = modN (a + s) p
def atS (p : Int) (steps : List (List Int)) (S : Int → Prop) : Int → Prop := steps.foldl (atF p) S
def Qzs (S : Int → Prop) (xs : List Int) : Prop := ∀ x, x ∈ xs ↔ S x
structure Inv56 (p : Int) (xs l : List Int) (pre : List Nat) (ys : List Int) : Prop where
 mem : ∀ y, y ∈ ys ↔ ∃ j ∈ pre, ∃ a, (cmKs xs)[j]? = some [a] ∧ ∃ s ∈ l, y = modN (a + s) p
 len : ys.length ≤ pre.length * l.length
theorem Qw6 {p : Int} {xs l ys : List Int} {pre : List Nat} (h : Inv56 p xs l pre ys) (hp : ∀ j, j < (cmKs xs).length → j ∈ pre) {S : Int → Prop} (hS : Qzs S xs) : Qzs (atF p S l) ys := by
 intro y
 rw [h.mem]
 constructor
 ·rintro ⟨j, _, a, ha, s, hs, rfl⟩
  obtain ⟨x, hx, e⟩ := (Qcd xs _).1 (Q4 ha)
  have : a = x := by simpa using e
  subst this
  exact ⟨a, (hS a).1 hx, s, hs, rfl⟩
 ·rintro ⟨a, ha, s, hs, rfl⟩
  have hm : [a] ∈ cmKs xs := (Qcd xs _).2 ⟨a, (hS a).2 ha, rfl⟩
  exact ⟨_, hp _ (Z6 hm), a, Qfp hm, s, hs, rfl⟩
theorem Qfg {a p : Int} (hp : 0 < p) : 0 ≤ modN a p ∧ modN a p < p := by
 rw [Qeg hp]
 exact ⟨Xu _ (by omega), Xj _ hp⟩
theorem Zbl {p : Int} (hp : 0 < p) (steps : List (List Int)) {S : Int → Prop} (hS : ∀ y, S y → 0 ≤ y ∧ y < p) : ∀ y, atS p steps S y → 0 ≤ y ∧ y < p := by
 induction steps generalizing S with
 | nil => exact hS
 | cons l ls ih =>
  refine ih (S := atF p S l) ?_
  rintro y ⟨a, _, s, _, rfl⟩
  exact Qfg hp
theorem Qlo {r : Ring} {near : Int} {l : List Int} (h : l ∈ Qax r near) : l.length ≤ r.fig.period.toNat ∧ ∀ s ∈ l, 0 ≤ s ∧ s < r.fig.period := by
 simp only [Qax, Qct, Z7] at h
 obtain ⟨k, _, rfl⟩ := h
 refine ⟨Qnh _ _ _ _, fun s hs => ?_⟩
 simp only [Qcs, List.mem_filter, Z7, Xk] at hs
 obtain ⟨⟨j, hj, rfl⟩, _⟩ := hs
 omega
theorem Qy0 {xs : List Int} {p : Nat} (h : ∀ x ∈ xs, 0 ≤ x ∧ x < p) : (cmKs xs).length ≤ p := by
 have h1 : ((cmKs xs).map fun k => (k.headD 0).toNat).Nodup := by
  refine List.pairwise_map.2 (List.Pairwise.imp_of_mem (fun {a b} ha hb hne e => hne ?_) (Qen xs))
  obtain ⟨x, hx, rfl⟩ := (Qcd xs _).1 ha
  obtain ⟨y, hy, rfl⟩ := (Qcd xs _).1 hb
  have := h x hx; have := h y hy
  simp only [Qq] at e
  have : x = y := by omega
  rw [this]
 have := Qev h1 (n := p) (by
  intro j hj
  obtain ⟨k, hk, rfl⟩ := Z7.1 hj
  obtain ⟨x, hx, rfl⟩ := (Qcd xs _).1 hk
  have := h x hx
  simp only [Qq]; omega)
 simpa using this
theorem Qu9 {p : Int} {xs l ys : List Int} {pre : List Nat} {j : Nat} {a : Int} (h : Inv56 p xs l pre ys) (hk : (cmKs xs)[j]? = some [a]) : Inv56 p xs l (pre ++ [j]) (ys ++ l.map fun s => modN (a + s) p) := by
 constructor
 ·intro y
  rw [Z4, h.mem]
  constructor
  ·rintro (⟨i, hi, b, hb, s, hs, rfl⟩ | hm)
   ·exact ⟨i, by simp [hi], b, hb, s, hs, rfl⟩
   ·obtain ⟨s, hs, rfl⟩ := Z7.1 hm
    exact ⟨j, by simp, a, hk, s, hs, rfl⟩
  ·rintro ⟨i, hi, b, hb, s, hs, rfl⟩
   rcases Z4.1 hi with hi | hi
   ·exact .inl ⟨i, hi, b, hb, s, hs, rfl⟩
   ·have : i = j := by simpa using hi
    subst this
    rw [hk] at hb
    have : a = b := by simpa using hb
    subst this
    exact .inr (Z7.2 ⟨s, hs, rfl⟩)
 ·rw [Z2, Qm, Z2, Xw, Nat.add_mul, Nat.one_mul]
  have := h.len
  omega
theorem W56 (r : Ring) (near : Int) (h : OkR r) : Qab Try.prog 56 [.pa (Qb5 r), .i near] (.b (@decide (atS r.fig.period (Qax r near) (· = 0) 0) (Classical.propDecidable _))) := by
  refine Qac okH6 hmix Try.func56 cb56 cc56 cs56 cn56 ?_
  have hlen := h.len
  have hp := h.period
  have g1 := h87 r near
  unfold Qb5 at g1
  simp only [rc56, rs56, g1, Qa7, Qa8, Qa9, Qa4, putB, keyL, Qch, Qae, Qa5, Qa2, Fam.step, Qaf, Qbi, Qb4, putB, nv, sv, evO, opv, qv, lenV, Qaw, Qaa, Qa6, flat, Qa3, Qat, Qa0, Qa1, ↓reduceIte, Nat.reduceEqDiff, Nat.reduceLT, Qa, Qc, Qe, Qh, Qk, Qn, Qb, Qu, vw_i, Qda, zipA, Qi, Q0, Qd, true_and, and_true, and_self, false_implies, reduceCtorEq, imp_self, Qm, Qb5]
  refine ⟨h, ?_⟩
  refine Qed (Qax r near).length (fun i xs => ⟨lkp [(0, .pa (Qb5 r)), (5, .mp 0 0), (16, .sl 1 ((Qax r near).map eCan)), (17, .i (Qax r near).length), (18, .i i)], [cm xs]⟩)
    (fun i xs => Qzs (atS r.fig.period ((Qax r near).take i) (· = 0)) xs) [0] ?_ ?_ ?_ ?_
  · have e : cm [0] = Blk.map false (putK [] [0]) (Qgi [] [] [0] (V.i 1)) := rfl
    simp only [Q8, e, cutH, kp, cutV, cutB, Qa0, Qa1, ↓reduceIte, Nat.reduceEqDiff, Nat.reduceLT, Qa, Qc, Qg, Qt, reduceCtorEq, Qb5]
    rfl
  · intro x; simp [atS]
  · intro i xs hi hC
    obtain ⟨l, hl⟩ : ∃ l, (Qax r near)[i]? = some l := ⟨_, Qv hi⟩
    have hlt : (i : Int) < (Qax r near).length := by omega
    have h4 : inI ((i : Int) + 1) := by have : (Qax r near).length ≤ 16 := by simp [Qax, Qct]; omega
                                        unfold inI; omega
    simp only [hl, hlt, cm, Qag, Qa7, Qa8, Qad, Qa9, Qa4, cutH, Qae, Qa5, Qa2, Fam.step, Qaf, Qbi, Qb4, nv, evO, opv, qv, binV, ldV, iadV, kp, Qa3, Qa0, Qa1, ↓reduceIte, Nat.reduceEqDiff, Nat.reduceAdd, Nat.reduceLeDiff, Qa, Qc, Qe, Qh, Qq, Qo, Qk, Qb, Qp, Zd, Qi, Qd, decide_true, true_and, and_self, reduceCtorEq, Q6, Qm, Zc, Qj, Qz, eCan, Qb5]
    refine Qj4 (cmKs xs).length (fun pre ys => ⟨lkp [(0, .pa (Qb5 r)), (7, .sl 1 (l.map eI)), (8, .mp 1 0), (16, .sl 1 ((Qax r near).map eCan)), (17, .i (Qax r near).length), (18, .i i), (24, .it 2 0)],
      [cm xs, cm ys, .iter 0 (cmKs xs).length (Qes (cmKs xs).length pre) pre.getLast?]⟩) (Inv56 r.fig.period xs l) [] ?_ ?_ ?_
    · simp only [Qfq, Xo, cm, kp, Qa0, Qa1, ↓reduceIte, Nat.reduceEqDiff, Qa, Qc, reduceCtorEq, Qb5]
      rfl
    · exact ⟨by simp, by simp⟩
    · intro pre ys hnd hlt2 hC2
      simp only [cm, Qag, Qa7, Qa8, Qad, Qa9, Qam, Qa4, Qc5, Qm5, Qk8, ↓Qbl, ↓Qgz, swH, sw, renV, renB, cutH, entV, keyV, Qae, Qaj, Qa5, Qa2, Fam.step, Qaf, evO, opv, qv, binV, lenV, kp, cutV, cutB, Qa3, Qa0, Qa1, ↓reduceIte, Nat.reduceEqDiff, Nat.reduceAdd, Nat.reduceLT, Qa, Qc, Qe, Qh, Qg, Qs, Qt, Qb, Qf, Qp, Qu, Q7, Qi, Qd, true_and, and_self, reduceCtorEq, Qm, Qj, Qb5]
      refine ⟨fun hnil => ?_, fun j hj => ?_⟩
      · have hall : ∀ j, j < (cmKs xs).length → j ∈ pre := fun j hj => Classical.byContradiction fun hn => by
          have := Qcr.2 ⟨hj, hn⟩
          rw [hnil] at this; cases this
        refine ⟨h4, ys, ?_, ?_⟩
        · have := Qw6 hC2 hall hC
          rw [Qar hl]
          unfold atS at this ⊢
          rw [Xp]
          exact this
        · simp only [Qck _ _ (Qf8 _), Qah _ _ _ (Qf8 _), Qw, Qy]
      · obtain ⟨hjn, hjp⟩ := Qcr.1 hj
        obtain ⟨a, ha, hk1, hk2⟩ := Qf3 hjn
        obtain ⟨hll, hlx⟩ := Qlo (Q4 hl)
        have hxr : ∀ x ∈ xs, 0 ≤ x ∧ x < (r.fig.period.toNat : Int) := fun x hx => by
          have := Zbl (p := r.fig.period) (by omega) _ (S := (· = 0)) (fun y hy => by subst hy; omega) x ((hC x).1 hx)
          omega
        have har := hxr a ha
        have hkl := Qy0 hxr
        have hpl := Qev hnd hlt2
        have hyl := hC2.len
        have hyl2 : ys.length ≤ 60 * 60 := Nat.le_trans hyl (Nat.mul_le_mul (by omega) (by omega))
        simp only [hk1, Qdi hj, Qq, Qp]
        refine Qbg l.length (fun k => ⟨lkp [(0, .pa (Qb5 r)), (7, .sl 1 (l.map eI)), (8, .mp 1 0), (9, .i a), (16, .sl 1 ((Qax r near).map eCan)), (17, .i (Qax r near).length), (18, .i i), (24, .it 2 0), (29, .sl 1 (l.map eI)), (30, .i l.length), (31, .i k)],
          [cm xs, cm (ys ++ (l.take k).map fun s => modN (a + s) r.fig.period), .iter 0 (cmKs xs).length (Qes (cmKs xs).length (pre ++ [j])) (some j)]⟩) ?_ ?_ ?_
        · simp only [Q8, cm, Qs, Qc, Qn, kp, Qa0, Qa1, ↓reduceIte, Nat.reduceEqDiff, Qa, Qc, Qs, Qn, reduceCtorEq, Qb5]
        · intro k hk
          obtain ⟨s, hs⟩ : ∃ s, l[k]? = some s := ⟨_, Qv hk⟩
          have hsr := hlx s (Q4 hs)
          have hlt3 : (k : Int) < l.length := by omega
          have i1 : inI ((k : Int) + 1) := by unfold inI; omega
          have i2 : inI (a + s) := by unfold inI; omega
          have i3 : ∀ y, inI (((ys ++ (l.take k).map fun s => modN (a + s) r.fig.period).count y : Int) + 1) := fun y => by
            have h1 := List.count_le_length (a := y) (l := ys ++ (l.take k).map fun s => modN (a + s) r.fig.period)
            rw [Z2, Qm, Zh] at h1
            unfold inI; omega
          have g2 := h84c r (a + s)
          unfold Qb5 at g2
          simp only [hlt3, hs, i1, i2, i3, g2, cm, Qsg, Qv0, ← Qe8, Qw, Qy, Qar hs, Xh, ← Jc, Qa, Qc, Qag, Qa7, Qa8, Qad, Qa9, Qa4, putB, lkpV, keyL, Qch, Qae, Qaj, Qa5, Qa2, Fam.step, Qaf, Qbi, Qb4, putB, nv, sv, evO, opv, qv, binV, ldV, iadV, Qaw, Qaa, Qa6, flat, kp, Qa3, Qat, Qa0, Qa1, ↓reduceIte, Nat.reduceEqDiff, Nat.reduceLT, Nat.reduceLeDiff, Qa, Qc, Qe, Qh, Qq, Qn, Qb, Qf, Qp, Qu, Q7, vw_i, Qda, Zd, Qi, Q0, Qd, decide_true, true_and, and_true, and_self, false_implies, implies_true, reduceCtorEq, Q6, Qm, Zc, Qj, Qz, eI, Qb5]
          omega
        · simp only [Xe, cm, Q2, Qa7, Qa8, Qad, Qam, Qa4, Qae, Qaj, Qa5, Qa2, Fam.step, Qaf, evO, opv, qv, binV, Qa3, Qa0, Qa1, ↓reduceIte, Nat.reduceEqDiff, Qa, Qc, Q2, Qd, decide_false, true_and, reduceCtorEq, Qb5]
          exact ⟨j, _, hj, Qu9 hC2 hk1, by simp only [Zo]⟩
  · intro xs hC
    rw [Xe] at hC
    simp only [Q2, cm, Qsg, Qa7, Qa8, Qad, Qam, Qai, Qa4, lkpV, keyL, Qch, Qae, Qaj, Qa5, Qa2, Fam.step, Qaf, evO, opv, qv, binV, Qa3, Qa0, Qa1, ↓reduceIte, Nat.reduceEqDiff, Qa, Qc, Qe, Qh, Qb, endQ, rvs, rv1, resV, vw_b, Q2, Qi, V.b.injEq, Qd, decide_false, true_and, and_self, false_implies, reduceCtorEq, Qb5]
    have e : (0 < (List.count 0 xs : Int)) ↔ atS r.fig.period (Qax r near) (· = 0) 0 := by
      rw [← hC 0, ← List.count_pos_iff]; omega
    by_cases h0 : atS r.fig.period (Qax r near) (· = 0) 0
    · rw [decide_eq_true (e.2 h0), @decide_eq_true _ (Classical.propDecidable _) h0]
    · rw [decide_eq_false (fun h => h0 (e.1 h)), @decide_eq_false _ (Classical.propDecidable _) h0]
end Go.C02
set_option linter.unusedSimpArgs false
set_option linter.unusedVariables false
namespace Go.C02
open Go.Fam Go.Proofs
def Qjz (r : Ring) (near : Int) : Prop := atS r.fig.period (Qax r near) (· = 0) 0
noncomputable def Qdg (r : Ring) (near : Int) : Bool := @decide (Qjz r near) (Classical.propDecidable _)
theorem Qkz (r : Ring) (near : Int) : Qdg r near = true ↔ Qjz r near := by
 unfold Qdg
 by_cases h : Qjz r near
 ·rw [@decide_eq_true _ (Classical.propDecidable _) h]; simp [h]
 ·rw [@decide_eq_false _ (Classical.propDecidable _) h]; simp [h]
noncomputable def s56 : List V → Prop × V := fnG eRN dRN (fun a => OkR a.1) (fun a => Qdg a.1 a.2) .b
noncomputable def H7 : Gam := H6.ext 56 s56
theorem okH7 : GOk Try.prog H7 := okH6.ext (f := 56) (r := s56) (fun a w => Try.call56 a w) (Qau fun a h => W56 a.1 a.2 h)
theorem h56 (r : Ring) (n : Int) : H7 56 [.pa (Qb5 r), .i n] = (OkR r, .b (Qdg r n)) :=
 (show H7 56 _ = s56 (eRN (r, n)) from rfl).trans (Qb1 _ (Qrb _))
theorem h50h (f : Fig) (b : Bool) : H7 50 [.ag (eFig f), .b b] = (True, Qjo f b) := h50 f b
theorem Zag {p a b : Int} (hp : 0 < p) : farN p a b ≤ p / 2 := by
 unfold farN
 rw [Qeg hp, Qeg hp]
 have h1 := Xu (a - b) (show p ≠ 0 by omega)
 have h2 := Xj (a - b) hp
 have h3 := Xu (b - a) (show p ≠ 0 by omega)
 have h4 := Xj (b - a) hp
 have h5 : (a - b) % p + (b - a) % p = 0 ∨ (a - b) % p + (b - a) % p = p := by
  have e : b - a = -(a - b) := by omega
  rw [e, Int.neg_emod]
  split
  ·rename_i h; left; have := Int.emod_eq_zero_of_dvd h; omega
  ·right; have : (p.natAbs : Int) = p := by omega
   omega
 omega
theorem Qug {r : Ring} (h : OkR r) (k : Nat) (l : Int) : Qci r.fig.period (Qbt r k) l (r.fig.period / 2) = 1 := by
 have hp := h.period
 unfold Qci
 rw [if_pos]
 unfold Qim
 rw [X7.2]
 intro x _
 exact decide_eq_true (Zag (by omega))
theorem Qr6 {r : Ring} (h : OkR r) : Qjz r (r.fig.period / 2) := by
 have hp := h.period
 have hl := h.len
 have hfull : ∀ k, Qcs r (r.fig.period / 2) k r.fig.period.toNat = (Zy r.fig.period.toNat).map fun i : Nat => (i : Int) := by
  intro k
  unfold Qcs
  rw [X7.2]
  intro x _
  exact decide_eq_true (Qug h k x)
 have key : ∀ n, atS r.fig.period (Qct r (r.fig.period / 2) n) (· = 0) 0 := by
  intro n
  induction n with
  | zero => rfl
  | succ n ih =>
   rw [Qka]
   unfold atS at ih ⊢
   rw [Xp]
   refine ⟨0, ih, 0, ?_, ?_⟩
   ·rw [hfull]
    exact Z7.2 ⟨0, Xk.2 (by omega), rfl⟩
   ·rw [Qeg (by omega)]; simp
 exact key _
noncomputable def Qc1 (r : Ring) : Nat := (Zy 31).findIdx fun n => Qdg r (n : Nat)
theorem Qg0 {r : Ring} (h : OkR r) : Qc1 r ≤ (r.fig.period / 2).toNat ∧ Qdg r (Qc1 r : Nat) = true ∧ ∀ i, i < Qc1 r → Qdg r (i : Nat) = false := by
 have hp := h.period
 have hc : Qdg r ((r.fig.period / 2).toNat : Nat) = true := by
  rw [Qkz, show (((r.fig.period / 2).toNat : Nat) : Int) = r.fig.period / 2 by omega]
  exact Qr6 h
 have hno : ∀ i, i < Qc1 r → Qdg r (i : Nat) = false := by
  intro i hi
  have := List.not_of_lt_findIdx hi
  simpa using this
 have hle : Qc1 r ≤ (r.fig.period / 2).toNat := by
  rcases Nat.lt_or_ge (r.fig.period / 2).toNat (Qc1 r) with h1 | h1
  ·have := hno _ h1; rw [hc] at this; cases this
  ·exact h1
 have hlt : Qc1 r < (Zy 31).length := by rw [List.length_range]; omega
 refine ⟨hle, ?_, hno⟩
 have := List.findIdx_getElem (xs := Zy 31) (p := fun n => Qdg r (n : Nat)) (w := hlt)
 have e : ((Zy 31)[List.findIdx (fun n : Nat => Qdg r n) (Zy 31)]'hlt) = List.findIdx (fun n : Nat => Qdg r n) (Zy 31) := List.getElem_range hlt
 simp only [e] at this
 exact this
noncomputable def Qco (f : Fig) : Int × Int := if Qc2 f true = 0 then ((Qc1 (Qb0 f) : Nat), 0) else (0, Qc2 f true)
theorem W22 (f : Fig) : Qab Try.prog 22 [.ag (eFig f)] (.tp [.i (Qco f).1, .i (Qco f).2]) := by
 refine Qac okH7 hmix Try.func22 cb22 cc22 cs22 cn22 ?_
 have g1 := h50h f true
 unfold Qjo eFig at g1
 simp only [rc22, rs22, g1, Qag, Qa7, Qa8, Qad, Qbe, Qa9, Qai, Qa4, Qae, Qa5, Qa2, Fam.step, Qaf, evO, opv, qv, binV, ldV, Qaw, V.cells, Qas, Qaa, Qa6, flat, Qcy, Qa3, Qa0, Qa1, ↓reduceIte, Nat.reduceEqDiff, Nat.reduceAdd, Nat.reduceLT, Nat.reduceLeDiff, Qa, Qc, Qe, Qh, Qg, Qt, Qn, Qb, Qf, Q5, Qp, endQ, rvs, rv1, resV, vw_i, vw_b, Qay, Qaz, Qcg, zipA, Qi, Qx, Q9, Q0, Qd, decide_eq_false_iff_not, true_and, and_self, false_implies, Zx, Classical.not_not, eFig, Qb5]
 refine ⟨fun h => ?_, fun h => ?_⟩
 ·simp only [Qco, if_neg h]
 ·obtain ⟨h1, h2, h3⟩ := Qek h
  have hR := Qiz h1
  have hp := hR.period
  obtain ⟨c1, c2, c3⟩ := Qg0 hR
  simp only [h, ↓reduceIte]
  refine Qb8 (Qc1 (Qb0 f)) (fun i => ⟨lkp [(4, .pa (Qb5 (Qb0 f))), (6, .i (i : Nat))], []⟩) (fun i => True) ?_ trivial ?_ ?_
  ·simp only [Q8, kp, Qa0, Qa1, ↓reduceIte, Nat.reduceEqDiff, Qa, Qc, Qb5]
  ·intro i hi _
   have g2 := h56 (Qb0 f) (i : Nat)
   rw [c3 i hi] at g2
   unfold Qb5 at g2
   have h4 : inI ((i : Int) + 1) := by unfold inI; omega
   simp only [g2, h4, Qw, Qy, Qag, Qa7, Qa8, Qad, Qa9, Qa4, Qae, Qaj, Qa5, Qa2, Fam.step, Qaf, evO, opv, qv, binV, Qaw, Qaa, Qa6, flat, kp, Qa3, Qa0, Qa1, ↓reduceIte, Nat.reduceEqDiff, Nat.reduceLT, Qa, Qc, Qn, vw_i, Qda, Q0, Ze, Qd, true_and, and_true, and_self, implies_true, Qb5]
   exact hR
  ·intro _
   have g2 := h56 (Qb0 f) (Qc1 (Qb0 f) : Nat)
   rw [c2] at g2
   unfold Qb5 at g2
   simp only [g2, Qco, h, Qa7, Qa8, Qad, Qam, Qai, Qa4, Qae, Qaj, Qa5, Qa2, Fam.step, Qaf, evO, opv, qv, ldV, Qaw, Qaa, Qa6, flat, Qa3, Qa0, Qa1, ↓reduceIte, Nat.reduceEqDiff, Nat.reduceLT, Qa, Qc, Qn, Q5, endQ, rvs, rv1, resV, vw_i, Qda, Qcg, Q0, Zf, Qd, true_and, and_true, and_self, implies_true, Qb5]
   exact hR
end Go.C02
set_option linter.unusedSimpArgs false
set_option linter.unusedVariables false
namespace Go.C02
open Go.Fam Go.Proofs
inductive Wy (p first : Int) : List (List Int) → List Int → Int → Prop
 | nil : Wy p first [] [first] first
 | snoc {ls : List (List Int)} {l : List Int} {a s : Int} {st : List Int} : Wy p first ls l a → s ∈ st → Wy p first (ls ++ [st]) (l ++ [modN (a + s) p]) (modN (a + s) p)
structure Bests (T : List Int → Int → Prop) (m : AM (List Int)) : Prop where
 nd : (aks m).Nodup
 one : ∀ k ∈ aks m, ∃ a, k = [a]
 no : ∀ b, aget m [b] = none → ∀ l, ¬ T l b
 is : ∀ b l, aget m [b] = some l → T l b ∧ ∀ l', T l' b → l.sum ≤ l'.sum
def Qcu (T : List Int → Prop) : Option (List Int) → Prop
 | none => ∀ l, ¬ T l
 | some l => T l ∧ ∀ l', T l' → l.sum ≤ l'.sum
theorem Bests.imp {T T' : List Int → Int → Prop} {m : AM (List Int)} (h : Bests T m) (he : ∀ l b, T l b ↔ T' l b) : Bests T' m :=
 ⟨h.nd, h.one, fun b hb l ht => h.no b hb l ((he l b).2 ht), fun b l hb => ⟨(he l b).1 (h.is b l hb).1, fun l' ht => (h.is b l hb).2 l' ((he l' b).2 ht)⟩⟩
theorem Qcu.imp {T T' : List Int → Prop} {o : Option (List Int)} (h : Qcu T o) (he : ∀ l, T l ↔ T' l) : Qcu T' o := by
 cases o with
 | none => exact fun l ht => h l ((he l).2 ht)
 | some l => exact ⟨(he l).1 h.1, fun l' ht => h.2 l' ((he l').2 ht)⟩
theorem Zaz {m : AM (List Int)} (h : ∀ k ∈ aks m, ∃ a, k = [a]) (b : Int) (l : List Int) : ∀ k ∈ aks (aput m [b] l), ∃ a, k = [a] := by
 intro k hk
 rw [Qgj, Qof] at hk
 rcases hk with hk | rfl
 ·exact h k hk
 ·exact ⟨b, rfl⟩
theorem Bests.put {T : List Int → Int → Prop} {m : AM (List Int)} (h : Bests T m) {l0 : List Int} {b0 : Int} (hb : ∀ l, aget m [b0] = some l → l0.sum < l.sum) :
  Bests (fun l b => T l b ∨ l = l0 ∧ b = b0) (aput m [b0] l0) := by
 refine ⟨Qp4 h.nd _ _, Zaz h.one _ _, fun b hb' l ht => ?_, fun b l hb' => ?_⟩
 ·rw [Qkg] at hb'
  split at hb'
  ·cases hb'
  ·rename_i hne
   rcases ht with ht | ⟨_, rfl⟩
   ·exact h.no b hb' l ht
   ·exact hne rfl
 ·rw [Qkg] at hb'
  split at hb'
  ·rename_i he
   have he : b = b0 := by simpa using he
   subst he
   cases hb'
   refine ⟨.inr ⟨rfl, rfl⟩, fun l' ht => ?_⟩
   rcases ht with ht | ⟨rfl, _⟩
   ·cases ho : aget m [b] with
    | none => exact absurd ht (h.no b ho l')
    | some l1 =>
     have := (h.is b l1 ho).2 l' ht
     have := hb l1 ho
     omega
   ·exact Xb _
  ·rename_i hne
   obtain ⟨h1, h2⟩ := h.is b l hb'
   refine ⟨.inl h1, fun l' ht => ?_⟩
   rcases ht with ht | ⟨_, rfl⟩
   ·exact h2 l' ht
   ·exact absurd rfl hne
theorem Bests.stay {T : List Int → Int → Prop} {m : AM (List Int)} (h : Bests T m) {l0 l1 : List Int} {b0 : Int} (hb : aget m [b0] = some l1) (hl : l1.sum ≤ l0.sum) :
  Bests (fun l b => T l b ∨ l = l0 ∧ b = b0) m := by
 refine ⟨h.nd, h.one, fun b hb' l ht => ?_, fun b l hb' => ?_⟩
 ·rcases ht with ht | ⟨_, rfl⟩
  ·exact h.no b hb' l ht
  ·rw [hb] at hb'; cases hb'
 ·obtain ⟨h1, h2⟩ := h.is b l hb'
  refine ⟨.inl h1, fun l' ht => ?_⟩
  rcases ht with ht | ⟨rfl, rfl⟩
  ·exact h2 l' ht
  ·rw [hb] at hb'; cases hb'; exact hl
theorem Qcu.put {T : List Int → Prop} {o : Option (List Int)} (h : Qcu T o) {l0 : List Int} (hb : ∀ l, o = some l → l0.sum < l.sum) : Qcu (fun l => T l ∨ l = l0) (some l0) := by
 refine ⟨.inr rfl, fun l' ht => ?_⟩
 rcases ht with ht | rfl
 ·cases o with
  | none => exact absurd ht (h l')
  | some l1 =>
   have := h.2 l' ht
   have := hb l1 rfl
   omega
 ·exact Xb _
theorem Qcu.stay {T : List Int → Prop} {l1 : List Int} (h : Qcu T (some l1)) {l0 : List Int} (hl : l1.sum ≤ l0.sum) : Qcu (fun l => T l ∨ l = l0) (some l1) :=
 ⟨.inl h.1, fun l' ht => by rcases ht with ht | rfl; exact h.2 l' ht; exact hl⟩
theorem Zbh {p first : Int} (hp : 0 < p) (hf : 0 ≤ first ∧ first < p) {ls : List (List Int)} {l : List Int} {a : Int} (h : Wy p first ls l a) : l.length = ls.length + 1 ∧ (0 ≤ a ∧ a < p) ∧ (0 ≤ l.sum ∧ l.sum ≤ (ls.length + 1) * p) ∧ ∀ x ∈ l, 0 ≤ x ∧ x < p := by
 induction h with
 | nil => refine ⟨rfl, hf, by simp; omega, by simpa using hf⟩
 | snoc h hs ih =>
  rename_i ls l a s st
  obtain ⟨h1, h2, h3, h4⟩ := ih
  have hm := Qfg (a := a + s) hp
  refine ⟨by simp [h1], hm, ?_, ?_⟩
  ·rw [Z5, Z2, Xw, Ja, Qw, Qy]
   have e : ((ls.length : Int) + 1 + 1) * p = (ls.length + 1) * p + p := by rw [Int.add_mul, Int.one_mul]
   omega
  ·intro x hx
   rcases Z4.1 hx with hx | hx
   ·exact h4 x hx
   ·have : x = modN (a + s) p := by simpa using hx
    subst this; exact hm
theorem Qp1 {p first : Int} {ls : List (List Int)} {st l : List Int} {b : Int} (h : Wy p first (ls ++ [st]) l b) : ∃ l0 a s, Wy p first ls l0 a ∧ s ∈ st ∧ b = modN (a + s) p ∧ l = l0 ++ [b] := by
 generalize hq : ls ++ [st] = q at h
 cases h with
 | nil => simp at hq
 | snoc h hs =>
  rename_i ls' l0 a s st'
  have h1 := List.append_inj' hq rfl
  obtain ⟨h1, h2⟩ := h1
  cases h2
  subst h1
  exact ⟨l0, a, s, h, hs, rfl, rfl⟩
theorem Qtr {p first : Int} {l : List Int} {b : Int} (h : Wy p first [] l b) : l = [first] ∧ b = first := by
 generalize hq : ([] : List (List Int)) = q at h
 induction h with
 | nil => exact ⟨rfl, rfl⟩
 | snoc _ _ => simp at hq
theorem Qr4 (p first : Int) : Bests (Wy p first []) [([first], [first])] := by
 refine ⟨by simp [aks], by simp [aks], fun b hb l hw => ?_, fun b l hb => ?_⟩
 ·obtain ⟨_, rfl⟩ := Qtr hw
  simp [aget] at hb
 ·have : b = first ∧ l = [first] := by
   unfold aget at hb
   by_cases e : first = b
   ·simp [e] at hb; exact ⟨e.symm, by rw [← hb, e]⟩
   ·simp [e] at hb
  obtain ⟨rfl, rfl⟩ := this
  refine ⟨.nil, fun l' hw => ?_⟩
  obtain ⟨rfl, _⟩ := Qtr hw
  exact Xb _
theorem Qtw {p first : Int} {ls : List (List Int)} {st : List Int} {m m' : AM (List Int)} (h : Bests (Wy p first ls) m)
  (h' : Bests (fun l b => ∃ a l0, aget m [a] = some l0 ∧ ∃ s ∈ st, b = modN (a + s) p ∧ l = l0 ++ [b]) m') : Bests (Wy p first (ls ++ [st])) m' := by
 refine ⟨h'.nd, h'.one, fun b hb l hw => ?_, fun b l hb => ?_⟩
 ·obtain ⟨l1, a, s, hw1, hs, rfl, rfl⟩ := Qp1 hw
  cases ho : aget m [a] with
  | none => exact h.no a ho l1 hw1
  | some l0 => exact h'.no _ hb (l0 ++ [modN (a + s) p]) ⟨a, l0, ho, s, hs, rfl, rfl⟩
 ·obtain ⟨⟨a, l0, ho, s, hs, rfl, rfl⟩, h2⟩ := h'.is b l hb
  refine ⟨.snoc (h.is a l0 ho).1 hs, fun l' hw => ?_⟩
  obtain ⟨l1, a1, s1, hw1, hs1, e1, rfl⟩ := Qp1 hw
  cases ho1 : aget m [a1] with
  | none => exact absurd hw1 (h.no a1 ho1 l1)
  | some l2 =>
   have g1 := h2 (l2 ++ [modN (a + s) p]) ⟨a1, l2, ho1, s1, hs1, e1, rfl⟩
   have g2 := (h.is a1 l2 ho1).2 l1 hw1
   rw [Z5] at g1 ⊢
   rw [Z5] at g1 ⊢
   omega
def Beg (r : Ring) (near first : Int) (l : List Int) : Prop := ∃ a, Wy r.fig.period first ((Qax r near).take (r.moves.length - 1)) l a ∧ Qci r.fig.period (Qbt r (r.moves.length - 1)) (modN (first - a) r.fig.period) near = 1
def wV (l : List Int) : V := .ag [.sl 1 (l.map eI), .i l.sum]
def Qkt : Option (List Int) → List V
 | none => [.z 1, .i 0]
 | some l => [.sl 1 (l.map eI), .i l.sum]
def Qmn (o : Option (List Int)) : V := .tp [.ag [.sl 1 ((o.getD []).map eI), .i (o.getD []).sum], .b o.isSome]
theorem Quv {r : Ring} {near : Int} {i : Nat} {m : AM (List Int)} {o : Option (List Int)} (hlen : 3 ≤ r.moves.length ∧ r.moves.length ≤ 16) (hM : Bests (Wy r.fig.period i ((Qax r near).take ((Qax r near).length - 1))) m)
  (h : Qcu (fun l => (∃ first : Int, (0 ≤ first ∧ first < (i : Nat)) ∧ Beg r near first l) ∨ ∃ a, aget m [a] = some l ∧ Qci r.fig.period (Qbt r (r.moves.length - 1)) (modN (i - a) r.fig.period) near = 1) o) :
  Qcu (fun l => ∃ first : Int, (0 ≤ first ∧ first < ((i + 1 : Nat) : Int)) ∧ Beg r near first l) o := by
 have hsl : (Qax r near).length = r.moves.length := by simp [Qax, Qct]
 rw [hsl] at hM
 have key : ∀ l, (∃ first : Int, (0 ≤ first ∧ first < ((i + 1 : Nat) : Int)) ∧ Beg r near first l) → ∃ l', ((∃ first : Int, (0 ≤ first ∧ first < (i : Nat)) ∧ Beg r near first l') ∨ ∃ a, aget m [a] = some l' ∧ Qci r.fig.period (Qbt r (r.moves.length - 1)) (modN (i - a) r.fig.period) near = 1) ∧ l'.sum ≤ l.sum := by
  rintro l ⟨first, hf, hb⟩
  by_cases e : first < i
  ·exact ⟨l, .inl ⟨first, ⟨hf.1, e⟩, hb⟩, Xb _⟩
  ·have e : first = i := by omega
   subst e
   obtain ⟨a, hw, hm⟩ := hb
   cases ho : aget m [a] with
   | none => exact absurd hw (hM.no a ho l)
   | some l1 => exact ⟨l1, .inr ⟨a, ho, hm⟩, (hM.is a l1 ho).2 l hw⟩
 cases o with
 | none =>
  intro l hl
  obtain ⟨l', h1, _⟩ := key l hl
  exact h l' h1
 | some l1 =>
  refine ⟨?_, fun l hl => ?_⟩
  ·rcases h.1 with ⟨first, hf, hb⟩ | ⟨a, ha, hm⟩
   ·exact ⟨first, ⟨hf.1, by omega⟩, hb⟩
   ·exact ⟨i, by omega, a, (hM.is a l1 ha).1, hm⟩
  ·obtain ⟨l', h1, h2⟩ := key l hl
   have := h.2 l' h1
   omega
theorem h84i (r : Ring) (a : Int) : H7 84 [.pa (Qb5 r), .i a] = (0 < r.fig.period ∧ r.fig.period ≤ 1000000, .i (modN a r.fig.period)) := h84 r a
theorem h83i (r : Ring) (a b c : Int) : H7 83 [.pa (Qb5 r), .i a, .i b, .i c] = (OkR r ∧ (0 ≤ a ∧ a < r.moves.length) ∧ tame 1000000 b, .i (Qci r.fig.period (Qbt r a) b c)) := h83 r a b c
theorem h87i (r : Ring) (n : Int) : H7 87 [.pa (Qb5 r), .i n] = (OkR r, .sl 1 ((Qax r n).map eCan)) := h87 r n
set_option maxHeartbeats 2000000 in
theorem W63 (r : Ring) (near : Int) (h : OkR r) : Qd7 Try.prog 63 [.pa (Qb5 r), .i near] fun v hp => (∃ o, v = Qmn o ∧ Qcu (fun l => ∃ first : Int, (0 ≤ first ∧ first < r.fig.period) ∧ Beg r near first l) o) ∧ hp = [] := by
 refine Qqs okH7 hmix Try.func63 cb63 cc63 cs63 cn63 ?_
 have hlen := h.len
 have hp := h.period
 have g1 := h87i r near
 unfold Qb5 at g1
 have hsl : (Qax r near).length = r.moves.length := by simp [Qax, Qct]
 simp only [rc63, rs63, g1, Qa7, Qa8, Qa9, Qa4, Qae, Qa5, Qa2, Fam.step, Qaf, Qbi, Qb4, nv, evO, opv, qv, ldV, Qaw, Qaa, Qa6, flat, Qa3, Qa0, Qa1, ↓reduceIte, Nat.reduceEqDiff, Nat.reduceAdd, Nat.reduceLT, Nat.reduceLeDiff, Qa, Qc, Qe, Qh, Ql, Qr, Qq, Qo, Qk, Qn, rv1, resV, vw_i, Qda, Qcg, zipA, Qi, Q0, Qd, true_and, and_true, and_self, reduceCtorEq, imp_self, Qb5]
 refine ⟨h, ?_⟩
 have hpn : (r.fig.period.toNat : Int) = r.fig.period := by omega
 refine Qed r.fig.period.toNat (fun i o => ⟨lkp [(0, .pa (Qb5 r)), (1, .i near), (4, .ad 0 0 0), (6, .sl 1 ((Qax r near).map eCan)), (7, .ad 1 0 0), (8, .b o.isSome), (29, .i r.fig.period), (30, .i i)], [.cells 0 [.z 1, .i 0], .cells 0 (Qkt o)]⟩)
  (fun i o => Qcu (fun l => ∃ first : Int, (0 ≤ first ∧ first < (i : Nat)) ∧ Beg r near first l) o) none ?_ ?_ ?_ ?_
 ·simp only [Q8, Qkt, Z3, cutH, kp, cutV, cutL, cutB, Qa0, Qa1, ↓reduceIte, Nat.reduceEqDiff, Nat.reduceLT, Qa, Qc, Qg, Qt, reduceCtorEq, Qb5]
 ·rintro l ⟨first, hf, _⟩
  omega
 ·intro i o hi hC
  have hlt : (i : Int) < r.fig.period := by omega
  have h4 : inI ((i : Int) + 1) := by unfold inI; omega
  simp only [hlt, Qag, Qa7, Qa8, Qad, Qa9, Qa4, Qcv, cutH, putB, keyL, Qch, Qae, Qa5, Qa2, Fam.step, Qaf, Qbi, Qb4, putB, nv, sv, evO, opv, qv, binV, lenV, Qap, putAt, Qb7, Qb6, V.cells, Qas, Qb3, Qaa, Qa6, kp, Qa3, Qat, Qa0, Qa1, ↓reduceIte, Nat.reduceEqDiff, Nat.reduceAdd, Nat.reduceMul, Nat.reduceLeDiff, Qa, Qc, Q3, Q1, Qe, Qh, Ql, Qr, Za, Qg, Qs, Qo, Qk, Qn, Qb, Qf, Qu, Q7, Zb, Z8, vw_i, Qi, Qx, Q0, Qd, decide_true, true_and, and_self, false_implies, reduceCtorEq, not_false_eq_true, ne_eq, Qm, Qb5]
  have hin : inI (((Qax r near).length : Int) - 1) := by unfold inI; omega
  have hnb : ∀ o, Qa6 (Qkt o) = false := fun o => by cases o <;> rfl
  have hnw : ∀ m, Qa6 (avs wV m) = false := fun m => Qqh (fun _ => rfl) m
  have hn0 : aks ([] : AM (List Int)) = [] := rfl
  have hn0' : avs wV ([] : AM (List Int)) = [] := rfl
  have hn1 : (((Qax r near).length - 1 : Nat) : Int) = (Qax r near).length - 1 := by omega
  refine ⟨hin, ?_⟩
  refine Qed ((Qax r near).length - 1) (fun j m => ⟨lkp [(0, .pa (Qb5 r)), (1, .i near), (4, .ad 0 0 0), (6, .sl 1 ((Qax r near).map eCan)), (7, .ad 1 0 0), (8, .b o.isSome), (9, .i i), (10, .mp 2 0), (29, .i r.fig.period), (30, .i i), (42, .i ((Qax r near).length - 1)), (43, .i j)],
    [.cells 0 [.z 1, .i 0], .cells 0 (Qkt o), .map false (aks m) (avs wV m)]⟩)
   (fun j m => Bests (Wy r.fig.period i ((Qax r near).take j)) m) [([(i : Int)], [(i : Int)])] ?_ ?_ ?_ ?_
  ·simp only [Q8, Qah _ _ _ (hnb o), aks, avs, wV, putK, Qgi, List.not_mem_nil, Ja, cutH, kp, cutV, cutL, cutB, Qa0, Qa1, ↓reduceIte, Nat.reduceEqDiff, Nat.reduceLT, Qa, Qc, Qg, Qt, Qk, reduceCtorEq, eI, Qb5]
  ·rw [Qs]; exact Qr4 _ _
  ·intro j m hj hM
   obtain ⟨st, hst⟩ : ∃ st, (Qax r near)[j]? = some st := ⟨_, Qv (by omega)⟩
   have hltj : (j : Int) < (Qax r near).length - 1 := by omega
   have i2 : inI ((j : Int) + 1) := by unfold inI; omega
   simp only [hltj, Qag, Qa7, Qa8, Qad, Qa9, Qa4, cutH, Qae, Qa5, Qa2, Fam.step, Qaf, Qbi, Qb4, nv, evO, opv, qv, binV, kp, Qa3, Qa0, Qa1, ↓reduceIte, Nat.reduceEqDiff, Nat.reduceAdd, Qa, Qc, Qe, Qh, Qo, Qk, Qb, Qf, Qi, decide_true, true_and, and_self, reduceCtorEq, Qb5]
   refine Qj4 (aks m).length (fun pre m' => ⟨lkp [(0, .pa (Qb5 r)), (1, .i near), (4, .ad 0 0 0), (6, .sl 1 ((Qax r near).map eCan)), (7, .ad 1 0 0), (8, .b o.isSome), (9, .i i), (11, .i j), (12, .mp 3 0), (29, .i r.fig.period), (30, .i i), (42, .i ((Qax r near).length - 1)), (43, .i j), (48, .it 4 0)],
     [.cells 0 [.z 1, .i 0], .cells 0 (Qkt o), .map false (aks m) (avs wV m), .map false (aks m') (avs wV m'), .iter 2 (aks m).length (Qes (aks m).length pre) pre.getLast?]⟩)
    (fun pre m' => Bests (fun l b => ∃ q ∈ pre, ∃ a l0, m[q]? = some ([a], l0) ∧ ∃ s ∈ st, b = modN (a + s) r.fig.period ∧ l = l0 ++ [b]) m') [] ?_ ?_ ?_
   ·simp only [Qfq, Xo, Qah _ _ _ (hnb o), Qah _ _ _ (hnw m), hn0, hn0', cutH, kp, cutV, cutL, cutB, Qa0, Qa1, ↓reduceIte, Nat.reduceEqDiff, Nat.reduceLT, Qa, Qc, Qg, Qt, reduceCtorEq, Qb5]
   ·exact ⟨by simp [aks], by simp [aks], fun b hb l ht => (by simp at ht), fun b l hb => (by simp [aget] at hb)⟩
   ·intro pre m' hnd hlt2 hC2
    simp only [Qag, Qa7, Qa8, Qad, Qa9, Qam, Qa4, Qc5, Qm5, Qk8, ↓Qbl, ↓Qgz, swH, sw, renV, renL, renB, cutH, putB, entV, keyV, Qae, Qaj, Qa5, Qa2, Fam.step, Qaf, Qbi, Qb4, putB, nv, sv, evO, opv, qv, binV, ldV, iadV, lenV, putAt, V.cells, Qas, kp, cutV, cutL, cutB, Qa3, Qat, Qa0, Qa1, ↓reduceIte, Nat.reduceEqDiff, Nat.reduceAdd, Nat.reduceLT, Nat.reduceLeDiff, Qa, Qc, Qe, Qh, Qg, Qs, Qt, Qo, Qk, Qb, Qf, Qp, Qu, Q7, Zd, Qi, Qd, true_and, and_self, reduceCtorEq, Qm, Zc, Qj, Qz, Qb5]
    refine ⟨fun hnil => ?_, fun q hq => ?_⟩
    ·have hall : ∀ q, q < (aks m).length → q ∈ pre := fun q hq => Classical.byContradiction fun hn => by
      have := Qcr.2 ⟨hq, hn⟩
      rw [hnil] at this; cases this
     refine ⟨i2, m', ?_, ?_⟩
     ·rw [Qar hst]
      refine Qtw hM (hC2.imp fun l b => ?_)
      constructor
      ·rintro ⟨q, _, a, l0, hq, s, hs, e1, e2⟩
       exact ⟨a, l0, Qnl hM.nd hq, s, hs, e1, e2⟩
      ·rintro ⟨a, l0, hq, s, hs, e1, e2⟩
       obtain ⟨q, hq'⟩ := X0 (Qsa hq)
       exact ⟨q, hall q (by have := Qav hq'; simpa [aks] using this), a, l0, hq', s, hs, e1, e2⟩
     ·simp only [Qck _ _ (hnb o), Qck _ _ (hnw m), Qck _ _ (hnw m'), Qah _ _ _ (hnb o), Qah _ _ _ (hnw m'), Qw, Qy]
    ·obtain ⟨hqn, hqp⟩ := Qcr.1 hq
     obtain ⟨k, l0, hk0, hk1, hk2⟩ := Qzg hqn
     obtain ⟨a, rfl⟩ := hM.one k (Q4 hk1)
     have hk2' : (avs wV m)[q]? = some (.ag [.sl 1 (l0.map eI), .i l0.sum]) := hk2 wV
     obtain ⟨hll, hlx⟩ := Qlo (Q4 hst)
     have hw0 := (hM.is a l0 (Qnl hM.nd hk0)).1
     obtain ⟨w1, w2, w3, w4⟩ := Zbh (by omega) (by omega) hw0
     have hw3 : l0.sum ≤ 17 * 60 := by
      refine Int.le_trans w3.2 ?_
      rw [Zh]
      exact X1 (by omega) (by omega) (by omega) (by omega)
     have hw1 : l0.length ≤ 17 := by rw [w1, Zh]; omega
     simp only [hk1, hk2', Qdi hq, hst, show (j : Int) < (Qax r near).length by omega, Qb3, Nat.reduceAdd, Nat.reduceLeDiff, Q3, Q1, Qe, Qh, Ql, Za, Qq, Qn, Qp, Qi, Qx, true_and, and_self, Q6, Qm, eCan]
     refine Qed st.length (fun k y => ⟨lkp [(0, .pa (Qb5 r)), (1, .i near), (4, .ad 0 0 0), (6, .sl 1 ((Qax r near).map eCan)), (7, .ad 1 0 0), (8, .b o.isSome), (9, .i i), (11, .i j), (12, .mp 3 0), (13, .i a), (14, .ad 5 0 0), (29, .i r.fig.period), (30, .i i), (42, .i ((Qax r near).length - 1)), (43, .i j), (48, .it 4 0), (57, .sl 1 (st.map eI)), (58, .i st.length), (59, .i k)],
       [.cells 0 [.z 1, .i 0], .cells 0 (Qkt o), .map false (aks m) (avs wV m), .map false (aks y) (avs wV y), .iter 2 (aks m).length (Qes (aks m).length (pre ++ [q])) (some q), .cells 0 [.sl 1 (l0.map eI), .i l0.sum]]⟩)
      (fun k y => Bests (fun l b => (∃ q ∈ pre, ∃ a l0, m[q]? = some ([a], l0) ∧ ∃ s ∈ st, b = modN (a + s) r.fig.period ∧ l = l0 ++ [b]) ∨ ∃ s ∈ st.take k, b = modN (a + s) r.fig.period ∧ l = l0 ++ [b]) y) m' ?_ ?_ ?_ ?_
     ·simp only [Q8, Qah _ _ _ (hnb o), Qah _ _ _ (hnw m), Qah _ _ _ (hnw m'), cutH, kp, cutV, cutL, cutB, Qa0, Qa1, ↓reduceIte, Nat.reduceEqDiff, Nat.reduceLT, Qa, Qc, Qg, Qt, reduceCtorEq, Qb5]
     ·refine hC2.imp fun l b => ?_
      simp
     ·intro k y hk hC3
      obtain ⟨s, hs⟩ : ∃ s, st[k]? = some s := ⟨_, Qv hk⟩
      have hsr := hlx s (Q4 hs)
      have hlt3 : (k : Int) < st.length := by omega
      have i3 : inI ((k : Int) + 1) := by unfold inI; omega
      have i4 : inI (a + s) := by unfold inI; omega
      have i5 : inI (l0.sum + modN (a + s) r.fig.period) := by
       have := Qfg (a := a + s) (p := r.fig.period) (by omega)
       unfold inI; omega
      have g2 := h84i r (a + s)
      unfold Qb5 at g2
      have hget := Qus wV y [modN (a + s) r.fig.period]
      have hT : ∀ l b, ((∃ q ∈ pre, ∃ a l0, m[q]? = some ([a], l0) ∧ ∃ s ∈ st, b = modN (a + s) r.fig.period ∧ l = l0 ++ [b]) ∨ ∃ s ∈ st.take (k + 1), b = modN (a + s) r.fig.period ∧ l = l0 ++ [b]) ↔
        (((∃ q ∈ pre, ∃ a l0, m[q]? = some ([a], l0) ∧ ∃ s ∈ st, b = modN (a + s) r.fig.period ∧ l = l0 ++ [b]) ∨ ∃ s ∈ st.take k, b = modN (a + s) r.fig.period ∧ l = l0 ++ [b]) ∨ (l = l0 ++ [modN (a + s) r.fig.period] ∧ b = modN (a + s) r.fig.period)) := by
       intro l b
       rw [Qar hs, or_assoc]
       refine or_congr Iff.rfl ?_
       simp only [Z4, Jb]
       constructor
       ·rintro ⟨s', hs' | rfl, rfl, rfl⟩
        ·exact .inl ⟨s', hs', rfl, rfl⟩
        ·exact .inr ⟨rfl, rfl⟩
       ·rintro (⟨s', hs', rfl, rfl⟩ | ⟨rfl, rfl⟩)
        ·exact ⟨s', .inl hs', rfl, rfl⟩
        ·exact ⟨s, .inr rfl, rfl, rfl⟩
      have htk : (l0.map eI).take l0.length = l0.map eI := Zu (by simp)
      have hfl : (l0.map eI).flatten ++ [[V.i (modN (a + s) r.fig.period)]].flatten = ((l0 ++ [modN (a + s) r.fig.period]).map eI).flatten := by simp [eI]
      have hln : (l0.map eI).length + 1 = (l0 ++ [modN (a + s) r.fig.period]).length := by simp
      have hsm : (l0 ++ [modN (a + s) r.fig.period]).sum = l0.sum + modN (a + s) r.fig.period := by simp [Z5]
      cases ho : aget y [modN (a + s) r.fig.period] with
      | none =>
       rw [ho, Option.map_none] at hget
       have hno := Quq.1 ho
       simp only [hlt3, hs, i3, i4, g2, hget, hno, i5, Qag, Qa7, Qbf, Qa8, Qad, Qa9, Qa4, Qc5, Qcv, ↓Qbl, Qba, optL, cutH, putB, lkpV, keyL, Qch, Qae, Qaj, Qa5, Qa2, Fam.step, Qaf, Qbi, Qbz, Qb4, Qbq, ug, runX, eff, Qb9, fpR, fpQ, fpV, Qbp, hits, putB, nv, sv, Qce, evO, opv, qv, Qb2, binV, ldV, iadV, lenV, curG, slxV, Qaw, Qap, putAt, Qb7, Qb6, V.cells, Qas, Qb3, Qaa, Qa6, flat, kp, cutV, cutL, cutB, Qa3, Qat, Qa0, Qa1, ↓reduceIte, Nat.reduceEqDiff, Nat.reduceAdd, Nat.reduceMul, Nat.reduceLT, Nat.reduceLeDiff, Nat.reduceBEq, Qa, Qc, Q3, Q1, Qe, Qh, Ql, Qr, Za, Qg, Qs, Qt, Qq, Qo, Qk, Qn, Qb, Qf, Q5, Qp, Zg, Qu, Q7, Zb, Z8, Zj, Zp, vw_i, Qda, Qdw, Zd, beq_self_eq_true, Qi, Xd, Qx, Q9, Zr, Zk, Xl, Q0, Zv, Zf, Ze, Qd, Z9, decide_true, decide_false, true_and, and_true, and_self, forall_const, false_implies, implies_true, reduceCtorEq, not_false_eq_true, ne_eq, Q6, Zz, Zs, Zl, Zi, beq_false, imp_self, Qm, Zc, Qj, Qz, eI, Qb5]
       rw [htk]
       refine ⟨by omega, ?_⟩
       refine ⟨Xb _, by rw [Qm]; unfold Qbd; omega, _, (hC3.put (l0 := l0 ++ [modN (a + s) r.fig.period]) (b0 := modN (a + s) r.fig.period) (by rw [ho]; simp)).imp fun l b => (hT l b).symm, ?_⟩
       rw [hfl, hln]
       simp only [Qah _ _ _ (hnb o), Qah _ _ _ (hnw m), Qmt, Qah _ _ _ (hnw y), ← Qhx hC3.nd, Qgj, wV, hpF, upB, upL, upV, Qc8 _ _ (Qdu _), Qet, Xc, Zw, Qdp, vw_I, Qw, Qy, hsm, cutV, cutL, ↓reduceIte, Nat.reduceLT, Qa, Qc, Ql, Qr, Qg, Qs, Qo, Qk, Qb, Qf, Qdw, Qi, and_self]
      | some l1 =>
       rw [ho, Q6] at hget
       have his := Qrp.2 (show (aget y [modN (a + s) r.fig.period]).isSome = true by rw [ho]; rfl)
       simp only [hlt3, hs, i3, i4, i5, g2, hget, his, wV, Qag, Qa7, Qbf, Qa8, Qad, Qbe, Qa9, Qa4, Qc5, Qcv, ↓Qbl, Qba, optL, cutH, putB, lkpV, keyL, Qch, Qae, Qaj, Qa5, Qa2, Fam.step, Qaf, Qbi, Qbz, Qb4, Qbq, ug, runX, eff, Qb9, fpR, fpQ, fpV, Qbp, hits, putB, nv, sv, Qce, evO, opv, qv, Qb2, binV, ldV, iadV, lenV, curG, slxV, Qaw, Qap, putAt, Qb7, Qb6, V.cells, Qas, Qb3, Qaa, Qa6, flat, kp, cutV, cutL, cutB, Qa3, Qat, Qa0, Qa1, ↓reduceIte, Nat.reduceEqDiff, Nat.reduceAdd, Nat.reduceMul, Nat.reduceLT, Nat.reduceLeDiff, Nat.reduceBEq, Qa, Qc, Q3, Q1, Qe, Qh, Ql, Qr, Za, Qg, Qs, Qt, Qq, Qo, Qk, Qn, Qb, Qf, Q5, Qp, Zg, Qu, Q7, Zb, Z8, Zj, Zp, vw_i, Qda, Qdw, Zd, beq_self_eq_true, Qi, Xd, Qx, Q9, Zr, Zk, Xl, Q0, Zv, Zf, Ze, Qd, decide_true, decide_eq_true_eq, true_and, and_true, and_self, forall_const, false_implies, implies_true, reduceCtorEq, not_false_eq_true, ne_eq, Q6, Zz, Zs, Zl, Zi, Qm, Zc, Qj, Qz, eI, Qb5]
       rw [htk]
       refine ⟨by omega, fun hc => ?_, fun hc => ?_⟩
       ·refine ⟨Xb _, by rw [Qm]; unfold Qbd; omega, _, (hC3.put (l0 := l0 ++ [modN (a + s) r.fig.period]) (b0 := modN (a + s) r.fig.period) (by rw [ho]; intro l hl; cases hl; rw [hsm]; exact hc)).imp fun l b => (hT l b).symm, ?_⟩
        rw [hfl, hln]
        simp only [Qah _ _ _ (hnb o), Qah _ _ _ (hnw m), Qmt, Qah _ _ _ (hnw y), ← Qhx hC3.nd, Qgj, wV, hpF, upB, upL, upV, Qc8 _ _ (Qdu _), Qet, Xc, Zw, Qdp, vw_I, Qw, Qy, hsm, cutV, cutL, ↓reduceIte, Nat.reduceLT, Qa, Qc, Ql, Qr, Qg, Qs, Qo, Qk, Qb, Qf, Qdw, Qi, and_self]
       ·refine ⟨_, (hC3.stay ho (l0 := l0 ++ [modN (a + s) r.fig.period]) (by rw [hsm]; omega)).imp fun l b => (hT l b).symm, ?_⟩
        simp only [Qah _ _ _ (hnb o), Qah _ _ _ (hnw m), Qah _ _ _ (hnw y), Qw, Qy]
     ·intro y hC3
      simp only [Q2, Qa7, Qa8, Qad, Qam, Qa4, Qae, Qaj, Qa5, Qa2, Fam.step, Qaf, evO, opv, qv, binV, cutV, cutL, cutB, Qa3, Qa0, Qa1, ↓reduceIte, Nat.reduceEqDiff, Nat.reduceLT, Qa, Qc, Qg, Qs, Q2, Qd, decide_false, true_and, reduceCtorEq, Qb5]
      refine ⟨q, y, hq, hC3.imp fun l b => ?_, ?_⟩
      ·rw [Xe]
       constructor
       ·rintro (⟨q', hq', h⟩ | h)
        ·exact ⟨q', by simp [hq'], h⟩
        ·exact ⟨q, by simp, a, l0, hk0, h⟩
       ·rintro ⟨q', hq', a', l', hk', h⟩
        rcases Z4.1 hq' with hq' | hq'
        ·exact .inl ⟨q', hq', a', l', hk', h⟩
        ·have : q' = q := by simpa using hq'
         subst this
         rw [hk0] at hk'
         cases hk'
         exact .inr h
      ·simp only [Qah _ _ _ (hnb o), Qah _ _ _ (hnw m), Qah _ _ _ (hnw y), Zo]
  ·intro m hM
   simp only [hn1, Q2, Qa7, Qa8, Qad, Qa9, Qam, Qa4, Qae, Qaj, Qa5, Qa2, Fam.step, Qaf, Qbi, Qb4, nv, evO, opv, qv, binV, Qa3, Qa0, Qa1, ↓reduceIte, Nat.reduceEqDiff, Nat.reduceAdd, Qa, Qc, Qe, Qh, Qo, Qk, Qb, Qf, Q2, Qi, Qd, decide_false, true_and, and_self, reduceCtorEq, Qb5]
   refine Qj4 (aks m).length (fun pre o' => ⟨lkp [(0, .pa (Qb5 r)), (1, .i near), (4, .ad 0 0 0), (6, .sl 1 ((Qax r near).map eCan)), (7, .ad 1 0 0), (8, .b o'.isSome), (9, .i i), (29, .i r.fig.period), (30, .i i), (108, .it 3 0)],
     [.cells 0 [.z 1, .i 0], .cells 0 (Qkt o'), .map false (aks m) (avs wV m), .iter 2 (aks m).length (Qes (aks m).length pre) pre.getLast?]⟩)
    (fun pre o' => Qcu (fun l => (∃ first : Int, (0 ≤ first ∧ first < (i : Nat)) ∧ Beg r near first l) ∨ ∃ q ∈ pre, ∃ a, m[q]? = some ([a], l) ∧ Qci r.fig.period (Qbt r (r.moves.length - 1)) (modN (i - a) r.fig.period) near = 1) o') o ?_ ?_ ?_
   ·simp only [Qfq, Xo, Qah _ _ _ (hnb o), Qah _ _ _ (hnw m), cutH, kp, cutV, cutL, cutB, Qa0, Qa1, ↓reduceIte, Nat.reduceEqDiff, Nat.reduceLT, Qa, Qc, Qg, Qt, reduceCtorEq, Qb5]
   ·refine hC.imp fun l => ?_
    simp
   ·intro pre o' hnd hlt2 hC2
    have hsl1 : (((Qax r near).length : Nat) : Int) - 1 = r.moves.length - 1 := by omega
    simp only [Qah _ _ _ (hnb o'), Qah _ _ _ (hnw m), Qag, Qa7, Qa8, Qad, Qbe, Qa9, Qam, Qa4, Qc5, Qk8, ↓Qbl, cutH, putB, entV, keyV, Qae, Qaj, Qa5, Qa2, Fam.step, Qaf, Qbi, Qbz, Qb4, Qbq, ug, putB, nv, sv, evO, opv, qv, binV, ldV, lenV, curG, Qaw, putAt, V.cells, Qas, Qaa, Qa6, kp, cutV, cutL, cutB, Qa3, Qat, Qa0, Qa1, ↓reduceIte, Nat.reduceEqDiff, Nat.reduceAdd, Nat.reduceLT, Nat.reduceLeDiff, Qa, Qc, Q3, Q1, Qe, Qh, Qr, Qg, Qs, Qt, Qo, Qk, Qn, Qb, Qf, Qp, Qu, Q7, vw_i, Qda, beq_self_eq_true, Qi, Qx, Q9, Zr, Q0, Zv, Qd, true_and, and_true, and_self, false_implies, implies_true, reduceCtorEq, beq_true, beq_false, Qm, Qj, Xf, Qb5]
    refine ⟨fun hnil => ?_, fun q hq => ?_⟩
    ·have hall : ∀ q, q < (aks m).length → q ∈ pre := fun q hq => Classical.byContradiction fun hn => by
      have := Qcr.2 ⟨hq, hn⟩
      rw [hnil] at this; cases this
     refine ⟨h4, o', ?_, ?_⟩
     ·refine Quv hlen hM (hC2.imp fun l => ?_)
      refine or_congr Iff.rfl ?_
      constructor
      ·rintro ⟨q, _, a, hq, h⟩
       exact ⟨a, Qnl hM.nd hq, h⟩
      ·rintro ⟨a, hq, h⟩
       obtain ⟨q, hq'⟩ := X0 (Qsa hq)
       exact ⟨q, hall q (by have := Qav hq'; simpa [aks] using this), a, hq', h⟩
     ·simp only [Qw, Qy]
    ·obtain ⟨hqn, hqp⟩ := Qcr.1 hq
     obtain ⟨k, l0, hk0, hk1, hk2⟩ := Qzg hqn
     obtain ⟨a, rfl⟩ := hM.one k (Q4 hk1)
     have hk2' : (avs wV m)[q]? = some (.ag [.sl 1 (l0.map eI), .i l0.sum]) := hk2 wV
     have hw0 := (hM.is a l0 (Qnl hM.nd hk0)).1
     obtain ⟨w1, w2, w3, w4⟩ := Zbh (by omega) (by omega) hw0
     have g2 := h84i r (i - a)
     have g3 := h83i r (r.moves.length - 1) (modN (i - a) r.fig.period) near
     unfold Qb5 at g2 g3
     have i6 : inI ((i : Int) - a) := by unfold inI; omega
     have i7 : inI ((r.moves.length : Int) - 1) := by unfold inI; omega
     have hT : ∀ l, ((∃ first : Int, (0 ≤ first ∧ first < (i : Nat)) ∧ Beg r near first l) ∨ ∃ q' ∈ pre ++ [q], ∃ a, m[q']? = some ([a], l) ∧ Qci r.fig.period (Qbt r (r.moves.length - 1)) (modN (i - a) r.fig.period) near = 1) ↔
       (((∃ first : Int, (0 ≤ first ∧ first < (i : Nat)) ∧ Beg r near first l) ∨ ∃ q ∈ pre, ∃ a, m[q]? = some ([a], l) ∧ Qci r.fig.period (Qbt r (r.moves.length - 1)) (modN (i - a) r.fig.period) near = 1) ∨ (l = l0 ∧ Qci r.fig.period (Qbt r (r.moves.length - 1)) (modN (i - a) r.fig.period) near = 1)) := by
      intro l
      rw [or_assoc]
      refine or_congr Iff.rfl ?_
      simp only [Z4, Jb]
      constructor
      ·rintro ⟨q', hq' | rfl, a', h1, h2⟩
       ·exact .inl ⟨q', hq', a', h1, h2⟩
       ·rw [hk0] at h1; cases h1; exact .inr ⟨rfl, h2⟩
      ·rintro (⟨q', hq', a', h1, h2⟩ | ⟨rfl, h2⟩)
       ·exact ⟨q', .inl hq', a', h1, h2⟩
       ·exact ⟨q, .inr rfl, a, hk0, h2⟩
     have hmt : tame 1000000 (modN (i - a) r.fig.period) := by
      have := Qfg (a := i - a) (p := r.fig.period) (by omega)
      unfold tame; omega
     cases o' with
     | none =>
      simp only [hk1, hk2', Qdi hq, hsl1, i6, i7, g2, g3, Qkt, Z3, Qb2, Qb3, Qaa, flat, cutV, cutL, ↓reduceIte, Nat.reduceAdd, Nat.reduceLeDiff, Q3, Q1, Qe, Qh, Ql, Qr, Za, Qg, Qt, Qq, Qn, Qb, Qf, Qp, vw_i, Qi, Qx, Q9, Xl, Zf, Ze, Qd, Z9, decide_eq_true_eq, decide_eq_false_iff_not, true_and, and_true, and_self, implies_true, Qff, imp_self]
      refine ⟨by omega, ⟨h, by omega, hmt⟩, fun hc => ?_, fun hc => ?_⟩
      ·refine ⟨q, some l0, hq, (hC2.put (l0 := l0) (by simp)).imp fun l => ?_, ?_⟩
       ·rw [hT]; simp only [hc, and_true]
       ·simp only [Zq, Zo]
      ·refine ⟨q, none, hq, hC2.imp fun l => ?_, ?_⟩
       ·rw [hT]; simp only [hc, and_false, or_false]
       ·simp only [Z3, Zo]
     | some l1 =>
      simp only [hk1, hk2', Qdi hq, hsl1, i6, i7, g2, g3, Qkt, Zq, Qb2, Qb3, Qaa, flat, cutV, cutL, ↓reduceIte, Nat.reduceAdd, Nat.reduceLeDiff, Q3, Q1, Qe, Qh, Ql, Qr, Za, Qg, Qt, Qq, Qn, Qb, Qf, Qp, vw_i, Qi, Qx, Q9, Zf, Ze, Qd, decide_eq_true_eq, true_and, and_true, and_self, forall_const, implies_true, Qff, imp_self]
      refine ⟨by omega, ⟨h, by omega, hmt⟩, fun hc => ?_, fun hc => ?_⟩
      ·have hc' := hc
       rw [Xr, decide_eq_true_eq, decide_eq_true_eq] at hc'
       obtain ⟨hc1, hc2⟩ := hc'
       refine ⟨q, some l0, hq, (hC2.put (l0 := l0) (by intro l e; cases e; exact hc2)).imp fun l => ?_, ?_⟩
       ·rw [hT]; simp only [hc1, and_true]
       ·simp only [Zq, Zo]
      ·have hc' := hc
       rw [Xx, decide_eq_false_iff_not, decide_eq_false_iff_not] at hc'
       by_cases hc1 : Qci r.fig.period (Qbt r (r.moves.length - 1)) (modN (i - a) r.fig.period) near = 1
       ·have hc2 : l1.sum ≤ l0.sum := by
         rcases hc' with hc' | hc'
         ·exact absurd hc1 hc'
         ·omega
        refine ⟨q, some l1, hq, (hC2.stay (l0 := l0) hc2).imp fun l => ?_, ?_⟩
        ·rw [hT]; simp only [hc1, and_true]
        ·simp only [Zq, Zo]
       ·refine ⟨q, some l1, hq, hC2.imp fun l => ?_, ?_⟩
        ·rw [hT]; simp only [hc1, and_false, or_false]
        ·simp only [Zq, Zo]
 ·intro o hC
  rw [hpn] at hC
  cases o with
  | none =>
   simp only [hpn, Q2, Qkt, Z3, Qa7, Qa8, Qad, Qam, Qai, Qa4, putB, endK, Qae, Qaj, Qa5, Qa2, Fam.step, Qaf, Qbi, Qb4, putB, nv, sv, evO, opv, qv, binV, ldV, putAt, V.cells, Qas, Qb3, Qa3, Qat, Qa0, Qa1, ↓reduceIte, Nat.reduceEqDiff, Nat.reduceAdd, Nat.reduceLeDiff, Qa, Qc, Q3, Q1, Qe, Qh, Ql, Qr, Za, Qg, Qs, Qt, Qk, Qn, Qb, Qf, Qu, rvs, rv1, vw_i, vw_b, vw_z, Qaz, Q2, Qi, Qx, Qd, decide_false, true_and, and_self, reduceCtorEq, Qb5]
   exact ⟨none, rfl, hC⟩
  | some l =>
   simp only [hpn, Q2, Qkt, Zq, Qa7, Qa8, Qad, Qam, Qai, Qa4, putB, endK, Qae, Qaj, Qa5, Qa2, Fam.step, Qaf, Qbi, Qb4, putB, nv, sv, evO, opv, qv, binV, ldV, putAt, V.cells, Qas, Qb3, Qa3, Qat, Qa0, Qa1, ↓reduceIte, Nat.reduceEqDiff, Nat.reduceAdd, Nat.reduceLeDiff, Qa, Qc, Q3, Q1, Qe, Qh, Ql, Qr, Za, Qg, Qs, Qt, Qk, Qn, Qb, Qf, Qu, rvs, rv1, vw_i, vw_b, Qay, Qaz, Q2, Qi, Qx, Qd, decide_false, true_and, and_self, reduceCtorEq, Qb5]
   exact ⟨some l, rfl, hC⟩
end Go.C02
set_option linter.unusedSimpArgs false
set_option linter.unusedVariables false
namespace Go.C02
open Go.Fam Go.Proofs
def Begs (r : Ring) (near : Int) (l : List Int) : Prop := ∃ first : Int, (0 ≤ first ∧ first < r.fig.period) ∧ Beg r near first l
def p63 (vs : List V) : Prop := eRN (dRN vs) = vs ∧ OkR (dRN vs).1
def q63 : List V → Prop
 | .tp (r :: bs) :: vs => bs = [] ∧ ∃ o, r = Qmn o ∧ Qcu (Begs (dRN vs).1 (dRN vs).2) o
 | _ => False
noncomputable def H8 : Gam := (H7.ext 3000063 fun vs => (p63 vs, .u)).ext 4000063 fun vs => (q63 vs, .u)
theorem okH8 : GOk Try.prog H8 := by
 refine okH7.extR (f := 63) (p := p63) (q := q63) (fun a w => Try.call63 a w) fun vs h => ?_
 have := W63 _ (dRN vs).2 h.2
 have e : eRN (dRN vs) = vs := h.1
 unfold eRN at e
 rw [e] at this
 refine this.mono fun r hp hr => ?_
 obtain ⟨⟨o, rfl, hb⟩, rfl⟩ := hr
 exact ⟨[], rfl, rfl, o, rfl, hb⟩
theorem h63 (r : Ring) (n : Int) : H8 3000063 [.pa (Qb5 r), .i n] = (OkR r, .u) := by
 have e := Qrb (r, n)
 refine (show H8 3000063 _ = (p63 (eRN (r, n)), V.u) from rfl).trans ?_
 unfold p63
 rw [e]; simp
theorem h63' (r : Ring) (n : Int) (x : V) (bs : List V) : H8 4000063 [.tp (x :: bs), .pa (Qb5 r), .i n] = (bs = [] ∧ ∃ o, x = Qmn o ∧ Qcu (Begs r n) o, .u) := by
 have e := Qrb (r, n)
 refine (show H8 4000063 _ = (bs = [] ∧ ∃ o, x = Qmn o ∧ Qcu (Begs (dRN (eRN (r, n))).1 (dRN (eRN (r, n))).2) o, V.u) from rfl).trans ?_
 rw [e]
theorem h50j (f : Fig) (b : Bool) : H8 50 [.ag (eFig f), .b b] = (True, Qjo f b) := h50 f b
def begV (f : Fig) (o : Option (List Int)) : V := if Qc2 f true = 0 then .tp [.sl 1 ((o.getD []).map eI), .i (if o.isSome then 0 else 3)] else .tp [.sl 1 [], .i (Qc2 f true)]
theorem W33 (f : Fig) : Qd7 Try.prog 33 [.ag (eFig f)] fun v hp => (∃ o, v = begV f o ∧ (Qc2 f true = 0 → Qcu (Begs (Qb0 f) f.near) o)) ∧ hp = [] := by
 refine Qqs okH8 hmix Try.func33 cb33 cc33 cs33 cn33 ?_
 have g1 := h50j f true
 unfold Qjo eFig at g1
 simp only [rc33, rs33, g1, Qag, Qa7, Qa8, Qad, Qbe, Qai, Qa4, Qnf, putB, endK, Qae, Qa5, Qa2, Fam.step, Qaf, Qbi, Qb4, putB, nv, sv, evO, opv, qv, binV, ldV, curG, Qaw, putAt, V.cells, Qas, Qaa, Qa6, flat, Qcy, Qa3, Qat, Qa0, Qa1, ↓reduceIte, Nat.reduceEqDiff, Nat.reduceAdd, Nat.reduceLT, Nat.reduceLeDiff, Qa, Qc, Qe, Qh, Ql, Qr, Qg, Qs, Qt, Qq, Qk, Qn, Qb, Qf, Qp, rvs, rv1, resV, vw_i, vw_b, vw_z, Qay, Qaz, Qcg, zipA, Qi, Xd, Qx, Q9, Q0, Qd, decide_eq_false_iff_not, true_and, and_self, false_implies, Zx, Qm, Xf, Classical.not_not, eFig, Qb5]
 refine ⟨fun h => ?_, fun h => ?_⟩
 ·refine ⟨none, ?_, fun h' => absurd h' h⟩
  simp only [begV, if_neg h]
 ·obtain ⟨h1, h2, h3⟩ := Qek h
  have hR := Qiz h1
  have g2 := h63 (Qb0 f) f.near
  have g3 := h63' (Qb0 f) f.near
  unfold Qb5 at g2 g3
  simp only [h, g2, g3, Qaa, ↓reduceIte, Qda, true_and, forall_const]
  refine ⟨hR, ?_⟩
  rintro r bs ⟨rfl, o, rfl, hb⟩
  cases o with
  | none =>
   simp only [Qmn, Z3, Zg, shV, shL, Qb3, Nat.reduceAdd, Nat.reduceLT, Nat.reduceLeDiff, Qc, Q3, Q1, Qe, Qh, Ql, Za, Qq, Qk, Qn, Qb, Qf, Qp, Zg, Qu, Qay, beq_self_eq_true, Qi, Qx, Ze, Z9, true_and, and_true, and_self, forall_const, false_implies]
   exact ⟨none, by simp [begV, h], hb⟩
  | some l =>
   simp only [Qmn, Zq, Qp, shV, shL, Qb3, Nat.reduceAdd, Nat.reduceLT, Nat.reduceLeDiff, Qc, Q3, Q1, Qe, Qh, Ql, Za, Qq, Qk, Qn, Qb, Qf, Qp, Qu, Qay, beq_self_eq_true, Qi, Qx, Zf, Qd, true_and, and_self, forall_const, false_implies]
   exact ⟨some l, by simp [begV, h], hb⟩
def p33 (vs : List V) : Prop := vs = [.ag (eFig (match vs with | [.ag r] => dFig r | _ => dFig []))]
def q33 : List V → Prop
 | [.tp (r :: bs), .ag f] => bs = [] ∧ ∃ o, r = begV (dFig f) o ∧ (Qc2 (dFig f) true = 0 → Qcu (Begs (Qb0 (dFig f)) (dFig f).near) o)
 | _ => False
noncomputable def H9 : Gam := (H8.ext 3000033 fun vs => (p33 vs, .u)).ext 4000033 fun vs => (q33 vs, .u)
theorem okH9 : GOk Try.prog H9 := by
 refine okH8.extR (f := 33) (p := p33) (q := q33) (fun a w => Try.call33 a w) fun vs h => ?_
 unfold p33 at h
 split at h
 ·rename_i r
  have e : r = eFig (dFig r) := by simpa using h
  have := W33 (dFig r)
  rw [← e] at this
  refine this.mono fun r' hp hr => ?_
  obtain ⟨⟨o, rfl, hb⟩, rfl⟩ := hr
  exact ⟨[], rfl, rfl, o, rfl, hb⟩
 ·rename_i hn
  exact absurd h (hn _)
theorem h33 (f : Fig) : H9 3000033 [.ag (eFig f)] = (True, .u) := by
 refine (show H9 3000033 _ = (p33 [.ag (eFig f)], V.u) from rfl).trans ?_
 simp [p33, Qcw]
theorem h33' (f : Fig) (x : V) (bs : List V) : H9 4000033 [.tp (x :: bs), .ag (eFig f)] = (bs = [] ∧ ∃ o, x = begV f o ∧ (Qc2 f true = 0 → Qcu (Begs (Qb0 f) f.near) o), .u) := by
 refine (show H9 4000033 _ = (bs = [] ∧ ∃ o, x = begV (dFig (eFig f)) o ∧ (Qc2 (dFig (eFig f)) true = 0 → Qcu (Begs (Qb0 (dFig (eFig f))) (dFig (eFig f)).near) o), V.u) from rfl).trans ?_
 rw [Qcw]
open Classical in
noncomputable def Qlh (T : List Int → Prop) : Option Int := if h : ∃ n, ∃ l, T l ∧ l.sum = n ∧ ∀ l', T l' → n ≤ l'.sum then some h.choose else none
theorem Qli {T : List Int → Prop} {o : Option (List Int)} (h : Qcu T o) : Qlh T = o.map List.sum := by
 unfold Qlh
 cases o with
 | none =>
  rw [dif_neg]; rfl
  rintro ⟨n, l, hl, _⟩
  exact h l hl
 | some l =>
  have hex : ∃ n, ∃ l, T l ∧ l.sum = n ∧ ∀ l', T l' → n ≤ l'.sum := ⟨l.sum, l, h.1, rfl, h.2⟩
  rw [dif_pos hex]
  obtain ⟨l', h1, h2, h3⟩ := hex.choose_spec
  have := h3 l h.1
  have := h.2 l' h1
  simp only [Q6, X2.injEq]
  omega
noncomputable def Qe9 (f : Fig) : Int × Int := if Qc2 f true = 0 then match Qlh (Begs (Qb0 f) f.near) with | some n => (n, 0) | none => (0, 3) else (0, Qc2 f true)
theorem Quu {r : Ring} (h : OkR r) {near : Int} {l : List Int} (hl : Begs r near l) : l.length = r.moves.length ∧ (0 ≤ l.sum ∧ l.sum ≤ 16 * 60) ∧ ∀ x ∈ l, 0 ≤ x ∧ x < r.fig.period := by
 obtain ⟨first, hf, a, hw, _⟩ := hl
 have hp := h.period
 have hlen := h.len
 have hsl : (Qax r near).length = r.moves.length := by simp [Qax, Qct]
 obtain ⟨w1, w2, w3, w4⟩ := Zbh (by omega) hf hw
 rw [Zh] at w1 w3
 refine ⟨by omega, ⟨w3.1, Int.le_trans w3.2 (X1 (by omega) (by omega) (by omega) (by omega))⟩, w4⟩
theorem Qkq {l : List Int} {i : Nat} {x : Int} (hx : l[i]? = some x) : (l.take (i + 1)).sum = (l.take i).sum + x := by
 rw [Qar hx, Z5]; simp
theorem Qxk {l : List Int} (h : ∀ x ∈ l, 0 ≤ x) (i : Nat) : 0 ≤ (l.take i).sum ∧ (l.take i).sum ≤ l.sum := by
 have h0 : ∀ l : List Int, (∀ x ∈ l, 0 ≤ x) → 0 ≤ l.sum := by
  intro l
  induction l with
  | nil => simp
  | cons x l ih =>
   intro h
   have := h x (by simp)
   have := ih fun y hy => h y (by simp [hy])
   rw [X9]; omega
 have e : l.sum = (l.take i).sum + (l.drop i).sum := by rw [← Z5, List.take_append_drop]
 have h1 := h0 (l.take i) fun x hx => h x (X3 hx)
 have h2 := h0 (l.drop i) fun x hx => h x (X4 hx)
 omega
theorem W18 (f : Fig) : Qab Try.prog 18 [.ag (eFig f)] (.tp [.i (Qe9 f).1, .i (Qe9 f).2]) := by
 refine Qac okH9 hmix Try.func18 cb18 cc18 cs18 cn18 ?_
 have g1 := h33 f
 have g2 := h33' f
 unfold eFig at g1 g2
 simp only [rc18, rs18, g1, g2, Qa7, Qa8, Qa9, Qa4, Qnf, Qae, Qa5, Qa2, Fam.step, Qaf, Qb4, evO, opv, qv, ldV, lenV, V.cells, Qas, Qaa, Qa6, Qa3, Qa0, Qa1, ↓reduceIte, Nat.reduceEqDiff, Nat.reduceAdd, Nat.reduceLT, Nat.reduceLeDiff, Qa, Qc, Qe, Qh, Qg, Qt, Qk, Qn, vw_i, Qay, Qaz, zipA, Qi, Q0, true_and, and_self, Qz, eFig]
 rintro r bs ⟨rfl, o, rfl, hb⟩
 by_cases h : Qc2 f true = 0
 ·have hb := hb h
  have hR := Qiz (Qek h).1
  have hl := Qli hb
  have hin : ∀ x ∈ o.getD [], 0 ≤ x := by
   cases o with
   | none => simp
   | some l => exact fun x hx => ((Quu hR hb.1).2.2 x hx).1
  have hsum : (o.getD []).sum ≤ 960 ∧ (o.getD []).length < 1000 := by
   have := hR.len
   cases o with
   | none => simp
   | some l => have := (Quu hR hb.1); simp only [Qp]; omega
  simp only [begV, h, shV, shL, ↓reduceIte, Nat.reduceAdd, Nat.reduceLT, Qc, Qe, Qh, Qb, Qf, Qp, Qi, true_and, Qm]
  refine Qb8 (o.getD []).length (fun i => ⟨lkp [(2, .i ((o.getD []).take i).sum), (3, .i (if o.isSome = true then 0 else 3)), (12, .sl 1 ((o.getD []).map eI)), (13, .i (o.getD []).length), (14, .i i)], []⟩) (fun i => True) ?_ trivial ?_ ?_
  ·simp only [Q8, List.sum_nil, kp, Qa0, Qa1, ↓reduceIte, Nat.reduceEqDiff, Qa, Qc, Qs]
  ·intro i hi _
   obtain ⟨x, hx⟩ : ∃ x, (o.getD [])[i]? = some x := ⟨_, Qv hi⟩
   have hlt : (i : Int) < (o.getD []).length := by omega
   have h4 : inI ((i : Int) + 1) := by unfold inI; omega
   have h5 := Qxk hin (i + 1)
   rw [Qkq hx] at h5
   have h6 : inI (((o.getD []).take i).sum + x) := by unfold inI; omega
   simp only [hx, hlt, h4, h6, Qw, Qy, Qkq hx, Qag, Qa7, Qa8, Qad, Qa9, Qa4, Qae, Qaj, Qa5, Qa2, Fam.step, Qaf, evO, opv, qv, binV, ldV, iadV, kp, Qa3, Qa0, Qa1, ↓reduceIte, Nat.reduceEqDiff, Nat.reduceLeDiff, Qa, Qc, Qe, Qh, Qq, Qp, Zd, Qi, Qd, decide_true, true_and, and_self, Q6, Qm, Zc, Qj, Qz, eI]
  ·intro _
   simp only [Xe, Q2, Qe9, h, hl, Qa7, Qa8, Qad, Qam, Qai, Qa4, Qae, Qaj, Qa5, Qa2, Fam.step, Qaf, evO, opv, qv, binV, ldV, Qa3, Qa0, Qa1, ↓reduceIte, Nat.reduceEqDiff, Qa, Qc, Q5, endQ, rvs, rv1, resV, vw_i, Qcg, Q2, Qd, decide_false, true_and, and_self]
   cases o <;> rfl
 ·simp only [begV, if_neg h, shV, shL, Nat.reduceAdd, Nat.reduceLT, Qc, Qe, Qh, Qb, Qf, Qp, Qi, true_and]
  refine Qb8 0 (fun i => ⟨lkp [(2, .i 0), (3, .i (Qc2 f true)), (12, .sl 1 []), (13, .i 0), (14, .i 0)], []⟩) (fun i => True) ?_ trivial ?_ ?_
  ·simp only [Q8, kp, Qa0, Qa1, ↓reduceIte, Nat.reduceEqDiff, Qa, Qc]
  ·intro i hi; omega
  ·intro _
   simp only [Q2, Qe9, if_neg h, Qa7, Qa8, Qad, Qam, Qai, Qa4, Qae, Qaj, Qa5, Qa2, Fam.step, Qaf, evO, opv, qv, binV, ldV, Qa3, Qa0, Qa1, ↓reduceIte, Nat.reduceEqDiff, Qa, Qc, Q5, endQ, rvs, rv1, resV, vw_i, Qcg, Q2, Qd, decide_false, and_self]
end Go.C02
set_option linter.unusedSimpArgs false
set_option linter.unusedVariables false
namespace Go.C02
open Go.Fam Go.Proofs
def minL : List Int → Int
 | [] => 0
 | x :: l => l.foldl min x
theorem Qk0 (l : List Int) : ∀ a : Int, l.foldl min a ≤ a ∧ (∀ x ∈ l, l.foldl min a ≤ x) ∧ (l.foldl min a = a ∨ l.foldl min a ∈ l) := by
 induction l with
 | nil => intro a; simp
 | cons y l ih =>
  intro a
  obtain ⟨h1, h2, h3⟩ := ih (min a y)
  rw [Jf]
  refine ⟨by omega, fun x hx => ?_, ?_⟩
  ·rcases List.mem_cons.1 hx with rfl | hx
   ·omega
   ·exact h2 x hx
  ·rcases h3 with h3 | h3
   ·by_cases e : a ≤ y
    ·left; omega
    ·right; have : l.foldl min (min a y) = y := by omega
     rw [this]; simp
   ·right; exact X5 _ h3
theorem Qwk {l : List Int} {x : Int} (h : x ∈ l) : minL l ≤ x := by
 cases l with
 | nil => cases h
 | cons a l =>
  obtain ⟨h1, h2, _⟩ := Qk0 l a
  rcases List.mem_cons.1 h with rfl | h
  ·exact h1
  ·exact h2 x h
theorem Qoj {l : List Int} (h : l ≠ []) : minL l ∈ l := by
 cases l with
 | nil => exact absurd rfl h
 | cons a l =>
  obtain ⟨_, _, h3⟩ := Qk0 l a
  rcases h3 with h3 | h3
  ·show l.foldl min a ∈ _
   rw [h3]; simp
  ·exact X5 _ h3
theorem Qgu (l : List Int) (x : Int) : minL (l ++ [x]) = if l = [] ∨ x < minL l then x else minL l := by
 cases l with
 | nil => rfl
 | cons a l =>
  show (l ++ [x]).foldl min a = if (a :: l) = [] ∨ x < l.foldl min a then x else l.foldl min a
  rw [Xp]
  simp only [Jf, X6, reduceCtorEq, false_or]
  split <;> omega
def argL (l : List Int) : Nat := l.idxOf (minL l)
theorem Qjd {l : List Int} (h : l ≠ []) : argL l < l.length := Z6 (Qoj h)
theorem Qsb {l : List Int} (h : l ≠ []) : l[argL l]? = some (minL l) := by
 rw [Qv (Qjd h)]
 exact congrArg some (List.getElem_idxOf (Qjd h))
theorem Qid (l : List Int) (x : Int) : argL (l ++ [x]) = if l = [] ∨ x < minL l then l.length else argL l := by
 unfold argL
 rw [Qgu]
 split
 ·rename_i h
  rw [Jd, if_neg]
  ·simp
  ·intro hx
   rcases h with h | h
   ·subst h; cases hx
   ·have := Qwk hx; omega
 ·rename_i h
  have h : l ≠ [] := fun e => h (.inl e)
  rw [Jd, if_pos (Qoj h)]
def dF : Nat → List Int → Int
 | 0, _ => 0
 | k + 1, l => minL ((Zy l.length).map fun i => max (dF k (l.take i)) (dF k (l.drop (i + 1))) + l.getD i 0)
def Dn (l : List Int) : Int := dF l.length l
theorem Za6 : ∀ (n k k' : Nat) (l : List Int), l.length ≤ n → n ≤ k → n ≤ k' → dF k l = dF k' l := by
 intro n
 induction n with
 | zero =>
  intro k k' l h _ _
  have : l = [] := Zn (by omega)
  subst this
  have : ∀ k, dF k [] = 0 := fun k => by cases k <;> rfl
  rw [this, this]
 | succ n ih =>
  intro k k' l h hk hk'
  obtain ⟨k, rfl⟩ : ∃ j, k = j + 1 := ⟨k - 1, by omega⟩
  obtain ⟨k', rfl⟩ : ∃ j, k' = j + 1 := ⟨k' - 1, by omega⟩
  simp only [dF]
  congr 1
  refine X8 fun i hi => ?_
  rw [Xk] at hi
  rw [ih k k' (l.take i) (by rw [Zh]; omega) (by omega) (by omega), ih k k' (l.drop (i + 1)) (by rw [Xs]; omega) (by omega) (by omega)]
theorem Zbz {k : Nat} {l : List Int} (h : l.length ≤ k) : dF k l = Dn l := Za6 l.length k l.length l (Zw _) h (Zw _)
def Qgm (l : List Int) : List Int := (Zy l.length).map fun i => max (Dn (l.take i)) (Dn (l.drop (i + 1))) + l.getD i 0
theorem Qgo (l : List Int) : (Qgm l).length = l.length := by simp [Qgm]
theorem Qgn {l : List Int} {i : Nat} (h : i < l.length) : (Qgm l)[i]? = some (max (Dn (l.take i)) (Dn (l.drop (i + 1))) + l.getD i 0) := by
 unfold Qgm
 rw [Qz, Z0 h]; rfl
theorem Qzf : Dn [] = 0 := rfl
theorem Qxt (l : List Int) : Dn l = minL (Qgm l) := by
 cases l with
 | nil => rfl
 | cons a l =>
  show minL _ = _
  unfold Qgm
  congr 1
  refine X8 fun i hi => ?_
  rw [Xk, Qe] at hi
  rw [Zbz (by rw [Zh, Qe]; omega), Zbz (by rw [Xs, Qe]; omega)]
theorem Qsh {l : List Int} (h : l ≠ []) : Qgm l ≠ [] := fun e => h (Zn (by rw [← Qgo, e]; rfl))
def Qc9 (l : List Int) : Nat := argL (Qgm l)
theorem Qlg {l : List Int} (h : l ≠ []) : Qc9 l < l.length := by
 have := Qjd (Qsh h)
 rwa [Qgo] at this
theorem Zbj {l : List Int} (h : l ≠ []) : Dn l = max (Dn (l.take (Qc9 l))) (Dn (l.drop (Qc9 l + 1))) + l.getD (Qc9 l) 0 := by
 have h1 := Qsb (Qsh h)
 have h2 := Qgn (Qlg h)
 unfold Qc9 at h2 ⊢
 rw [h1] at h2
 rw [Qxt]
 exact X2.inj h2
theorem Zd5 {l : List Int} {i : Nat} (h : i < l.length) : Dn l ≤ max (Dn (l.take i)) (Dn (l.drop (i + 1))) + l.getD i 0 := by
 rw [Qxt l]
 exact Qwk (Q4 (Qgn h))
theorem Zb5 {p : List Int → Prop} (h0 : p []) (hs : ∀ l, (∀ i, i < l.length → p (l.take i) ∧ p (l.drop (i + 1))) → l ≠ [] → p l) : ∀ l, p l := by
 have : ∀ (n : Nat) (l : List Int), l.length ≤ n → p l := by
  intro n
  induction n with
  | zero => intro l h; have : l = [] := Zn (by omega); subst this; exact h0
  | succ n ih =>
   intro l h
   by_cases e : l = []
   ·subst e; exact h0
   ·exact hs l (fun i hi => ⟨ih _ (by rw [Zh]; omega), ih _ (by rw [Xs]; omega)⟩) e
 exact fun l => this l.length l (Zw _)
theorem Ql9 {l : List Int} {i : Nat} (h : i < l.length) : l.getD i 0 ∈ l := by
 rw [Qj, Qv h]
 exact List.getElem_mem h
theorem Zd4 (l : List Int) : (∀ x ∈ l, 0 ≤ x) → 0 ≤ Dn l ∧ Dn l ≤ l.sum := by
 refine Zb5 (p := fun l => (∀ x ∈ l, 0 ≤ x) → 0 ≤ Dn l ∧ Dn l ≤ l.sum) (fun _ => by simp [Qzf]) (fun l ih hne h => ?_) l
 have hc := Qlg hne
 have h1 := (ih _ hc).1 fun x hx => h x (X3 hx)
 have h2 := h _ (Ql9 hc)
 have h3 := Zbj hne
 refine ⟨by omega, ?_⟩
 cases l with
 | nil => exact absurd rfl hne
 | cons a l =>
  have h4 := (ih 0 (by simp)).2 fun x hx => h x (X4 hx)
  have h5 := Zd5 (l := a :: l) (i := 0) (by simp)
  have h6 := h a (by simp)
  simp only [Qs, Qzf, Ql, Qr, List.getD_cons_zero, Qi] at h4 h5
  rw [X9]
  omega
def seg (t : List Int) (from_ many : Nat) : List Int := (Zy many).map fun q => t.getD ((from_ + q) % t.length) 0
theorem Qg7 (t : List Int) (f m : Nat) : (seg t f m).length = m := by simp [seg]
theorem Qow {t : List Int} {f m i : Nat} (h : i ≤ m) : (seg t f m).take i = seg t f i := by
 unfold seg
 rw [← List.map_take, List.take_range, Nat.min_eq_left h]
theorem Qrz {t : List Int} {f m i : Nat} (h : i < m) : (seg t f m).getD i 0 = t.getD ((f + i) % t.length) 0 := by
 rw [Qj]
 unfold seg
 rw [Qz, Z0 h]; rfl
theorem Qtn {t : List Int} {f m i : Nat} : (seg t f m).drop (i + 1) = seg t ((f + i + 1) % t.length) (m - i - 1) := by
 apply List.ext_getElem?
 intro j
 rw [List.getElem?_drop]
 unfold seg
 rw [Qz, Qz]
 by_cases h : j < m - i - 1
 ·rw [Z0 h, Z0 (by omega)]
  simp only [Q6, Nat.mod_add_mod]
  rw [show f + (i + 1 + j) = f + i + 1 + j by omega]
 ·rw [Xy (by simp; omega), Xy (by simp; omega)]; rfl
theorem Qxf {t : List Int} {f m : Nat} (hn : 0 < t.length) : ∀ x ∈ seg t f m, x ∈ t := by
 intro x hx
 obtain ⟨q, _, rfl⟩ := Z7.1 hx
 exact Ql9 (Xa _ hn)
theorem Qni {l : List Int} {b : Int} (h : ∀ x ∈ l, x ≤ b) : l.sum ≤ l.length * b := by
 induction l with
 | nil => simp
 | cons a l ih =>
  have := ih fun x hx => h x (by simp [hx])
  have := h a (by simp)
  rw [X9, Qe, Qw, Qy, Int.add_mul, Int.one_mul]
  omega
def OkT (t : List Int) : Prop := 3 ≤ t.length ∧ t.length ≤ 16 ∧ ∀ x ∈ t, 1 ≤ x ∧ x ≤ 99
theorem Qgc {t : List Int} (h : OkT t) {f m : Nat} (hm : m ≤ 16) : 0 ≤ Dn (seg t f m) ∧ Dn (seg t f m) ≤ 1584 := by
 obtain ⟨h1, h2, h3⟩ := h
 obtain ⟨d1, d2⟩ := Zd4 (seg t f m) fun x hx => by have := h3 x (Qxf (by omega) x hx); omega
 have d3 := Qni (l := seg t f m) (b := 99) fun x hx => (h3 x (Qxf (by omega) x hx)).2
 rw [Qg7] at d3
 have d4 : (m : Int) * 99 ≤ 16 * 99 := Int.mul_le_mul_of_nonneg_right (by omega) (by omega)
 omega
end Go.C02
set_option linter.unusedSimpArgs false
set_option linter.unusedVariables false
namespace Go.C02
open Go.Fam Go.Proofs
theorem eq86 : Qbh Try.prog 86 2 := Qbh.of (fs := _) (show Try.prog.underlying 86 = some (.struct (Try.prog.fieldsOf 86)) by kernel_rfl) (by kernel_rfl) (by kernel_rfl)
def eSew (t : List Int) : List V := [.sl 1 (t.map eI), .u, .u]
theorem W67 (t : List Int) (f b : Int) (hn : 0 < t.length) (hf : tame 1000000 f) (hb : tame 1000000 b) : Qab Try.prog 67 [.pa (eSew t), .i f, .i b] (.i ((f + b).tmod t.length)) := by
 refine Qac okH9 hmix Try.func67 cb67 cc67 cs67 cn67 ?_
 unfold tame at hf hb
 simp only [rc67, rs67, eSew, Qa7, Qa8, Qai, Qa4, Qae, Qa5, Qa2, Fam.step, Qaf, evO, opv, qv, binV, ldV, lenV, Qa3, Qa0, Qa1, ↓reduceIte, Nat.reduceEqDiff, Nat.reduceAdd, Nat.reduceLeDiff, Qa, Qc, Qe, Qh, Qr, Qq, endQ, rvs, rv1, resV, vw_i, zipA, Qi, Qd, true_and, and_true, and_self, reduceCtorEq, ne_eq, Qm]
 exact ⟨by unfold inI; omega, by omega⟩
def eSNN (a : List Int × Int × Int) : List V := [.pa (eSew a.1), .i a.2.1, .i a.2.2]
def dSNN : List V → List Int × Int × Int | [.pa [l, _, _], .i n, .i m] => ((gR l).map dI, n, m) | _ => ([], 0, 0)
theorem Zc2 (a : List Int × Int × Int) : dSNN (eSNN a) = a := by obtain ⟨r, n, m⟩ := a; simp [dSNN, eSNN, eSew, gR, Function.comp_def, Qfc]
def s67 : List V → Prop × V := fnG eSNN dSNN (fun a => 0 < a.1.length ∧ tame 1000000 a.2.1 ∧ tame 1000000 a.2.2) (fun a => (a.2.1 + a.2.2).tmod a.1.length) .i
noncomputable def H10 : Gam := H9.ext 67 s67
theorem Zcg : GOk Try.prog H10 := okH9.ext (f := 67) (r := s67) (fun a w => Try.call67 a w) (Qau fun a h => W67 a.1 a.2.1 a.2.2 h.1 h.2.1 h.2.2)
theorem k67 (t : List Int) (f b : Int) : H10 67 [.pa [.sl 1 (t.map eI), .u, .u], .i f, .i b] = (0 < t.length ∧ tame 1000000 f ∧ tame 1000000 b, .i ((f + b).tmod t.length)) :=
 (show H10 67 _ = s67 (eSNN (t, f, b)) from rfl).trans (Qb1 _ (Zc2 _))
def Qm7 (t : List Int) (f m b : Int) : V := .tp [.ag [.i f, .i b], .ag [.i ((f + (b + 1)).tmod t.length), .i (m - b - 1)]]
theorem W92 (t : List Int) (f m b : Int) (hn : 0 < t.length) (hf : tame 100000 f) (hm : tame 100000 m) (hb : tame 100000 b) : Qab Try.prog 92 [.pa (eSew t), .ag [.i f, .i m], .i b] (Qm7 t f m b) := by
 refine Qac Zcg hmix Try.func92 cb92 cc92 cs92 cn92 ?_
 have g1 := k67 t f (b + 1)
 unfold tame at hf hb hm
 simp only [rc92, rs92, eSew, g1, Qm7, Qa7, Qbf, Qa8, Qai, Qa4, Qba, optL, Qae, Qa5, Qa2, Fam.step, Qaf, Qbi, Qb4, runX, eff, Qb9, fpR, fpQ, fpV, Qbp, hits, nv, sv, evO, opv, qv, binV, ldV, Qaw, Qap, putAt, Qb7, V.cells, Qas, Qb3, Qaa, Qa6, flat, Qa3, Qat, Qa0, Qa1, ↓reduceIte, Nat.reduceEqDiff, Nat.reduceAdd, Nat.reduceLT, Nat.reduceLeDiff, Qa, Qc, Q3, Q1, Qe, Qh, Ql, Qr, Za, Qg, Qs, Qt, Qq, Qo, Qk, Qn, Qb, Qf, Q5, Qp, Zg, Qu, Q7, Zb, Zj, Zp, endQ, rvs, rv1, resV, vw_i, Qda, Qaz, Qcg, zipA, Qi, Qx, Q9, Zr, Zk, Q0, Zv, Zf, Ze, Qd, true_and, and_true, and_self, implies_true, reduceCtorEq, Zz, Zs, Zl, Zi, Qj]
 exact ⟨by unfold inI; omega, ⟨hn, by unfold tame; omega, by unfold tame; omega⟩, by unfold inI; omega, by unfold inI; omega⟩
def eSPN (a : List Int × Int × Int × Int) : List V := [.pa (eSew a.1), .ag [.i a.2.1, .i a.2.2.1], .i a.2.2.2]
def dSPN : List V → List Int × Int × Int × Int | [.pa [l, _, _], .ag [.i n, .i m], .i k] => ((gR l).map dI, n, m, k) | _ => ([], 0, 0, 0)
theorem Zc3 (a : List Int × Int × Int × Int) : dSPN (eSPN a) = a := by obtain ⟨r, n, m, k⟩ := a; simp [dSPN, eSPN, eSew, gR, Function.comp_def, Qfc]
def s92 : List V → Prop × V := fnG eSPN dSPN (fun a => 0 < a.1.length ∧ tame 100000 a.2.1 ∧ tame 100000 a.2.2.1 ∧ tame 100000 a.2.2.2) (fun a => a) (fun a => Qm7 a.1 a.2.1 a.2.2.1 a.2.2.2)
noncomputable def H11 : Gam := H10.ext 92 s92
theorem Zan : GOk Try.prog H11 := Zcg.ext (f := 92) (r := s92) (fun a w => Try.call92 a w) (Qau fun a h => W92 a.1 a.2.1 a.2.2.1 a.2.2.2 h.1 h.2.1 h.2.2.1 h.2.2.2)
theorem k92 (t : List Int) (f m b : Int) : H11 92 [.pa [.sl 1 (t.map eI), .u, .u], .ag [.i f, .i m], .i b] = (0 < t.length ∧ tame 100000 f ∧ tame 100000 m ∧ tame 100000 b, Qm7 t f m b) :=
 (show H11 92 _ = s92 (eSPN (t, f, m, b)) from rfl).trans (Qb1 _ (Zc3 _))
theorem k67' (t : List Int) (f b : Int) : H11 67 [.pa [.sl 1 (t.map eI), .u, .u], .i f, .i b] = (0 < t.length ∧ tame 1000000 f ∧ tame 1000000 b, .i ((f + b).tmod t.length)) := k67 t f b
end Go.C02
set_option linter.unusedSimpArgs false
set_option linter.unusedVariables false
namespace Go.C02
open Go.Fam Go.Proofs
structure PInv (P : Nat → Nat → Prop) (W : Nat → Nat → Int) (m : AM Int) : Prop where
 nd : (aks m).Nodup
 two : ∀ k ∈ aks m, k.length = 2
 is : ∀ f c : Nat, P f c → aget m [(f : Int), (c : Int)] = some (W f c)
 no : ∀ f c : Nat, ¬ P f c → aget m [(f : Int), (c : Int)] = none
theorem PInv.imp {P P' : Nat → Nat → Prop} {W W' : Nat → Nat → Int} {m : AM Int} (h : PInv P W m) (hP : ∀ f c, P f c ↔ P' f c) (hW : ∀ f c, P f c → W f c = W' f c) : PInv P' W' m :=
 ⟨h.nd, h.two, fun f c hp => by rw [h.is f c ((hP f c).2 hp), hW f c ((hP f c).2 hp)], fun f c hp => h.no f c fun h' => hp ((hP f c).1 h')⟩
theorem PInv.put {P P' : Nat → Nat → Prop} {W W' : Nat → Nat → Int} {m : AM Int} (h : PInv P W m) (f0 c0 : Nat) (hP : ∀ f c, P' f c ↔ P f c ∨ f = f0 ∧ c = c0) (hW : ∀ f c, P f c → ¬ (f = f0 ∧ c = c0) → W f c = W' f c) {x : Int} (hx : W' f0 c0 = x) : PInv P' W' (aput m [(f0 : Int), (c0 : Int)] x) := by
 refine ⟨Qp4 h.nd _ _, fun k hk => ?_, fun f c hp => ?_, fun f c hp => ?_⟩
 ·rw [Qgj, Qof] at hk
  rcases hk with hk | rfl
  ·exact h.two k hk
  ·rfl
 ·rw [Qkg]
  split
  ·rename_i e
   simp only [Je.injEq, Xi, and_true] at e
   obtain ⟨rfl, rfl⟩ := e
   rw [hx]
  ·rename_i e
   simp only [Je.injEq, Xi, and_true] at e
   have := ((hP f c).1 hp).resolve_right e
   rw [h.is f c this, hW f c this e]
 ·rw [Qkg]
  have := fun h' => hp ((hP f c).2 h')
  rw [if_neg]
  ·exact h.no f c fun h' => this (.inl h')
  ·intro e
   simp only [Je.injEq, Xi, and_true] at e
   exact this (.inr e)
theorem PInv.get {P : Nat → Nat → Prop} {W : Nat → Nat → Int} {m : AM Int} (h : PInv P W m) {f c : Nat} (hp : P f c) : (avs V.i m)[(aks m).idxOf [(f : Int), (c : Int)]]? = some (.i (W f c)) := by
 rw [Qus, h.is f c hp]; rfl
theorem PInv.mem {P : Nat → Nat → Prop} {W : Nat → Nat → Int} {m : AM Int} (h : PInv P W m) {f c : Nat} : [(f : Int), (c : Int)] ∈ aks m ↔ P f c := by
 rw [Qrp]
 by_cases hp : P f c
 ·rw [h.is f c hp]; simp [hp]
 ·rw [h.no f c hp]; simp [hp]
theorem Qt1 (ks : List (List Int)) (l : List Int) : ((ks.idxOf l : Nat) : Int) < (((putK ks l).length : Nat) : Int) := by
 unfold putK
 split
 ·rename_i h; have := Z6 h; omega
 ·rename_i h; have := List.idxOf_eq_length h; simp; omega
def Pd (n many i k f c : Nat) : Prop := f < n ∧ (c < many ∨ c = many ∧ (f < i ∨ f = i ∧ 0 < k))
def Wd (t : List Int) (many i k f c : Nat) : Int := if f = i ∧ c = many then minL ((Qgm (seg t f c)).take k) else Dn (seg t f c)
def Wl (t : List Int) (many i k f c : Nat) : Int := if f = i ∧ c = many then argL ((Qgm (seg t f c)).take k) else Qc9 (seg t f c)
def Pl (n many i k f c : Nat) : Prop := Pd n many i k f c ∧ 1 ≤ c
theorem nrD (m : AM Int) : Qa6 (avs V.i m) = false := Qqh (fun _ => rfl) m
def sewH (t : List Int) (m m' : AM Int) : List Blk := [.map true (aks m) (avs V.i m), .map true (aks m') (avs V.i m'), .cells 0 [.sl 1 (t.map eI), .mp 0 0, .mp 1 0]]
def Sewn (t : List Int) (v : V) (hp : List Blk) : Prop := v = .ad 2 0 0 ∧ ∃ m m' : AM Int, hp = sewH t m m' ∧ PInv (fun f c => f < t.length ∧ c < t.length) (fun f c => Dn (seg t f c)) m ∧ PInv (fun f c => (f < t.length ∧ c < t.length) ∧ 1 ≤ c) (fun f c => Qc9 (seg t f c)) m'
set_option maxRecDepth 4000 in
set_option maxHeartbeats 4000000 in
theorem W65 (t : List Int) (h : OkT t) : Qd7 Try.prog 65 [.sl 1 (t.map eI)] (Sewn t) := by
 refine Qqr Zan hmix Try.func65 cb65 cc65 cs65 cn65 ?_
 have hlen := h.1
 have hlen2 := h.2.1
 simp only [rc65, rs65, Qa7, Qa8, Qa9, Qa4, Qae, Qa5, Qa2, Fam.step, Qaf, Qbi, Qb4, nv, evO, opv, qv, lenV, Qap, putAt, Qb7, V.cells, Qas, Qb3, Qa3, Qa0, Qa1, ↓reduceIte, Nat.reduceEqDiff, Nat.reduceAdd, Nat.reduceLeDiff, Qa, Qc, Q3, Q1, Qe, Qh, Ql, Qr, Za, Qg, Qs, Qo, Qk, Qn, rv1, resV, zipA, Qi, Qx, true_and, and_self, reduceCtorEq, Qm]
 refine Qed t.length (fun i m => ⟨lkp [(0, .sl 1 (t.map eI)), (3, .ad 2 0 0), (20, .i t.length), (21, .i i)], sewH t m []⟩)
  (fun i m => PInv (fun f c => f < i ∧ c = 0) (fun f c => 0) m) [] ?_ ?_ ?_ ?_
 ·simp only [Q8, sewH, aks, avs, kp, Qa0, Qa1, ↓reduceIte, Nat.reduceEqDiff, Qa, Qc, reduceCtorEq]
 ·exact ⟨by simp [aks], by simp [aks], fun f c h => by omega, fun f c _ => rfl⟩
 ·intro i m hi hC
  have hlt : (i : Int) < t.length := by omega
  have h4 : inI ((i : Int) + 1) := by unfold inI; omega
  have h2 := hC.two
  simp only [hlt, h4, sewH, eq86, Qag, Qa7, Qa8, Qad, Qa9, Qa4, putB, keyL, Qch, Qae, Qaj, Qa5, Qa2, Fam.step, Qaf, Qbi, Qb4, putB, nv, sv, evO, opv, qv, binV, ldV, curG, Qap, putAt, Qb7, V.cells, Qas, Qdc, kp, Qa3, Qat, Qa0, Qa1, ↓reduceIte, Nat.reduceEqDiff, Nat.reduceAdd, Nat.reduceLeDiff, Qa, Qc, Qe, Qh, Ql, Qr, Za, Qg, Qs, Qq, Qo, Qk, Qn, Qb, Qf, Qu, beq_self_eq_true, Qi, Qd, decide_true, true_and, and_self, forall_const, reduceCtorEq, Q6]
  refine ⟨h2, _, hC.put i 0 (fun f c => by constructor <;> intro h <;> omega) (fun _ _ _ _ => rfl) rfl, ?_⟩
  simp only [Qgj, ← Qhx hC.nd, Qw, Qy, Q8]
 ·intro m hC
  simp only [Q2, sewH, Qa7, Qa8, Qad, Qa9, Qam, Qa4, Qae, Qaj, Qa5, Qa2, Fam.step, Qaf, evO, opv, qv, binV, Qa3, Qa0, Qa1, ↓reduceIte, Nat.reduceEqDiff, Qa, Qc, Q2, Qd, decide_false, true_and, reduceCtorEq]
  have e1 : aks ([] : AM Int) = [] := rfl
  have e2 : avs V.i ([] : AM Int) = [] := rfl
  refine Qed (t.length - 1) (fun j (x : AM Int × AM Int) => ⟨lkp [(0, .sl 1 (t.map eI)), (3, .ad 2 0 0), (5, .i ((j + 1 : Nat) : Int))], sewH t x.1 x.2⟩)
   (fun j x => PInv (fun f c => f < t.length ∧ c < j + 1) (fun f c => Dn (seg t f c)) x.1 ∧ PInv (fun f c => (f < t.length ∧ c < j + 1) ∧ 1 ≤ c) (fun f c => Qc9 (seg t f c)) x.2) (m, []) ?_ ?_ ?_ ?_
  ·simp only [sewH, Qah _ _ _ (nrD _), cutH, kp, cutV, cutL, cutB, Qa0, Qa1, ↓reduceIte, Nat.reduceEqDiff, Nat.reduceLT, Qa, Qc, Qg, Qt, Qi, reduceCtorEq]
   rfl
  ·refine ⟨hC.imp (fun f c => by constructor <;> intro h <;> omega) fun f c h => ?_, ⟨by simp [aks], by simp [aks], fun f c h => by omega, fun f c _ => rfl⟩⟩
   rw [h.2]; rfl
  ·rintro j ⟨m1, m2⟩ hj ⟨hD, hL⟩
   obtain ⟨many, hmany⟩ : ∃ many, many = j + 1 := ⟨_, rfl⟩
   rw [← hmany] at hD hL ⊢
   have hltj : (many : Int) < t.length := by omega
   have i2 : inI ((many : Int) + 1) := by unfold inI; omega
   simp only [hltj, sewH, Qag, Qa7, Qa8, Qad, Qa9, Qa4, cutH, Qae, Qa5, Qa2, Fam.step, Qaf, evO, opv, qv, binV, lenV, kp, Qa3, Qa0, Qa1, ↓reduceIte, Nat.reduceEqDiff, Qa, Qc, decide_true, true_and, reduceCtorEq, Qm]
   refine Qed t.length (fun i (x : AM Int × AM Int) => ⟨lkp [(0, .sl 1 (t.map eI)), (3, .ad 2 0 0), (5, .i many), (38, .i t.length), (39, .i i)], sewH t x.1 x.2⟩)
    (fun i x => PInv (Pd t.length many i 0) (Wd t many i 0) x.1 ∧ PInv (Pl t.length many i 0) (Wl t many i 0) x.2) (m1, m2) ?_ ?_ ?_ ?_
   ·simp only [Q8, sewH, Qah _ _ _ (nrD _), cutH, kp, cutV, cutL, cutB, Qa0, Qa1, ↓reduceIte, Nat.reduceEqDiff, Nat.reduceLT, Qa, Qc, Qg, Qt, reduceCtorEq]
   ·exact ⟨hD.imp (fun f c => by unfold Pd; constructor <;> intro h <;> omega) fun f c h => by unfold Wd; rw [if_neg (by omega)],
     hL.imp (fun f c => by unfold Pl Pd; constructor <;> intro h <;> omega) fun f c h => by unfold Wl; rw [if_neg (by omega)]⟩
   ·rintro i ⟨m1, m2⟩ hi ⟨hD, hL⟩
    have hlti : (i : Int) < t.length := by omega
    have i3 : inI ((i : Int) + 1) := by unfold inI; omega
    simp only [hlti, sewH, Qag, Qa7, Qa8, Qad, Qa9, Qa4, cutH, putB, Qae, Qa5, Qa2, Fam.step, Qaf, Qbi, Qb4, putB, nv, sv, evO, opv, qv, binV, Qap, putAt, Qb7, V.cells, Qas, Qb3, kp, Qa3, Qat, Qa0, Qa1, ↓reduceIte, Nat.reduceEqDiff, Nat.reduceAdd, Nat.reduceLeDiff, Qa, Qc, Q3, Q1, Qe, Qh, Ql, Qr, Za, Qg, Qs, Qo, Qk, Qn, Qb, Qf, Qu, Q7, Qi, Qx, decide_true, true_and, and_self, reduceCtorEq]
    refine Qed many (fun k (x : AM Int × AM Int) => ⟨lkp [(0, .sl 1 (t.map eI)), (3, .ad 2 0 0), (5, .i many), (6, .i i), (7, .ad 3 0 0), (38, .i t.length), (39, .i i), (45, .i many), (46, .i k)], sewH t x.1 x.2 ++ [.cells 0 [.i i, .i many]]⟩)
     (fun k x => PInv (Pd t.length many i k) (Wd t many i k) x.1 ∧ PInv (Pl t.length many i k) (Wl t many i k) x.2) (m1, m2) ?_ ?_ ?_ ?_
    ·simp only [Q8, sewH, Qah _ _ _ (nrD _), cutH, kp, cutV, cutL, cutB, Qa0, Qa1, ↓reduceIte, Nat.reduceEqDiff, Nat.reduceLT, Qa, Qc, Qg, Qt, Qo, Qk, reduceCtorEq]
    ·exact ⟨hD, hL⟩
    ·rintro k ⟨m1, m2⟩ hk ⟨hD, hL⟩
     have hltk : (k : Int) < many := by omega
     have i4 : inI ((k : Int) + 1) := by unfold inI; omega
     have g1 := k92 t i many k
     unfold Qm7 at g1
     have g2 := k67' t i k
     have e3 : ((i : Int) + ((k : Int) + 1)).tmod t.length = (((i + k + 1) % t.length : Nat) : Int) := by
      rw [Zm (by omega), Z1]; simp only [Qw, Qy, Int.add_assoc]
     have e4 : (many : Int) - k - 1 = ((many - k - 1 : Nat) : Int) := by omega
     have e5 : ((i : Int) + k).tmod t.length = (((i + k) % t.length : Nat) : Int) := by
      rw [Zm (by omega), Z1]; simp only [Qw]
     rw [e3, e4] at g1
     rw [e5] at g2
     have hfr : (i + k + 1) % t.length < t.length := Xa _ (by omega)
     have hfc : (i + k) % t.length < t.length := Xa _ (by omega)
     obtain ⟨τ, hτ⟩ : ∃ τ, t[(i + k) % t.length]? = some τ := ⟨_, Qv hfc⟩
     have hτ1 := h.2.2 τ (Q4 hτ)
     have hτ2 : (seg t i many).getD k 0 = τ := by rw [Qrz hk, Qj, hτ]; rfl
     have hl := hD.get (f := i) (c := k) ⟨hi, .inl hk⟩
     have hr := hD.get (f := (i + k + 1) % t.length) (c := many - k - 1) ⟨hfr, .inl (by omega)⟩
     have w1 : Wd t many i k i k = Dn (seg t i k) := by unfold Wd; rw [if_neg (by omega)]
     have w2 : Wd t many i k ((i + k + 1) % t.length) (many - k - 1) = Dn (seg t ((i + k + 1) % t.length) (many - k - 1)) := by unfold Wd; rw [if_neg (by omega)]
     rw [w1] at hl
     rw [w2] at hr
     have d1 := Qgc h (f := i) (m := k) (by omega)
     have d2 := Qgc h (f := (i + k + 1) % t.length) (m := many - k - 1) (by omega)
     have hc := Qgn (l := seg t i many) (i := k) (by rw [Qg7]; exact hk)
     rw [Qow (Nat.le_of_lt hk), Qtn, hτ2] at hc
     obtain ⟨x, hx⟩ : ∃ x, x = max (Dn (seg t i k)) (Dn (seg t ((i + k + 1) % t.length) (many - k - 1))) + τ := ⟨_, rfl⟩
     rw [← hx] at hc
     have i5 : inI x := by unfold inI; omega
     have htk := Qar hc
     have hltc : (((i + k) % t.length : Nat) : Int) < t.length := by omega
     have hckl : ((Qgm (seg t i many)).take k).length = k := by rw [Zh, Qgo, Qg7]; omega
     have hP : ∀ f c, Pd t.length many i (k + 1) f c ↔ Pd t.length many i k f c ∨ f = i ∧ c = many := fun f c => by
      unfold Pd
      constructor
      ·rintro ⟨h1, h2 | ⟨h2, h3 | h3⟩⟩
       ·exact .inl ⟨h1, .inl h2⟩
       ·exact .inl ⟨h1, .inr ⟨h2, .inl h3⟩⟩
       ·exact .inr ⟨h3.1, h2⟩
      ·rintro (⟨h1, h2 | ⟨h2, h3 | h3⟩⟩ | ⟨h1, h2⟩)
       ·exact ⟨h1, .inl h2⟩
       ·exact ⟨h1, .inr ⟨h2, .inl h3⟩⟩
       ·exact ⟨h1, .inr ⟨h2, .inr ⟨h3.1, by omega⟩⟩⟩
       ·exact ⟨by omega, .inr ⟨h2, .inr ⟨h1, by omega⟩⟩⟩
     have hP' : ∀ f c, Pl t.length many i (k + 1) f c ↔ Pl t.length many i k f c ∨ f = i ∧ c = many := fun f c => by
      unfold Pl
      rw [hP]
      constructor
      ·rintro ⟨h1 | h1, h2⟩
       ·exact .inl ⟨h1, h2⟩
       ·exact .inr h1
      ·rintro (⟨h1, h2⟩ | h1)
       ·exact ⟨.inl h1, h2⟩
       ·exact ⟨.inr h1, by omega⟩
     have hW : ∀ f c, Pd t.length many i k f c → ¬ (f = i ∧ c = many) → Wd t many i k f c = Wd t many i (k + 1) f c := fun f c _ hn => by unfold Wd; rw [if_neg hn, if_neg hn]
     have hW' : ∀ f c, Pl t.length many i k f c → ¬ (f = i ∧ c = many) → Wl t many i k f c = Wl t many i (k + 1) f c := fun f c _ hn => by unfold Wl; rw [if_neg hn, if_neg hn]
     have hm1 := hD.two
     have hm2 := hL.two
     by_cases hk0 : k = 0
     ·have hno := mt hD.mem.1 (show ¬ Pd t.length many i k i many by unfold Pd; omega)
      have hno' := mt hL.mem.1 (show ¬ Pl t.length many i k i many by unfold Pl Pd; omega)
      have hw : Wd t many i (k + 1) i many = x := by
       unfold Wd
       rw [if_pos ⟨rfl, rfl⟩, htk, Qgu, if_pos (.inl (Zn (by omega)))]
      have hw' : Wl t many i (k + 1) i many = k := by
       unfold Wl
       rw [if_pos ⟨rfl, rfl⟩, htk, Qid, if_pos (.inl (Zn (by omega))), hckl]
      have he1 := Qoi (Qnn V.i m1) [(i : Int), (many : Int)] (V.i 0) (V.i x)
      have he2 := Qoi (Qnn V.i m2) [(i : Int), (many : Int)] (V.i 0) (V.i (k : Nat))
      rw [if_neg hno, Qhx hD.nd] at he1
      rw [if_neg hno', Qhx hL.nd] at he2
      simp only [hltk, i4, sewH, g1, g2, eq86, Qxp, hl, hr, hτ, hltc, ← hx, i5, hno, hno', Qt1, Qag, Qa7, Qbf, Qa8, Qad, Qa9, Qa4, Qc5, ↓Qbl, Qba, optL, cutH, putB, lkpV, keyL, Qch, Qae, Qaj, Qa5, Qa2, Fam.step, Qaf, Qbi, Qbz, Qb4, Qbq, ug, runX, eff, Qb9, fpR, fpQ, fpV, Qbp, hits, putB, nv, sv, evO, opv, qv, Qrv, binV, ldV, iadV, curG, Qaw, putAt, V.cells, Qas, Qb3, Qdc, Qaa, Qa6, flat, Qcy, kp, cutV, cutL, cutB, Qa3, Qat, Qa0, Qa1, ↓reduceIte, Nat.reduceEqDiff, Nat.reduceAdd, Nat.reduceLT, Nat.reduceLeDiff, Nat.reduceBEq, Qa, Qc, Q3, Q1, Qe, Qh, Ql, Qr, Za, Qg, Qs, Qt, Qq, Qo, Qk, Qn, Qb, Qf, Q5, Qp, Zg, Qu, Q7, Zb, Zj, Zp, vw_i, Qay, Qaz, Qjx, Zd, beq_self_eq_true, Qi, Qx, Q9, Zr, Zk, Q0, Zv, Zf, Ze, Qd, Z9, decide_true, decide_false, true_and, and_true, and_self, false_and, forall_const, false_implies, implies_true, reduceCtorEq, Q6, Zz, Zs, Zl, Zi, beq_false, imp_self, Qm, Zc, Qj, Qz, eI]
      refine ⟨⟨by omega, by unfold tame; omega, by unfold tame; omega, by unfold tame; omega⟩, hm1, hm1, ⟨by omega, by unfold tame; omega, by unfold tame; omega⟩, hm1, hm1, hm2, (aput m1 [(i : Int), (many : Int)] x, aput m2 [(i : Int), (many : Int)] (k : Nat)), ⟨hD.put i many hP hW hw, hL.put i many hP' hW' hw'⟩, ?_⟩
      simp only [he1, he2, Qah _ _ _ (nrD _), Qgj, Qw, Qy]
     ·have hyes := hD.mem.2 (show Pd t.length many i k i many by unfold Pd; omega)
      have hyes' := hL.mem.2 (show Pl t.length many i k i many by unfold Pl Pd; omega)
      have hold := hD.get (f := i) (c := many) (show Pd t.length many i k i many by unfold Pd; omega)
      have wold : Wd t many i k i many = minL ((Qgm (seg t i many)).take k) := by unfold Wd; rw [if_pos ⟨rfl, rfl⟩]
      have wold' : Wl t many i k i many = argL ((Qgm (seg t i many)).take k) := by unfold Wl; rw [if_pos ⟨rfl, rfl⟩]
      have hne : (Qgm (seg t i many)).take k ≠ [] := fun e => hk0 (by rw [← hckl, e]; rfl)
      rw [wold] at hold
      have he1 := Qoi (Qnn V.i m1) [(i : Int), (many : Int)] (V.i 0) (V.i x)
      have he2 := Qoi (Qnn V.i m2) [(i : Int), (many : Int)] (V.i 0) (V.i (k : Nat))
      rw [if_pos hyes, Qhx hD.nd] at he1
      rw [if_pos hyes', Qhx hL.nd] at he2
      simp only [hltk, i4, sewH, g1, g2, eq86, Qxp, hl, hr, hτ, hltc, ← hx, i5, hyes, hyes', hold, Qt1, Qag, Qa7, Qbf, Qa8, Qad, Qbe, Qa9, Qa4, Qc5, ↓Qbl, Qba, optL, cutH, putB, lkpV, keyL, Qch, Qae, Qaj, Qa5, Qa2, Fam.step, Qaf, Qbi, Qbz, Qb4, Qbq, ug, runX, eff, Qb9, fpR, fpQ, fpV, Qbp, hits, putB, nv, sv, evO, opv, qv, Qb2, binV, ldV, iadV, curG, Qaw, putAt, V.cells, Qas, Qb3, Qdc, Qaa, Qa6, flat, Qcy, kp, cutV, cutL, cutB, Qa3, Qat, Qa0, Qa1, ↓reduceIte, Nat.reduceEqDiff, Nat.reduceAdd, Nat.reduceLT, Nat.reduceLeDiff, Nat.reduceBEq, Qa, Qc, Q3, Q1, Qe, Qh, Ql, Qr, Za, Qg, Qs, Qt, Qq, Qo, Qk, Qn, Qb, Qf, Q5, Qp, Zg, Qu, Q7, Zb, Zj, Zp, vw_i, Qay, Qaz, Qjx, Zd, beq_self_eq_true, Qi, Qx, Q9, Zr, Zk, Q0, Zv, Zf, Ze, Qd, decide_true, decide_eq_true_eq, true_and, and_true, and_self, forall_const, implies_true, reduceCtorEq, Q6, Zz, Zs, Zl, Zi, Qm, Zc, Qj, Qz, eI]
      refine ⟨⟨by omega, by unfold tame; omega, by unfold tame; omega, by unfold tame; omega⟩, hm1, hm1, ⟨by omega, by unfold tame; omega, by unfold tame; omega⟩, hm1, fun hc' => ?_, fun hc' => ?_⟩
      ·have hw : Wd t many i (k + 1) i many = x := by
        unfold Wd
        rw [if_pos ⟨rfl, rfl⟩, htk, Qgu, if_pos (.inr hc')]
       have hw' : Wl t many i (k + 1) i many = k := by
        unfold Wl
        rw [if_pos ⟨rfl, rfl⟩, htk, Qid, if_pos (.inr hc'), hckl]
       refine ⟨hm1, hm2, (aput m1 [(i : Int), (many : Int)] x, aput m2 [(i : Int), (many : Int)] (k : Nat)), ⟨hD.put i many hP hW hw, hL.put i many hP' hW' hw'⟩, ?_⟩
       simp only [he1, he2, Qah _ _ _ (nrD _), Qgj, Qw, Qy]
      ·have hP2 : ∀ f c, Pd t.length many i k f c ↔ Pd t.length many i (k + 1) f c := fun f c => by
        rw [hP]
        refine ⟨.inl, ?_⟩
        rintro (h | ⟨rfl, rfl⟩)
        ·exact h
        ·unfold Pd; omega
       refine ⟨(m1, m2), ⟨hD.imp hP2 fun f c hp => ?_, hL.imp (fun f c => by unfold Pl; rw [hP2]) fun f c hp => ?_⟩, ?_⟩
       ·by_cases e : f = i ∧ c = many
        ·obtain ⟨rfl, rfl⟩ := e
         rw [wold]
         unfold Wd
         rw [if_pos ⟨rfl, rfl⟩, htk, Qgu, if_neg (by rintro (h | h); exact hne h; omega)]
        ·exact hW f c hp e
       ·by_cases e : f = i ∧ c = many
        ·obtain ⟨rfl, rfl⟩ := e
         rw [wold']
         unfold Wl
         rw [if_pos ⟨rfl, rfl⟩, htk, Qid, if_neg (by rintro (h | h); exact hne h; omega)]
        ·exact hW' f c hp e
       ·simp only [Qah _ _ _ (nrD _), Qw, Qy]
    ·rintro ⟨m1, m2⟩ ⟨hD, hL⟩
     simp only [Q2, sewH, Qah _ _ _ (nrD _), Qa7, Qa8, Qad, Qam, Qa4, Qc5, ↓Qbl, cutH, Qae, Qaj, Qa5, Qa2, Fam.step, Qaf, evO, opv, qv, binV, cutV, cutL, cutB, Qa3, Qa0, Qa1, ↓reduceIte, Nat.reduceEqDiff, Nat.reduceLT, Qa, Qc, Qr, Qg, Qs, Qt, Qo, Qk, Qjx, Q2, Qd, decide_false, true_and, reduceCtorEq]
     have hfull : (Qgm (seg t i many)).take many = Qgm (seg t i many) := Zu (by rw [Qgo, Qg7]; omega)
     refine ⟨i3, (m1, m2), ⟨hD.imp (fun f c => by unfold Pd; constructor <;> intro h <;> omega) fun f c hp => ?_, hL.imp (fun f c => by unfold Pl Pd; constructor <;> intro h <;> omega) fun f c hp => ?_⟩, ?_⟩
     ·have e2 : ¬ (f = i + 1 ∧ c = many) := by unfold Pd at hp; omega
      by_cases e : f = i ∧ c = many
      ·obtain ⟨rfl, rfl⟩ := e
       unfold Wd
       rw [if_pos ⟨rfl, rfl⟩, if_neg e2, hfull, ← Qxt]
      ·unfold Wd
       rw [if_neg e, if_neg e2]
     ·have e2 : ¬ (f = i + 1 ∧ c = many) := by unfold Pl Pd at hp; omega
      by_cases e : f = i ∧ c = many
      ·obtain ⟨rfl, rfl⟩ := e
       unfold Wl
       rw [if_pos ⟨rfl, rfl⟩, if_neg e2, hfull]; rfl
      ·unfold Wl
       rw [if_neg e, if_neg e2]
     ·simp only [Qw, Qy]
   ·rintro ⟨m1, m2⟩ ⟨hD, hL⟩
    simp only [Q2, sewH, Qah _ _ _ (nrD _), Qa7, Qa8, Qad, Qam, Qa4, Qc5, ↓Qbl, cutH, Qae, Qaj, Qa5, Qa2, Fam.step, Qaf, evO, opv, qv, binV, cutV, cutL, cutB, Qa3, Qa0, Qa1, ↓reduceIte, Nat.reduceEqDiff, Nat.reduceLT, Qa, Qc, Qg, Qt, Q2, Qd, decide_false, true_and, reduceCtorEq]
    refine ⟨i2, (m1, m2), ⟨hD.imp (fun f c => by unfold Pd; constructor <;> intro h <;> omega) fun f c hp => ?_, hL.imp (fun f c => by unfold Pl Pd; constructor <;> intro h <;> omega) fun f c hp => ?_⟩, ?_⟩
    ·unfold Pd at hp
     unfold Wd
     rw [if_neg (by omega)]
    ·unfold Pl Pd at hp
     unfold Wl
     rw [if_neg (by omega)]
    ·simp only [Qw, Qy]
  ·rintro ⟨m1, m2⟩ ⟨hD, hL⟩
   have e6 : ¬ (((t.length - 1 + 1 : Nat) : Int) < t.length) := by omega
   simp only [e6, sewH, Qa7, Qa8, Qad, Qam, Qai, Qa4, endK, Qae, Qaj, Qa5, Qa2, Fam.step, Qaf, evO, opv, qv, binV, lenV, Qa3, Qa0, Qa1, ↓reduceIte, Nat.reduceEqDiff, Qa, Qc, rvs, rv1, Qd, decide_false, true_and, and_self, reduceCtorEq, Qm]
   refine ⟨rfl, m1, m2, rfl, hD.imp (fun f c => by omega) fun _ _ _ => rfl, hL.imp (fun f c => by omega) fun _ _ _ => rfl⟩
end Go.C02
set_option linter.unusedSimpArgs false
set_option linter.unusedVariables false
namespace Go.C02
open Go.Fam Go.Proofs
theorem W66 (t : List Int) (seam : Int) (hn : OkT t) (hs : tame 100000 seam) : Qab Try.prog 66 [.i seam, .pa [.pa (eSew t)], .pa [.i t.length]] (.ag [.i ((seam + 1).tmod t.length), .i (t.length - 1)]) := by
 refine Qac Zan hmix Try.func66 cb66 cc66 cs66 cn66 ?_
 have g1 := k67' t seam 1
 have hl := hn.1
 have hl2 := hn.2.1
 unfold tame at hs
 simp only [rc66, rs66, eSew, g1, Qa7, Qbf, Qa8, Qai, Qa4, Qba, optL, Qae, Qa5, Qa2, Fam.step, Qaf, Qbi, Qb4, runX, eff, Qb9, fpR, fpQ, fpV, Qbp, hits, nv, sv, evO, opv, qv, binV, ldV, Qaw, Qap, putAt, Qb7, V.cells, Qas, Qb3, Qaa, Qa6, flat, Qa3, Qat, Qa0, Qa1, ↓reduceIte, Nat.reduceEqDiff, Nat.reduceAdd, Nat.reduceLT, Nat.reduceLeDiff, Qa, Qc, Q3, Q1, Qe, Qh, Ql, Qr, Za, Qg, Qs, Qt, Qq, Qo, Qk, Qn, Qb, Q5, Zg, Qu, Zb, Zj, Zp, endQ, rvs, rv1, resV, vw_i, Qda, Qaz, zipA, Qi, Qx, Q9, Zr, Zk, Q0, Zv, Zf, Ze, Qd, true_and, and_true, and_self, implies_true, reduceCtorEq, Zz, Zs, Zl, Zi, Qj]
 exact ⟨⟨by omega, by unfold tame; omega, by unfold tame; omega⟩, by unfold inI; omega⟩
def s66 : List V → Prop × V
 | [.i s, .pa [.pa [.sl 1 r, .u, .u]], .pa [.i n]] => (r = (r.map dI).map eI ∧ n = r.length ∧ OkT (r.map dI) ∧ tame 100000 s, .ag [.i ((s + 1).tmod r.length), .i (r.length - 1)])
 | _ => (False, .u)
theorem Zcy (vs : List V) (h : (s66 vs).1) : Qab Try.prog 66 vs (s66 vs).2 := by
 unfold s66 at h ⊢
 split at h
 ·rename_i s r n
  obtain ⟨h1, rfl, h3, h4⟩ := h
  have := W66 (r.map dI) s h3 h4
  unfold eSew at this
  rw [← h1, Qm] at this
  exact this
 ·exact h.elim
def p65 (vs : List V) : Prop := match vs with | [.sl 1 r] => r = (r.map dI).map eI ∧ OkT (r.map dI) | _ => False
def q65 : List V → Prop
 | [.tp (r :: bs), .sl 1 l] => Sewn (l.map dI) r (bs.map vB)
 | _ => False
noncomputable def H12 : Gam := ((H11.ext 66 s66).ext 3000065 fun vs => (p65 vs, .u)).ext 4000065 fun vs => (q65 vs, .u)
theorem Zao : GOk Try.prog H12 := by
 refine (Zan.ext (f := 66) (r := s66) (fun a w => Try.call66 a w) Zcy).extR (f := 65) (p := p65) (q := q65) (fun a w => Try.call65 a w) fun vs h => ?_
 unfold p65 at h
 split at h
 ·rename_i r
  have := W65 (r.map dI) h.2
  rw [← h.1] at this
  refine this.mono fun r' hp hr => ?_
  obtain ⟨rfl, m, m', rfl, h1, h2⟩ := hr
  exact ⟨(sewH (r.map dI) m m').map bV, by simp [sewH, Qmc, Qho], rfl, m, m', by simp [sewH, Qmc, Qho], h1, h2⟩
 ·exact h.elim
theorem k65 (t : List Int) : H12 3000065 [.sl 1 (t.map eI)] = (OkT t, .u) := by
 refine (show H12 3000065 _ = (p65 [.sl 1 (t.map eI)], V.u) from rfl).trans ?_
 simp [p65, Qeu Qfc]
theorem k65' (t : List Int) (x : V) (bs : List V) : H12 4000065 [.tp (x :: bs), .sl 1 (t.map eI)] = (Sewn t x (bs.map vB), .u) := by
 refine (show H12 4000065 _ = (Sewn ((t.map eI).map dI) x (bs.map vB), V.u) from rfl).trans ?_
 rw [Qeu Qfc]
theorem k66 (t : List Int) (s n : Int) : H12 66 [.i s, .pa [.pa [.sl 1 (t.map eI), .u, .u]], .pa [.i n]] = ((n = t.length ∧ OkT t ∧ tame 100000 s), .ag [.i ((s + 1).tmod t.length), .i (t.length - 1)]) := by
 refine (show H12 66 _ = s66 [.i s, .pa [.pa [.sl 1 (t.map eI), .u, .u]], .pa [.i n]] from rfl).trans ?_
 simp [s66, Qeu Qfc]
def begF : Nat → List Int → Nat → Nat → List Int → List Int
 | 0, _, _, _, out => out
 | k + 1, t, f, c, out => if c = 0 then out else
  begF k t ((f + Qc9 (seg t f c) + 1) % t.length) (c - Qc9 (seg t f c) - 1)
   (begF k t f (Qc9 (seg t f c)) (out.set ((f + Qc9 (seg t f c)) % t.length) (max (Dn (seg t f (Qc9 (seg t f c)))) (Dn (seg t ((f + Qc9 (seg t f c) + 1) % t.length) (c - Qc9 (seg t f c) - 1))))))
theorem Qo6 {t : List Int} {f c : Nat} (h : c ≠ 0) : Qc9 (seg t f c) < c := by
 have := Qlg (l := seg t f c) fun e => h (by rw [← Qg7 t f c, e]; rfl)
 rwa [Qg7] at this
theorem Qp8 : ∀ (n k k' : Nat) (t : List Int) (f c : Nat) (out : List Int), c ≤ n → n ≤ k → n ≤ k' → begF k t f c out = begF k' t f c out := by
 intro n
 induction n with
 | zero =>
  intro k k' t f c out h _ _
  have : c = 0 := by omega
  subst this
  cases k <;> cases k' <;> simp [begF]
 | succ n ih =>
  intro k k' t f c out h hk hk'
  obtain ⟨k, rfl⟩ : ∃ j, k = j + 1 := ⟨k - 1, by omega⟩
  obtain ⟨k', rfl⟩ : ∃ j, k' = j + 1 := ⟨k' - 1, by omega⟩
  simp only [begF]
  by_cases hc : c = 0
  ·simp [hc]
  ·rw [if_neg hc, if_neg hc]
   have := Qo6 (t := t) (f := f) hc
   rw [ih k k' t f _ _ (by omega) (by omega) (by omega)]
   exact ih k k' t _ _ _ (by omega) (by omega) (by omega)
def begN (t : List Int) (f c : Nat) (out : List Int) : List Int := begF c t f c out
theorem Qut {t : List Int} {f c : Nat} (h : c ≠ 0) (out : List Int) : begN t f c out =
  begN t ((f + Qc9 (seg t f c) + 1) % t.length) (c - Qc9 (seg t f c) - 1)
   (begN t f (Qc9 (seg t f c)) (out.set ((f + Qc9 (seg t f c)) % t.length) (max (Dn (seg t f (Qc9 (seg t f c)))) (Dn (seg t ((f + Qc9 (seg t f c) + 1) % t.length) (c - Qc9 (seg t f c) - 1)))))) := by
 obtain ⟨k, rfl⟩ : ∃ j, c = j + 1 := ⟨c - 1, by omega⟩
 have := Qo6 (t := t) (f := f) h
 unfold begN
 rw [begF, if_neg h, Qp8 (Qc9 (seg t f (k + 1))) k _ t f _ _ (Zw _) (by omega) (Zw _), Qp8 (k + 1 - Qc9 (seg t f (k + 1)) - 1) k _ t _ _ _ (Zw _) (by omega) (Zw _)]
theorem Qxw : ∀ (k : Nat) (t : List Int) (f c : Nat) (out : List Int), (begF k t f c out).length = out.length := by
 intro k
 induction k with
 | zero => intros; rfl
 | succ k ih =>
  intro t f c out
  simp only [begF]
  split
  ·rfl
  ·rw [ih, ih, Xv]
theorem Qsc (t : List Int) (f c : Nat) (out : List Int) : (begN t f c out).length = out.length := Qxw _ _ _ _ _
structure D68 where
 t : List Int
 m : AM Int
 m' : AM Int
 f : Nat
 c : Nat
 out : List Int
def eA68 (x : D68) : List V := [.ad 2 0 0, .ag [.i x.f, .i x.c], .rf 5 0 0 x.t.length 1]
def eH68 (x : D68) : List Blk := sewH x.t x.m x.m' ++ [.cells 0 [.ad 2 0 0], .cells 0 [.i x.t.length], .cells 0 (x.out.map V.i)]
def dAM : Blk → AM Int | .map _ ks vs => ks.zip (vs.map gI) | _ => []
theorem Zdc (b : Bool) (m : AM Int) : dAM (.map b (aks m) (avs V.i m)) = m := by
 unfold dAM aks avs
 simp only [List.map_map]
 induction m with
 | nil => rfl
 | cons e m ih => simp only [Qa, List.zip_cons_cons, ih]; rfl
def Qyc (vs : List V) (hp : List Blk) : D68 :=
 ⟨match (hp[2]? : Option Blk) with | some (Blk.cells _ (V.sl _ r :: _)) => r.map dI | _ => [], dAM (hp[0]?.getD .hole), dAM (hp[1]?.getD .hole),
  match vs with | [_, .ag [.i f, _], _] => f.toNat | _ => 0, match vs with | [_, .ag [_, .i c], _] => c.toNat | _ => 0,
  match (hp[5]? : Option Blk) with | some (Blk.cells _ vs) => vs.map gI | _ => []⟩
theorem Zab (x : D68) : Qyc (eA68 x) (eH68 x) = x := by
 obtain ⟨t, m, m', f, c, out⟩ := x
 simp [Qyc, eA68, eH68, sewH, Zdc, gI, Function.comp_def, Qfc]
structure C68 (k : Nat) (x : D68) : Prop where
 t : OkT x.t
 d : PInv (fun f c => f < x.t.length ∧ c < x.t.length) (fun f c => Dn (seg x.t f c)) x.m
 l : PInv (fun f c => (f < x.t.length ∧ c < x.t.length) ∧ 1 ≤ c) (fun f c => Qc9 (seg x.t f c)) x.m'
 f : x.f < x.t.length
 c : x.c < x.t.length
 k : x.c ≤ k
 o : x.out.length = x.t.length
def RB68 (x : D68) (r : V) (hp : List Blk) : Prop := hp = eH68 { x with out := begN x.t x.f x.c x.out }
noncomputable def HG (k : Nat) : Gam := H12.extH 68 (hpG eA68 eH68 Qyc (C68 k) RB68)
theorem kG (k : Nat) (x : D68) : (HG k).h 68 (eA68 x) (eH68 x) = (C68 k x, RB68 x) :=
 (show (HG k).h 68 _ _ = hpG eA68 eH68 Qyc (C68 k) RB68 _ _ from rfl).trans (Zcd x (Zab x))
theorem Zbp : comp Try.prog pu68 (Try.f68.ntmps, 0) 6 1 rc68 (Try.f68.body.getD .skip) = some rc68 := by kernel_rfl
theorem W68 (k : Nat) (hG : GOk Try.prog (HG k)) (x : D68) (h : C68 (k + 1) x) (hc : x.c ≠ 0) : Qfy Try.prog 68 (eA68 x) (eH68 x) (RB68 x) := by
 refine Qq1 hG hmix Try.func68 cb68 Zbp cs68 (args := eA68 x) (hp := eH68 x) (by exact cn68) (by simp [eH68, sewH]) (by decide) ?_
 obtain ⟨t, m, m', f, c, out⟩ := x
 obtain ⟨hT, hD, hL, hf, hcn, hk, ho⟩ := h
 simp only at hT hD hL hf hcn hk ho hc ⊢
 obtain ⟨b, hb⟩ : ∃ b, b = Qc9 (seg t f c) := ⟨_, rfl⟩
 have hbc : b < c := by rw [hb]; exact Qo6 hc
 have hlen := hT.1
 have hlen2 := hT.2.1
 have hl := hL.get (f := f) (c := c) ⟨⟨hf, hcn⟩, by omega⟩
 rw [← hb] at hl
 have hfr : (f + b + 1) % t.length < t.length := Xa _ (by omega)
 have hfc : (f + b) % t.length < t.length := Xa _ (by omega)
 have hd1 := hD.get (f := f) (c := b) ⟨hf, by omega⟩
 have hd2 := hD.get (f := (f + b + 1) % t.length) (c := c - b - 1) ⟨hfr, by omega⟩
 have g1 : HG k 92 [.pa [.sl 1 (t.map eI), .u, .u], .ag [.i f, .i c], .i b] = (0 < t.length ∧ tame 100000 f ∧ tame 100000 c ∧ tame 100000 b, Qm7 t f c b) := k92 t f c b
 unfold Qm7 at g1
 have g2 : HG k 67 [.pa [.sl 1 (t.map eI), .u, .u], .i f, .i b] = (0 < t.length ∧ tame 1000000 f ∧ tame 1000000 b, .i (((f : Int) + b).tmod t.length)) := k67' t f b
 have e3 : ((f : Int) + ((b : Int) + 1)).tmod t.length = (((f + b + 1) % t.length : Nat) : Int) := by
  rw [Zm (by omega), Z1]; simp only [Qw, Qy, Int.add_assoc]
 have e4 : (c : Int) - b - 1 = ((c - b - 1 : Nat) : Int) := by omega
 have e5 : ((f : Int) + b).tmod t.length = (((f + b) % t.length : Nat) : Int) := by
  rw [Zm (by omega), Z1]; simp only [Qw]
 rw [e3, e4] at g1
 rw [e5] at g2
 have hm1 := hD.two
 have hm2 := hL.two
 have hc0 : ¬ ((c : Int) = 0) := by omega
 have hltc : (((f + b) % t.length : Nat) : Int) < t.length := by omega
 obtain ⟨v, hv⟩ : ∃ v, v = max (Dn (seg t f b)) (Dn (seg t ((f + b + 1) % t.length) (c - b - 1))) := ⟨_, rfl⟩
 have hput : ∀ v : Int, (out.map V.i).take ((f + b) % t.length) ++ [V.i v] ++ (out.map V.i).drop ((f + b) % t.length + 1) = (out.set ((f + b) % t.length) v).map V.i := fun v => by
  have := Qlw ((f + b) % t.length) (.i v) (out.map V.i) (by simp; omega)
  rw [List.map_set, ← this]; rfl
 obtain ⟨out1, ho1⟩ : ∃ out1, out1 = out.set ((f + b) % t.length) v := ⟨_, rfl⟩
 have hl1 : out1.length = t.length := by rw [ho1, Xv, ho]
 have g3 := kG k ⟨t, m, m', f, b, out1⟩
 have nrO : ∀ o : List Int, Qa6 (o.map V.i) = false := fun o => by induction o <;> simp_all [Qa6, Qaa]
 simp only [eA68, eH68, sewH, Qo, Qk] at g3
 simp only [rc68, rs68, eA68, eH68, sewH, hc0, hl, eq86, Zb3, Qx4, Qx3, Zcp, Qx2, Xq, Xt, Qxp, g1, g2, hd1, hd2, ← hv, hltc, Xc, hput, ← ho1, hpF, upB, upL, upV, Qah _ _ _ (nrD _), Qah _ _ _ (nrO _), g3, Qag, Qa7, Qbf, Qa8, Qad, Qa4, Qc5, Zcs, ↓Qbl, Qba, optL, cutH, lkpV, keyL, Qch, endK, Qae, Qa5, Qa2, Fam.step, Qaf, Qb4, runX, eff, Qb9, fpR, fpQ, fpV, Qbp, hits, nv, sv, evO, opv, qv, binV, ldV, iadV, curG, Qaw, putAt, V.cells, Qas, Qb3, Qdc, Qaa, Qa6, flat, Qcy, cutV, cutL, cutB, Qa3, Qat, Qa0, Qa1, ↓reduceIte, Nat.reduceEqDiff, Nat.reduceAdd, Nat.reduceLT, Nat.reduceLeDiff, Nat.reduceBEq, Qa, Qc, Q3, Q1, Qe, Qh, Ql, Qr, Za, Qg, Qs, Qt, Qq, Qo, Qk, Qn, Qb, Qf, Q5, Qp, Zg, Qu, Q7, Zb, Z8, Zj, Zp, rvs, rv1, resV, vw_i, Qay, Qaz, Qjx, zipA, Zd, beq_self_eq_true, Qi, Xd, Qx, Q9, Zr, Zk, Xl, Q0, Zv, Zf, Ze, Qd, decide_false, true_and, and_true, and_self, forall_const, reduceCtorEq, Q6, Zz, Zs, Zl, Zi, Qm, Zc, Qj, Qz]
 refine ⟨hm2, ⟨by omega, by unfold tame; omega, by unfold tame; omega, by unfold tame; omega⟩, hm2, ⟨by omega, by unfold tame; omega, by unfold tame; omega⟩, hm1, hm1, by omega, ?_⟩
 refine ⟨⟨hT, hD, hL, hf, show b < t.length by omega, show b ≤ k by omega, hl1⟩, fun r hp' h1 => ?_⟩
 have h1 : hp' = eH68 ⟨t, m, m', f, b, begN t f b out1⟩ := h1
 subst h1
 have g4 := kG k ⟨t, m, m', (f + b + 1) % t.length, c - b - 1, begN t f b out1⟩
 simp only [eA68, eH68, sewH, Qo, Qk] at g4
 simp only [eH68, sewH, Qah _ _ _ (nrD _), Qah _ _ _ (nrO _), g4, cutV, cutL, cutB, ↓reduceIte, Nat.reduceLT, Qa, Qc, Qg, Qt, Qo, Qk]
 refine ⟨⟨hT, hD, hL, hfr, show c - b - 1 < t.length by omega, show c - b - 1 ≤ k by omega, by rw [Qsc]; exact hl1⟩, fun r hp' h2 => ?_⟩
 have e : begN t f c out = begN t ((f + b + 1) % t.length) (c - b - 1) (begN t f b out1) := by rw [Qut hc, ← hb, ← hv, ho1]
 show hp' = eH68 ⟨t, m, m', f, c, begN t f c out⟩
 rw [e]
 exact h2
theorem W68z (k : Nat) (x : D68) (h : C68 k x) (hc : x.c = 0) : Qfy Try.prog 68 (eA68 x) (eH68 x) (RB68 x) := by
 refine Qq1 Zao hmix Try.func68 cb68 Zbp cs68 (args := eA68 x) (hp := eH68 x) (by exact cn68) (by simp [eH68, sewH]) (by decide) ?_
 obtain ⟨t, m, m', f, c, out⟩ := x
 simp only at hc
 subst hc
 simp only [rc68, rs68, eA68, eH68, sewH, Q8, Qa7, Qa8, Qad, Qai, Qa4, endK, Qae, Qa5, Qa2, Fam.step, Qaf, evO, opv, qv, binV, ldV, V.cells, Qas, Qaa, Qa6, Qa3, Qa0, Qa1, ↓reduceIte, Nat.reduceEqDiff, Nat.reduceAdd, Nat.reduceLeDiff, Qa, Qc, Qe, Qh, Ql, Qr, Qq, Qo, Qk, rvs, rv1, resV, vw_i, Qaz, zipA, Qi, Q0, Qd, decide_true, true_and, and_self, reduceCtorEq]
 rfl
theorem okHG : ∀ k, GOk Try.prog (HG k) := by
 intro k
 induction k with
 | zero =>
  refine Zao.extH (f := 68) (fun a w => Try.call68 a w) (Qzi fun x hx => ⟨fun r hp' hr y hy => ?_, W68z 0 x hx (by have := hx.k; omega)⟩)
  cases hy
 | succ k ih =>
  refine Zao.extH (f := 68) (fun a w => Try.call68 a w) (Qzi fun x hx => ⟨fun r hp' hr y hy => ?_, ?_⟩)
  ·cases hy
  ·by_cases hc : x.c = 0
   ·exact W68z _ x hx hc
   ·exact W68 k ih x hx hc
noncomputable def H13 : Gam := HG 100
theorem Zap : GOk Try.prog H13 := okHG 100
theorem k68 (x : D68) : H13.h 68 (eA68 x) (eH68 x) = (C68 100 x, RB68 x) := kG 100 x
end Go.C02
set_option maxRecDepth 8000
namespace Go.C02.N
open Go.Fam Go.Proofs
def rc35 : RC := (.seq (.reg false [(cX 1 0), (cQ 2 [] (.mv (.k (.z 1)))), (cI 3 0)]) (.keep [1] (.seq (.seq (.reg false [(cLd 12 1 true 11), (cQ 13 [12] (.call (kF 41) [(.t 12)])), (cMv 4 13)]) (.keep [1,4] (.seq (.reg false [(cMv 14 4), (cC 15 .neq 14 0)]) (.keep [1,4,15] (.cond (.t 15) (.seq (.reg false [(cMv 16 4), (cQ 2 [] (.mv (.k (.z 1)))), (cMv 3 16)]) .ret) .skip))))) (.keep [1] (.seq (.crl false [(cFa 17 1 10), (cLd 18 17 false 1)] ⟨(some 19), none, [18], none, .o (kF 65) [(.t 18)]⟩ [⟨(some 5), none, [], none, .w (.alc [.pn])⟩, ⟨none, none, [5,19], none, .w (.st 1 (.t 5) (.t 19))⟩]) (.keep [1,5] (.seq (.reg false [(cFa 20 1 10), (cLd 21 20 false 1), (cLn 22 21), ⟨(some 6), none, [], none, .w (.alc [(.i 0)])⟩, ⟨none, none, [6,22], none, .w (.st 1 (.t 6) (.t 22))⟩]) (.keep [1,5,6] (.seq (.reg false [(cQ 23 [5,6] (.mkf 66 [(.t 5), (.t 6)])), (cMv 7 23)]) (.keep [1,5,6,7] (.seq (.reg false [(cI 8 0)]) (.keep [1,5,6,7,8] (.seq (.seq (.reg false [(cFa 24 1 10), (cLd 25 24 false 1), (cLn 26 25), (cI 27 0)]) (.keep [1,5,6,7,8,25,26,27] (.block 0 (.loop [1,5,6,7,8,25,26,27] none (.seq (.reg false [(cB 28 .lss 27 26)]) (.keep [1,5,6,7,8,25,26,27,28] (.seq (.cond (.t 28) .skip (.exit 0)) (.keep [1,5,6,7,8,25,26,27] (.seq (.block 1 (.seq (.reg false [(cMv 29 27), (cA 30 1 25 27), (cLd 31 30 false 1), (cMv 9 29), (cMv 10 31)]) (.keep [1,5,6,7,8,9,10,25,26,27] (.seq (.any false 0 [⟨(cLd 32 5 false 1), [], []⟩, ⟨(cZ 33 32), [], [0]⟩, ⟨(cFa 34 33 1), [], [1,0]⟩, ⟨(cLd 35 34 false 1), [], [2,1,0]⟩, ⟨(cMv 36 7), [], []⟩, ⟨(cMv 37 9), [], []⟩, ⟨(cQ 38 [36,37] (.call (.t 36) [(.t 37)])), [], [4,5]⟩, ⟨(cQ 39 [35,38] (.lkp (.i 0) false 86 true (.t 35) (.t 38))), [], [3,2,1,0,6,4,5]⟩, ⟨(cMv 40 10), [], []⟩, ⟨(cB 41 .add 39 40), [], [7,3,2,1,0,6,4,5,8]⟩, ⟨(cLd 42 5 false 1), [], []⟩, ⟨(cZ 43 42), [], [10]⟩, ⟨(cFa 44 43 1), [], [11,10]⟩, ⟨(cLd 45 44 false 1), [], [12,11,10]⟩, ⟨(cMv 46 7), [], []⟩, ⟨(cMv 47 8), [], []⟩, ⟨(cQ 48 [46,47] (.call (.t 46) [(.t 47)])), [], [14,15,6,4,5]⟩, ⟨(cQ 49 [45,48] (.lkp (.i 0) false 86 true (.t 45) (.t 48))), [], [13,12,11,10,16,14,15,6,4,5]⟩, ⟨(cFa 50 1 10), [], []⟩, ⟨(cLd 51 50 false 1), [], [18]⟩, ⟨(cMv 52 8), [], []⟩, ⟨(cA 53 1 51 52), [], [19,18,20]⟩, ⟨(cLd 54 53 false 1), [], [21,19,18,20]⟩, ⟨(cB 55 .add 49 54), [], [17,13,12,11,10,16,14,15,6,4,5,22,21,19,18,20]⟩, ⟨(cB 56 .lss 41 55), [], [9,7,3,2,1,0,6,4,5,8,23,17,13,12,11,10,16,14,15,22,21,19,18,20]⟩]) (.keep [1,5,6,7,8,9,25,26,27,56] (.cond (.t 56) (.reg false [(cMv 57 9), (cMv 8 57)]) .skip)))))) (.keep [1,5,6,7,8,25,26,27] (.reg false [(cC 58 .add 27 1), (cMv 27 58)]))))))))))) (.keep [5,6,7,8] (.seq (.reg false [(cLd 59 6 false 1), ⟨(some 60), none, [59,59], none, .w (.mks 1 [(.i 0)] (.t 59) (.t 59))⟩, (cMv 11 60)]) (.keep [5,7,8,11] (.seq (.any false 0 [⟨(cMv 61 11), [], []⟩, ⟨(cMv 62 8), [], []⟩, ⟨(cLd 63 5 false 1), [], []⟩, ⟨(cZ 64 63), [], [2]⟩, ⟨(cFa 65 64 1), [], [3,2]⟩, ⟨(cLd 66 65 false 1), [], [4,3,2]⟩, ⟨(cMv 67 7), [], []⟩, ⟨(cMv 68 8), [], []⟩, ⟨(cQ 69 [67,68] (.call (.t 67) [(.t 68)])), [], [6,7]⟩, ⟨(cQ 70 [66,69] (.lkp (.i 0) false 86 true (.t 66) (.t 69))), [], [5,4,3,2,8,6,7]⟩, ⟨(cA 71 1 61 62), [], [0,1,2,3,4,5,6,7,8,9]⟩, ⟨⟨none, none, [71,70], none, .w (.st 1 (.t 71) (.t 70))⟩, [], [10,0,1,2,3,4,5,6,7,8,9]⟩]) (.keep [5,7,8,11] (.seq (.hca false 0 [⟨(cLd 72 5 false 1), [], []⟩, ⟨(cMv 73 7), [], []⟩, ⟨(cMv 74 8), [], []⟩, ⟨(cQ 75 [73,74] (.call (.t 73) [(.t 74)])), [], [1,2]⟩, ⟨(cMv 76 11), [], []⟩] ⟨⟨(some 77), none, [72,75,76], none, .o (kF 68) [(.t 72), (.t 75), (.t 76)]⟩, [], [0,3,1,2,4]⟩ 0 []) (.keep [11] (.seq (.swp 0 5 (.drp 1 (.reg false [(cMv 78 11), (cMv 2 78), (cI 3 0)]))) .ret)))))))))))))))))))))
def pu35 : List Nat := [1]
def rs35 : List RV := [.t 2, .t 3]
theorem cc35 : CCx Try.prog Try.f35 pu35 rc35 := by unfold CCx; kernel_rfl
theorem cb35 : CBx Try.f35 := by unfold CBx; kernel_rfl
theorem cs35 : CSx Try.prog Try.f35 rs35 := by unfold CSx; kernel_rfl
theorem cn35 : 1 ≤ Try.f35.ntmps := by decide
def rc26 : RC := (.seq (.reg false [(cX 1 0), (cI 2 0), (cI 3 0)]) (.keep [1] (.seq (.reg false [(cLd 9 1 true 11), ⟨(some 10), none, [9], none, .o (kF 35) [(.t 9)]⟩, (cMv 8 10), (cEx 11 8 0), (cEx 12 8 1), (cMv 4 11), (cMv 5 12)]) (.keep [1,4,5] (.seq (.seq (.reg false [(cMv 13 5), (cC 14 .neq 13 0)]) (.keep [1,4,5,14] (.cond (.t 14) (.seq (.reg false [(cMv 15 5), (cI 2 0), (cMv 3 15)]) .ret) .skip))) (.keep [1,4] (.seq (.seq (.reg false [(cFa 16 1 10), (cLd 17 16 false 1), (cLn 18 17), (cI 19 0)]) (.keep [4,17,18,19] (.block 0 (.loop [4,17,18,19] none (.seq (.reg false [(cB 20 .lss 19 18)]) (.keep [4,17,18,19,20] (.seq (.cond (.t 20) .skip (.exit 0)) (.keep [4,17,18,19] (.seq (.block 1 (.seq (.reg false [(cMv 21 19), (cA 22 1 17 19), (cLd 23 22 false 1), (cMv 6 21), (cMv 7 23)]) (.keep [4,6,7,17,18,19] (.reg false [(cMv 24 4), (cMv 25 6), (cA 26 1 24 25), (cLd 27 26 false 1), (cMv 28 7), (cB 29 .add 27 28), (cA 30 1 24 25), ⟨none, none, [30,29], none, .w (.st 1 (.t 30) (.t 29))⟩])))) (.keep [4,17,18,19] (.reg false [(cC 31 .add 19 1), (cMv 19 31)]))))))))))) (.keep [4] (.seq (.reg false [(cMv 32 4), (cQ 33 [32] (.call (kF 59) [(.t 32)])), (cMv 2 33), (cI 3 0)]) .ret)))))))))
def pu26 : List Nat := [1000010,1]
def rs26 : List RV := [.t 2, .t 3]
theorem cc26 : CCx Try.prog Try.f26 pu26 rc26 := by unfold CCx; kernel_rfl
theorem cb26 : CBx Try.f26 := by unfold CBx; kernel_rfl
theorem cs26 : CSx Try.prog Try.f26 rs26 := by unfold CSx; kernel_rfl
theorem cn26 : 1 ≤ Try.f26.ntmps := by decide
def rc54 : RC := (.seq (.reg false [(cX 1 0), (cQ 2 [] (.mv (.k (.z 1))))]) (.keep [1] (.seq (.reg false [(cQ 3 [] (.mv (.k (.z 1))))]) (.keep [1,3] (.seq (.seq (.reg false [(cI 4 0)]) (.keep [1,3,4] (.block 0 (.own 3 1 (.loop [1,3,4] none (.seq (.seq (.reg false [(cMv 7 4), (cFa 8 1 0), (cFa 9 8 1), (cLd 10 9 false 1), (cLn 11 10), (cB 12 .lss 7 11)]) (.keep [1,3,4,12] (.cond (.t 12) .skip (.exit 0)))) (.keep [1,3,4] (.seq (.block 1 (.seq (.any false 0 [⟨(cFa 16 1 0), [], []⟩, ⟨(cLd 17 16 true 6), [], [0]⟩, ⟨(cFa 18 1 0), [], []⟩, ⟨(cFa 19 18 1), [], [2]⟩, ⟨(cLd 20 19 false 1), [], [3,2]⟩, ⟨(cMv 21 4), [], []⟩, ⟨(cA 22 1 20 21), [], [4,3,2,5]⟩, ⟨(cLd 23 22 false 1), [], [6,4,3,2,5]⟩, ⟨(cQ 24 [17,23] (.call (kF 86) [(.t 17), (.t 23)])), [], [1,0,7,6,4,3,2,5]⟩, ⟨(cMv 15 24), [], [8,1,0,7,6,4,3,2,5]⟩, ⟨(cEx 25 15 0), [], [9,8,1,0,7,6,4,3,2,5]⟩, ⟨(cEx 26 15 1), [], [9,8,1,0,7,6,4,3,2,5]⟩, ⟨(cMv 5 25), [], [10,9,8,1,0,7,6,4,3,2,5]⟩, ⟨(cMv 6 26), [], [11,9,8,1,0,7,6,4,3,2,5,12,10]⟩]) (.keep [1,3,4,5] (.reg false [(cMv 27 3), (cMv 28 5), (cQ 29 [28] (.bsl 1 1 [(.z 1)] [(0,1, (.t 28))])), ⟨(some 30), none, [27,29], none, .w (.app 1 (.t 27) (.t 29))⟩, (cMv 3 30)])))) (.keep [1,3,4] (.reg false [(cMv 13 4), (cC 14 .add 13 1), (cMv 4 14)])))))))))) (.keep [3] (.seq (.drp 0 (.reg false [(cMv 31 3), (cMv 2 31)])) .ret)))))))
def pu54 : List Nat := [1,29]
def rs54 : List RV := [.t 2]
theorem cc54 : CCx Try.prog Try.f54 pu54 rc54 := by unfold CCx; kernel_rfl
theorem cb54 : CBx Try.f54 := by unfold CBx; kernel_rfl
theorem cs54 : CSx Try.prog Try.f54 rs54 := by unfold CSx; kernel_rfl
theorem cn54 : 1 ≤ Try.f54.ntmps := by decide
def rc43 : RC := (.seq (.reg false [(cX 1 0), (cQ 2 [] (.mv (.k (.z 1)))), (cI 3 0)]) (.keep [1] (.seq (.seq (.reg false [(cLd 9 1 true 11), (cQ 10 [9] (.call (kF 61) [(.t 9), (kI 0)])), (cMv 4 10)]) (.keep [1,4] (.seq (.reg false [(cMv 11 4), (cC 12 .neq 11 0)]) (.keep [1,4,12] (.cond (.t 12) (.seq (.reg false [(cMv 13 4), (cQ 2 [] (.mv (.k (.z 1)))), (cMv 3 13)]) .ret) .skip))))) (.keep [1] (.seq (.reg false [(cQ 5 [] (.mv (.k (.z 1))))]) (.keep [1,5] (.seq (.seq (.reg false [(cI 6 0)]) (.keep [1,5,6] (.block 0 (.own 5 1 (.loop [1,5,6] none (.seq (.seq (.reg false [(cMv 14 6), (cFa 15 1 9), (cLd 16 15 false 1), (cLn 17 16), (cB 18 .lss 14 17)]) (.keep [1,5,6,18] (.cond (.t 18) .skip (.exit 0)))) (.keep [1,5,6] (.seq (.block 1 (.seq (.reg false [(cLd 22 1 true 11), (cMv 23 6), (cQ 24 [22,23] (.call (kF 42) [(.t 22), (.t 23)])), (cMv 21 24), (cEx 25 21 0), (cEx 26 21 1), (cMv 7 25), (cMv 8 26)]) (.keep [1,5,6,7] (.seq (.reg false [(cMv 27 7), (cC 28 .neq 27 1)]) (.keep [1,5,6,28] (.cond (.t 28) (.reg false [(cMv 29 5), (cMv 30 6), (cQ 31 [30] (.bsl 1 1 [(.i 0)] [(0,1, (.t 30))])), ⟨(some 32), none, [29,31], none, .w (.app 1 (.t 29) (.t 31))⟩, (cMv 5 32)]) .skip)))))) (.keep [1,5,6] (.reg false [(cMv 19 6), (cC 20 .add 19 1), (cMv 6 20)])))))))))) (.keep [5] (.seq (.drp 0 (.reg false [(cMv 33 5), (cMv 2 33), (cI 3 0)])) .ret)))))))))
def pu43 : List Nat := [1,31]
def rs43 : List RV := [.t 2, .t 3]
theorem cc43 : CCx Try.prog Try.f43 pu43 rc43 := by unfold CCx; kernel_rfl
theorem cb43 : CBx Try.f43 := by unfold CBx; kernel_rfl
theorem cs43 : CSx Try.prog Try.f43 rs43 := by unfold CSx; kernel_rfl
theorem cn43 : 1 ≤ Try.f43.ntmps := by decide
end Go.C02.N
set_option linter.unusedSimpArgs false
set_option linter.unusedVariables false
namespace Go.C02
open Go.Fam Go.Proofs
theorem Qwv {f : Fig} (h : Qao f = 0) : OkT f.times := by
 have hv := Qbs h
 have hd := hv.dome
 have hg := hd.ng
 have hn := hv.nt
 exact ⟨by omega, by omega, hv.times⟩
def Qh1 (t : List Int) : List Int := (Zy t.length).map fun s => Dn (seg t ((s + 1) % t.length) (t.length - 1)) + t.getD s 0
theorem Qey (t : List Int) : (Qh1 t).length = t.length := by simp [Qh1]
theorem Qj3 {t : List Int} {s : Nat} (h : s < t.length) : (Qh1 t)[s]? = some (Dn (seg t ((s + 1) % t.length) (t.length - 1)) + t.getD s 0) := by
 unfold Qh1
 rw [Qz, Z0 h]; rfl
def Qpg (t : List Int) : Nat := argL (Qh1 t)
def Qry (t : List Int) : Int := Dn (seg t ((Qpg t + 1) % t.length) (t.length - 1))
def Qe5 (t : List Int) : List Int := begN t ((Qpg t + 1) % t.length) (t.length - 1) ((Zt t.length 0).set (Qpg t) (Qry t))
theorem Quz {t : List Int} (h : OkT t) : Qpg t < t.length := by
 have := Qjd (l := Qh1 t) fun e => by
  have h1 := Qey t
  rw [e, Qh] at h1
  have h2 := h.1
  omega
 rwa [Qey] at this
theorem Qd3 (t : List Int) : (Qe5 t).length = t.length := by
 unfold Qe5
 rw [Qsc, Xv, Xz]
theorem Qxv {l : List Int} {k c : Nat} {x y : Int} (hk : l[k]? = some x) (hc : c = argL (l.take k)) (hy : l[c]? = some y) : argL (l.take (k + 1)) = if x < y then k else c := by
 have hkl := Qav hk
 rw [Qar hk, Qid, ← hc]
 have hlen : (l.take k).length = k := by rw [Zh]; omega
 rw [hlen]
 by_cases h0 : k = 0
 ·subst h0
  have : c = 0 := by rw [hc]; rfl
  subst this
  rw [hk] at hy
  cases hy
  simp
 ·have hne : l.take k ≠ [] := fun e => h0 (by rw [← hlen, e]; rfl)
  have h1 := Qsb hne
  rw [← hc, List.getElem?_take_of_lt (by rw [hc]; have := Qjd hne; omega), hy] at h1
  have h1 : y = minL (l.take k) := X2.inj h1
  simp only [hne, false_or, h1]
theorem Zbk {l : List Int} {k : Nat} (hk : k < l.length) : argL (l.take k) < l.length := by
 by_cases h0 : l.take k = []
 ·rw [h0]; show 0 < l.length; omega
 ·have := Qjd h0
  rw [Zh] at this
  omega
def Qjs (f : Fig) : V := if Qao f ≠ 0 then .tp [.z 1, .i (Qao f)] else .tp [.rf 0 0 0 f.times.length 1, .i 0]
def Qhq (f : Fig) : List Blk := if Qao f ≠ 0 then [] else [.cells 0 ((Qe5 f.times).map V.i)]
theorem h41o (f : Fig) : H13 41 [.ag (eFig f)] = (True, .i (Qao f)) := h41 f
theorem k65o (t : List Int) : H13 3000065 [.sl 1 (t.map eI)] = (OkT t, .u) := k65 t
theorem Zdl (t : List Int) (x : V) (bs : List V) : H13 4000065 [.tp (x :: bs), .sl 1 (t.map eI)] = (Sewn t x (bs.map vB), .u) := k65' t x bs
theorem k66o (t : List Int) (s n : Int) : H13 66 [.i s, .pa [.pa [.sl 1 (t.map eI), .u, .u]], .pa [.i n]] = ((n = t.length ∧ OkT t ∧ tame 100000 s), .ag [.i ((s + 1).tmod t.length), .i (t.length - 1)]) := k66 t s n
set_option maxHeartbeats 2000000 in
theorem W35 (f : Fig) : Qdf Try.prog 35 [.ag (eFig f)] (Qjs f) (Qhq f) := by
 refine Qj0 Zap hmix Try.func35 N.cb35 N.cc35 N.cs35 N.cn35 ?_
 have g1 := h41o f
 unfold eFig at g1
 have g2 := k65o f.times
 have g3 := Zdl f.times
 simp only [N.rc35, N.rs35, g1, endO, Qag, Qa7, Qa8, Qad, Qbe, Qa9, Qai, Qa4, Qnf, putB, endO, Qae, Qa5, Qa2, Fam.step, Qaf, Qbi, Qb4, putB, nv, sv, evO, opv, qv, binV, ldV, lenV, curG, Qaw, putAt, V.cells, Qas, Qb3, Qaa, Qa6, flat, Qa3, Qat, Qa0, Qa1, ↓reduceIte, Nat.reduceEqDiff, Nat.reduceAdd, Nat.reduceLT, Nat.reduceLeDiff, Qa, Qc, Q3, Q1, Qe, Qh, Ql, Qr, Qg, Qs, Qt, Qq, Qo, Qk, Qn, Q5, rvs, rv1, resV, vw_i, Qay, Qaz, zipA, Qi, Qx, Q0, Qd, decide_eq_false_iff_not, true_and, and_true, and_self, implies_true, Zx, Qm, Classical.not_not, eFig]
 refine ⟨fun h => ?_, fun h => ?_⟩
 ·simp [Qjs, Qhq, h]
 have hT := Qwv h
 simp only [g2, g3]
 refine ⟨hT, ?_⟩
 rintro r bs ⟨rfl, m, m', hbs, hD, hL⟩
 have hlen := hT.1
 have hlen2 := hT.2.1
 have nrO : ∀ o : List Int, Qa6 (o.map V.i) = false := fun o => by induction o <;> simp_all [Qa6, Qaa]
 have hbl : bs.length = 3 := by have := congrArg List.length hbs; simpa [sewH] using this
 have hsh : ∀ n, shL n (avs V.i m) = avs V.i m := fun n => Qez n _ (nrD m)
 have hsh' : ∀ n, shL n (avs V.i m') = avs V.i m' := fun n => Qez n _ (nrD m')
 simp only [hbs, sewH, hbl, hsh, hsh', shV, shL, shB, Qb3, Nat.reduceAdd, Nat.reduceLeDiff, Qa, Qc, Q3, Q1, Qe, Qh, Ql, Za, Qo, Qk, Qn, Qb, Qf, Qu, Q7, Qi, Xd, Qx, true_and, and_self]
 obtain ⟨t, ht⟩ : ∃ t, t = f.times := ⟨_, rfl⟩
 simp only [← ht] at hT hD hL hlen hlen2 ⊢
 refine Qbg t.length (fun k => ⟨lkp [(1, .pa (eFig f)), (5, .ad 3 0 0), (6, .ad 4 0 0), (7, .fn 66 [.ad 3 0 0, .ad 4 0 0]), (8, .i (argL ((Qh1 t).take k))), (25, .sl 1 (t.map eI)), (26, .i t.length), (27, .i k)], sewH t m m' ++ [.cells 0 [.ad 2 0 0], .cells 0 [.i t.length]]⟩) ?_ ?_ ?_
 ·simp only [Q8, sewH, ht, kp, Qa0, Qa1, ↓reduceIte, Nat.reduceEqDiff, Qa, Qc, Qs, Qo, Qk, eFig]
  rfl
 ·intro k hk
  obtain ⟨x, hx⟩ : ∃ x, t[k]? = some x := ⟨_, Qv hk⟩
  have hx1 := hT.2.2 x (Q4 hx)
  have hlt : (k : Int) < t.length := by omega
  have i1 : inI ((k : Int) + 1) := by unfold inI; omega
  obtain ⟨c, hc⟩ : ∃ c, c = argL ((Qh1 t).take k) := ⟨_, rfl⟩
  have hcl : c < t.length := by rw [hc]; have := Zbk (l := Qh1 t) (k := k) (by rw [Qey]; exact hk); rwa [Qey] at this
  obtain ⟨y, hy⟩ : ∃ y, t[c]? = some y := ⟨_, Qv hcl⟩
  have hy1 := hT.2.2 y (Q4 hy)
  have hgx := Qj3 hk
  have hgy := Qj3 hcl
  have hst := Qxv hgx hc hgy
  have hgx2 : t.getD k 0 = x := by rw [Qj, hx]; rfl
  have hgy2 : t.getD c 0 = y := by rw [Qj, hy]; rfl
  rw [hgx2, hgy2] at hst
  have hk1 : (k + 1) % t.length < t.length := Xa _ (by omega)
  have hc1 : (c + 1) % t.length < t.length := Xa _ (by omega)
  have hd1 := hD.get (f := (k + 1) % t.length) (c := t.length - 1) ⟨hk1, by omega⟩
  have hd2 := hD.get (f := (c + 1) % t.length) (c := t.length - 1) ⟨hc1, by omega⟩
  have b1 := Qgc hT (f := (k + 1) % t.length) (m := t.length - 1) (by omega)
  have b2 := Qgc hT (f := (c + 1) % t.length) (m := t.length - 1) (by omega)
  have e5 : ∀ k : Nat, ((k : Int) + 1).tmod t.length = (((k + 1) % t.length : Nat) : Int) := fun k => by
   rw [Zm (by omega), Z1]; simp only [Qw, Qy]
  have e6 : (t.length : Int) - 1 = ((t.length - 1 : Nat) : Int) := by omega
  have g4 := k66o t k t.length
  have g5 := k66o t c t.length
  rw [e5, e6] at g4 g5
  have i2 : inI (Dn (seg t ((k + 1) % t.length) (t.length - 1)) + x) := by unfold inI; omega
  have i3 : inI (Dn (seg t ((c + 1) % t.length) (t.length - 1)) + y) := by unfold inI; omega
  have hltc : (c : Int) < t.length := by omega
  rw [hst, ← hc]
  have hm1 := hD.two
  simp only [hlt, hx, i1, sewH, Zb3, Qx4, Qx3, Qx2, Xq, Xt, Qxp, ← ht, g4, g5, hd1, hd2, hy, eq86, i2, i3, hltc, Qag, Qa7, Qbf, Qa8, Qad, Qbe, Qa9, Qa4, Qba, lkpV, keyL, Qch, Qae, Qaj, Qa5, Qa2, Fam.step, Qaf, runX, eff, Qb9, fpR, fpQ, fpV, Qbp, hits, evO, opv, qv, binV, ldV, iadV, curG, Qaw, Qdc, Qaa, Qa6, flat, Qcy, kp, Qa3, Qa0, Qa1, ↓reduceIte, Nat.reduceEqDiff, Nat.reduceAdd, Nat.reduceLT, Nat.reduceLeDiff, Qa, Qc, Q1, Qe, Qh, Ql, Qr, Qq, Qo, Qk, Qn, Qb, Qf, Q5, Qp, Zg, Zb, Zj, vw_i, Qay, Qjx, Zd, beq_self_eq_true, Qi, Qx, Q9, Zk, Q0, Bool.or_true, Zf, Ze, Qd, decide_true, decide_eq_true_eq, true_and, and_true, and_self, forall_const, Q6, Zs, Zl, Zi, Qm, Zc, Qj, Qz, eI, eFig]
  refine ⟨⟨hT, by unfold tame; omega⟩, hm1, ⟨hT, by unfold tame; omega⟩, hm1, fun e => ?_, fun e => ?_⟩
  ·simp only [e, Qw, Qy, ↓reduceIte]
  ·simp only [if_neg e, Qw, Qy]
 ·have hfull : (Qh1 t).take t.length = Qh1 t := Zu (by rw [Qey]; omega)
  obtain ⟨c, hc⟩ : ∃ c, c = Qpg t := ⟨_, rfl⟩
  have hcl : c < t.length := by rw [hc]; exact Quz hT
  have e7 : argL (Qh1 t) = c := hc.symm
  rw [hfull, e7]
  have hc1 : (c + 1) % t.length < t.length := Xa _ (by omega)
  have hd2 := hD.get (f := (c + 1) % t.length) (c := t.length - 1) ⟨hc1, by omega⟩
  have e5 : ((c : Int) + 1).tmod t.length = (((c + 1) % t.length : Nat) : Int) := by
   rw [Zm (by omega), Z1]; simp only [Qw, Qy]
  have e6 : (t.length : Int) - 1 = ((t.length - 1 : Nat) : Int) := by omega
  have g5 := k66o t c t.length
  rw [e5, e6] at g5
  have hltc : (c : Int) < t.length := by omega
  have hrep : (Zt t.length [V.i 0]).flatten = (Zt t.length (0 : Int)).map V.i := by
   rw [List.flatten_replicate_singleton, List.map_replicate]
  have hrest : Dn (seg t ((c + 1) % t.length) (t.length - 1)) = Qry t := by rw [hc]; rfl
  have hput : ((Zt t.length (0 : Int)).map V.i).take c ++ [V.i (Qry t)] ++ ((Zt t.length (0 : Int)).map V.i).drop (c + 1) = ((Zt t.length (0 : Int)).set c (Qry t)).map V.i := by
   have := Qlw c (.i (Qry t)) ((Zt t.length (0 : Int)).map V.i) (by simp; omega)
   rw [List.map_set, ← this]; rfl
  have hm1 := hD.two
  have hin : inI (t.length : Int) := by unfold inI; omega
  have g6 := k68 ⟨t, m, m', (c + 1) % t.length, t.length - 1, (Zt t.length (0 : Int)).set c (Qry t)⟩
  simp only [eA68, eH68, sewH, Qo, Qk] at g6
  simp only [Q2, sewH, Zb3, Qx4, Qx3, Qx2, Xq, Xt, Qxp, g5, hd2, hrest, hrep, eq86, hltc, Xc, hput, g6, Zc, Qa7, Qbf, Qa8, Qad, Qam, Qai, Qa4, Qc5, Qm5, Zcr, ↓Qbl, ↓Qgz, Qba, optL, swH, sw, renV, cutH, lkpV, keyL, Qch, endO, Qae, Qaj, Qa5, Qa2, Fam.step, Qaf, Qbi, Qb4, runX, eff, Qb9, fpR, fpQ, fpV, Qbp, hits, nv, sv, evO, opv, qv, binV, ldV, iadV, curG, Qaw, putAt, V.cells, Qas, Qb3, Qdc, Qaa, Qa6, flat, Qcy, cutV, Qa3, Qat, Qa0, Qa1, ↓reduceIte, Nat.reduceEqDiff, Nat.reduceAdd, Nat.reduceLT, Nat.reduceLeDiff, Qa, Qc, Q3, Q1, Qe, Qh, Ql, Qr, Qq, Qo, Qk, Qn, Qb, Qf, Q5, Qp, Zg, Qu, Q7, Zb, Zj, Zp, rvs, rv1, resV, vw_i, Qay, Qjx, Q2, Zd, beq_self_eq_true, Qi, Qx, Q9, Zr, Zk, Q0, Zv, Bool.or_true, Zf, Ze, Qd, decide_false, true_and, and_true, and_self, forall_const, reduceCtorEq, Q6, Zz, Zs, Zl, Zi, Qm, Zc, Qj, Qz, Xz, eFig]
  refine ⟨⟨Xb _, by omega⟩, ⟨hT, by unfold tame; omega⟩, hm1, by omega, ⟨hT, by unfold tame; omega⟩, ⟨hT, hD, hL, hc1, show t.length - 1 < t.length by omega, show t.length - 1 ≤ 100 by omega, show ((Zt t.length (0 : Int)).set c (Qry t)).length = t.length by simp⟩, fun r hp' h1 => ?_⟩
  have h1 : hp' = eH68 ⟨t, m, m', (c + 1) % t.length, t.length - 1, Qe5 t⟩ := by unfold Qe5; rw [← hc]; exact h1
  subst h1
  have hpl : Qjs f = .tp [.rf 0 0 0 t.length 1, .i 0] := by rw [Qjs, if_neg (by omega), ht]
  have hph : Qhq f = [.cells 0 ((Qe5 t).map V.i)] := by rw [Qhq, if_neg (by omega), ht]
  rw [hpl, hph]
  simp only [eH68, sewH, Qck _ _ (nrD _), Qck _ _ (nrO _), Qah _ _ _ (nrO _), sw, renV, renL, renB, cutB, ↓reduceIte, Nat.reduceEqDiff, Nat.reduceAdd, Nat.reduceLT, Qa, Qc, Qe, Qh, Qg, Qs, Qo, Qk, Qb, Qf, Qu, Q7, Qi, and_self, reduceCtorEq]
end Go.C02
set_option linter.unusedSimpArgs false
set_option linter.unusedVariables false
namespace Go.C02
open Go.Fam Go.Proofs
def maxL : List Int → Int
 | [] => 0
 | x :: l => l.foldl max x
theorem Qwi {l : List Int} (h : l ≠ []) (x : Int) : maxL (l ++ [x]) = max (maxL l) x := by
 cases l with
 | nil => exact absurd rfl h
 | cons a l => simp [maxL]
theorem W59 (l : List Int) (h : l ≠ []) (hl : l.length < 10000000) : Qab Try.prog 59 [.sl 1 (l.map eI)] (.i (maxL l)) := by
 refine Qac Zap hmix Try.func59 cb59 cc59 cs59 cn59 ?_
 have hpos : 0 < l.length := List.length_pos_iff.2 h
 obtain ⟨x0, hx0⟩ : ∃ x, l[0]? = some x := ⟨_, Qv hpos⟩
 have h1 : ¬ ((l.length : Int) < 1) := by omega
 have h2 : (0 : Int) < l.length := by omega
 simp only [rc59, rs59, h1, h2, hx0, Qag, Qa7, Qa8, Qad, Qa9, Qa4, Qae, Qa5, Qa2, Fam.step, Qaf, evO, opv, qv, binV, ldV, iadV, lenV, Qa3, Qa0, Qa1, ↓reduceIte, Nat.reduceEqDiff, Nat.reduceLeDiff, Int.toNat_zero, Int.reduceLE, Qa, Qc, Qe, Qh, Qq, Qp, zipA, Qi, Qd, decide_false, true_and, and_self, reduceCtorEq, Q6, Qm, Qj, Qz, eI]
 refine Qbg (l.length - 1) (fun i => ⟨lkp [(0, .sl 1 (l.map eI)), (3, .i (maxL (l.take (i + 1)))), (4, .i ((i : Int) + 1))], []⟩) ?_ ?_ ?_
 ·have : l.take 1 = [x0] := by rw [show (1 : Nat) = 0 + 1 from rfl, Qar hx0]; rfl
  simp only [Q8, this, maxL, X6, X6, kp, Qa0, Qa1, ↓reduceIte, Nat.reduceEqDiff, Int.reduceAdd, Qa, Qc, Qi, reduceCtorEq]
 ·intro i hi
  obtain ⟨x, hx⟩ : ∃ x, l[i + 1]? = some x := ⟨_, Qv (by omega)⟩
  have hlt : (i : Int) + 1 < l.length := by omega
  have h3 : inI ((i : Int) + 1 + 1) := by unfold inI; omega
  have h4 : (0 : Int) ≤ (i : Int) + 1 := by omega
  have h5 : ((i : Int) + 1).toNat = i + 1 := by omega
  have h6 : l.take (i + 1) ≠ [] := by
   intro e
   have := congrArg List.length e
   rw [Zh, Qh] at this
   omega
  simp only [hlt, h3, h4, h5, hx, Qar hx, Qwi h6, Qw, Qy, Qag, Qa7, Qa8, Qad, Qa9, Qa4, Qae, Qaj, Qa5, Qa2, Fam.step, Qaf, evO, opv, qv, binV, ldV, iadV, lenV, kp, Qa3, Qa0, Qa1, ↓reduceIte, Nat.reduceEqDiff, Nat.reduceLeDiff, Qa, Qc, Qe, Qh, Qq, Qp, Qi, Qd, decide_true, and_self, reduceCtorEq, Q6, Qm, Qj, Qz, eI]
 ·have h3 : ¬ (((l.length - 1 : Nat) : Int) + 1 < l.length) := by omega
  have h4 : l.take (l.length - 1 + 1) = l := Zu (by omega)
  simp only [h3, h4, Qa7, Qa8, Qad, Qam, Qai, Qa4, Qae, Qaj, Qa5, Qa2, Fam.step, Qaf, evO, opv, qv, binV, lenV, Qa3, Qa0, Qa1, ↓reduceIte, Nat.reduceEqDiff, Qa, Qc, endQ, rvs, rv1, resV, vw_i, Qd, decide_false, and_self, reduceCtorEq, Qm]
def s59 : List V → Prop × V | [.sl 1 r] => (r = (r.map dI).map eI ∧ r ≠ [] ∧ r.length < 10000000, .i (maxL (r.map dI))) | _ => (False, .u)
theorem Zcx (vs : List V) (h : (s59 vs).1) : Qab Try.prog 59 vs (s59 vs).2 := by
 unfold s59 at h ⊢
 split at h
 ·rename_i r
  obtain ⟨h1, h2, h3⟩ := h
  have := W59 (r.map dI) (by simpa using h2) (by simpa using h3)
  rw [← h1] at this
  exact this
 ·exact h.elim
def Qz0 (f : Fig) : V := if Qao f ≠ 0 then .tp [.sl 1 [], .i (Qao f)] else .tp [.sl 1 ((Qe5 f.times).map eI), .i 0]
theorem Quy (l : List Int) : Qd8 1 (l.map V.i) 0 l.length = l.map eI := by
 have := Qdp l
 have e : (l.map eI).flatten = l.map V.i := by
  clear this
  induction l with
  | nil => rfl
  | cons a l ih => rw [Qa, List.flatten_cons, ih]; rfl
 rwa [e] at this
theorem Qz1 (f : Fig) : vw (Qhq f) 8 (Qjs f) = Qz0 f := by
 unfold Qhq Qjs Qz0
 by_cases h : Qao f = 0
 ·have e := Quy (Qe5 f.times)
  rw [Qd3] at e
  simp only [h, ne_eq, not_true_eq_false, if_false]
  simp only [e, Qm, Qd3, Xc, Zw, Qi, ↓reduceIte, Qa, Qc, Qb, vw_i, Qcg, Qdw, Qi, and_self, Qm]
  simp only [eI, List.map_map, Function.comp_def, Qa, Qc]
  rfl
 ·simp only [h, ne_eq, not_false_eq_true, if_true]
  rfl
theorem W35p (f : Fig) : Qab Try.prog 35 [.ag (eFig f)] (Qz0 f) := by
 have := (W35 f).toPure
 rwa [Qz1] at this
def decF : List V → Fig := fun vs => match vs with | [.ag r] => dFig r | _ => dFig []
def s35 : List V → Prop × V := fnG (fun f => [.ag (eFig f)]) decF (fun _ => True) (fun f => f) Qz0
def s35o : List V → Prop × V := fnG (fun f => [.ag (eFig f)]) decF (fun _ => True) (fun f => f) (fun f => .tp [Qjs f, .tp ((Qhq f).map bV)])
noncomputable def H14 : Gam := ((H13.ext 59 s59).ext 35 s35).ext 1000035 s35o
theorem Qyy (f : Fig) : ((Qhq f).map bV).map vB = Qhq f := by
 unfold Qhq
 split
 ·rfl
 ·simp [Qho]
theorem Zaq : GOk Try.prog H14 := by
 have k1 := Zap.ext (f := 59) (r := s59) (fun a w => Try.call59 a w) Zcx
 have k2 := k1.ext (f := 35) (r := s35) (fun a w => Try.call35 a w) (Qau fun f _ => W35p f)
 refine k2.extO (f := 35) (r := s35o) (fun a w => Try.call35 a w) fun vs v bs h e => ?_
 obtain ⟨h1, _⟩ := h
 have h1 : [V.ag (eFig (decF vs))] = vs := h1
 have e : V.tp [Qjs (decF vs), .tp ((Qhq (decF vs)).map bV)] = V.tp [v, .tp bs] := e
 simp only [V.tp.injEq, Je.injEq, and_true] at e
 obtain ⟨rfl, rfl⟩ := e
 rw [Qyy, ← h1]
 have := W35 (decF vs)
 rw [h1]
 rw [h1] at this
 exact this
theorem k35o (f : Fig) : H14 1000035 [.ag (eFig f)] = (True, .tp [Qjs f, .tp ((Qhq f).map bV)]) :=
 (show H14 1000035 _ = s35o [.ag (eFig f)] from rfl).trans (Qb1 _ (Qcw _))
theorem k59 (l : List Int) : H14 59 [.sl 1 (l.map eI)] = (l ≠ [] ∧ l.length < 10000000, .i (maxL l)) := by
 refine (show H14 59 _ = s59 [.sl 1 (l.map eI)] from rfl).trans ?_
 simp [s59, Qeu Qfc]
def Qig (t b : List Int) : List Int := List.zipWith (· + ·) b t
def Qmj (f : Fig) : Int × Int := if Qao f ≠ 0 then (0, Qao f) else (maxL (Qig f.times (Qe5 f.times)), 0)
theorem Qzu {t : List Int} (h : OkT t) : ∀ (k f c : Nat) (out : List Int), c ≤ 16 → (∀ x ∈ out, 0 ≤ x ∧ x ≤ 1584) → ∀ x ∈ begF k t f c out, 0 ≤ x ∧ x ≤ 1584 := by
 intro k
 induction k with
 | zero => intro f c out _ ho; exact ho
 | succ k ih =>
  intro f c out hc ho
  simp only [begF]
  split
  ·exact ho
  ·rename_i h0
   have hl := Qo6 (t := t) (f := f) h0
   refine ih _ _ _ (by omega) (ih _ _ _ (by omega) fun x hx => ?_)
   rcases Xn hx with hx | rfl
   ·exact ho x hx
   ·have d1 := Qgc h (f := f) (m := Qc9 (seg t f c)) (by omega)
    have d2 := Qgc h (f := (f + Qc9 (seg t f c) + 1) % t.length) (m := c - Qc9 (seg t f c) - 1) (by omega)
    omega
theorem Qyz {t : List Int} (h : OkT t) : ∀ x ∈ Qe5 t, 0 ≤ x ∧ x ≤ 1584 := by
 unfold Qe5 begN
 refine Qzu h _ _ _ _ (by have := h.2.1; omega) fun x hx => ?_
 rcases Xn hx with hx | rfl
 ·have := (List.mem_replicate.1 hx).2; omega
 ·exact Qgc h (by have := h.2.1; omega)
theorem Qgp {t b : List Int} (h : b.length = t.length) : (Qig t b).length = t.length := by simp [Qig, h]
theorem Qvj {t b : List Int} {k : Nat} {x y : Int} (hx : t[k]? = some x) (hy : b[k]? = some y) : (Qig t b)[k]? = some (y + x) := by simp [Qig, List.getElem?_zipWith, hx, hy]
theorem W26 (f : Fig) : Qab Try.prog 26 [.ag (eFig f)] (.tp [.i (Qmj f).1, .i (Qmj f).2]) := by
 refine Qac Zaq hmix Try.func26 N.cb26 N.cc26 N.cs26 N.cn26 ?_
 have g1 := k35o f
 unfold eFig at g1
 by_cases h : Qao f = 0
 ·have hpl : Qjs f = .tp [.rf 0 0 0 f.times.length 1, .i 0] := by rw [Qjs, if_neg (by omega)]
  have hph : Qhq f = [.cells 0 ((Qe5 f.times).map V.i)] := by rw [Qhq, if_neg (by omega)]
  rw [hpl, hph] at g1
  have hT := Qwv h
  obtain ⟨t, ht⟩ : ∃ t, t = f.times := ⟨_, rfl⟩
  simp only [← ht] at g1 hT ⊢
  have hlen := hT.1
  have hlen2 := hT.2.1
  have nrO : ∀ o : List Int, Qa6 (o.map V.i) = false := fun o => by induction o <;> simp_all [Qa6, Qaa]
  simp only [N.rc26, N.rs26, g1, ← ht, Qez _ _ (nrO _), Qag, Qa7, Qa8, Qad, Qa9, Qa4, Qmk, ocV, nidQ, plO, plQ, plB, Qf2, Qj2, Qgg, shV, shL, shB, Qho, Qae, Qa5, Qa2, Fam.step, Qaf, Qb4, evO, opv, qv, binV, ldV, lenV, V.cells, Qas, Qaa, Qa6, Qa3, Qa0, Qa1, ↓reduceIte, Nat.reduceEqDiff, Nat.reduceAdd, Nat.reduceLT, Nat.reduceLeDiff, Qa, Qc, Q3, Q1, Qe, Qh, Ql, Qr, Qg, Qt, Qq, Qk, Qn, Qb, Qf, Qp, vw_i, Qay, Qaz, zipA, Qi, Xd, Qx, Q9, Zr, Zk, Q0, Zf, Qd, decide_true, true_and, and_self, Qm, eFig]
  refine Qbg t.length (fun k => ⟨lkp [(4, .rf 0 0 0 t.length 1), (17, .sl 1 (t.map eI)), (18, .i t.length), (19, .i k)], [.cells 0 ((((Qig t (Qe5 t)).take k) ++ (Qe5 t).drop k).map V.i)]⟩) ?_ ?_ ?_
  ·simp only [Q8, kp, Qa0, Qa1, ↓reduceIte, Nat.reduceEqDiff, Qa, Qc, Qr, Qs, Qk]
  ·intro k hk
   obtain ⟨x, hx⟩ : ∃ x, t[k]? = some x := ⟨_, Qv hk⟩
   obtain ⟨y, hy⟩ : ∃ y, (Qe5 t)[k]? = some y := ⟨_, Qv (by rw [Qd3]; exact hk)⟩
   have hx1 := hT.2.2 x (Q4 hx)
   have hy1 := Qyz hT y (Q4 hy)
   have hlt : (k : Int) < t.length := by omega
   have i1 : inI ((k : Int) + 1) := by unfold inI; omega
   have i2 : inI (y + x) := by unfold inI; omega
   obtain ⟨pre, hpre⟩ : ∃ pre, pre = ((Qig t (Qe5 t)).take k).map V.i := ⟨_, rfl⟩
   obtain ⟨post, hpost⟩ : ∃ post, post = ((Qe5 t).drop (k + 1)).map V.i := ⟨_, rfl⟩
   have hpl : pre.length = k := by rw [hpre, Qm, Zh, Qgp (Qd3 t)]; omega
   have e1 : (((Qig t (Qe5 t)).take k) ++ (Qe5 t).drop k).map V.i = pre ++ V.i y :: post := by
    rw [Xh, ← hpre, List.drop_eq_getElem_cons (by rw [Qd3]; exact hk), Qa, ← hpost]
    rw [Qv (by rw [Qd3]; exact hk)] at hy
    rw [X2.inj hy]
   have e2 : (((Qig t (Qe5 t)).take (k + 1)) ++ (Qe5 t).drop (k + 1)).map V.i = pre ++ V.i (y + x) :: post := by
    rw [Qar (Qvj hx hy), Xh, Xh, ← hpre, ← hpost]; simp
   rw [e1, e2]
   have hget : ∀ x : V, (pre ++ x :: post)[k]? = some x := fun x => by rw [List.getElem?_append_right (by omega), hpl, Nat.sub_self]; rfl
   have hdrop : ∀ x : V, List.drop k (pre ++ x :: post) = x :: post := fun x => by simp [hpl]
   have htake : ∀ x : V, List.take k (pre ++ x :: post) = pre := fun x => List.take_left' hpl
   have hdrop1 : ∀ x : V, List.drop (k + 1) (pre ++ x :: post) = post := fun x => by simp [List.drop_append, hpl]
   simp only [hlt, hx, i1, Xc, hdrop, htake, hdrop1, i2, Qw, Qy, Jc, Z2, hpl, Qag, Qa7, Qa8, Qad, Qa9, Qa4, putB, Qae, Qaj, Qa5, Qa2, Fam.step, Qaf, Qbi, Qb4, putB, nv, sv, evO, opv, qv, binV, ldV, iadV, putAt, V.cells, Qas, Qb3, kp, Qa3, Qat, Qa0, Qa1, ↓reduceIte, Nat.reduceEqDiff, Nat.reduceLeDiff, Qa, Qc, Q3, Q1, Qe, Qh, Qq, Qo, Qk, Qb, Qp, Qu, Zd, Qi, Qx, Qd, decide_true, true_and, and_true, and_self, Q6, Qm, Zc, Qj, Qz, eI]
   omega
  ·have e3 : (((Qig t (Qe5 t)).take t.length) ++ (Qe5 t).drop t.length) = Qig t (Qe5 t) := by
    rw [Zu (by rw [Qgp (Qd3 t)]; omega), List.drop_of_length_le (by rw [Qd3]; omega), Qn]
   rw [e3]
   have g2 := k59 (Qig t (Qe5 t))
   have hc := Quy (Qig t (Qe5 t))
   rw [Qgp (Qd3 t)] at g2 hc
   simp only [Q2, Xc, Qm, Qgp (Qd3 t), Zw, hc, vw_I, g2, Qmj, h, ← ht, Qa7, Qa8, Qad, Qam, Qai, Qa4, Qae, Qaj, Qa5, Qa2, Fam.step, Qaf, evO, opv, qv, binV, ldV, Qaw, Qaa, Qa6, flat, Qa3, Qa0, Qa1, ↓reduceIte, Nat.reduceEqDiff, Nat.reduceLT, Qa, Qc, Qn, Qb, endQ, rvs, rv1, resV, vw_i, Qcg, Qdw, Q2, Qi, Q0, Qd, decide_false, true_and, and_true, and_self, forall_const, not_true_eq_false, ne_eq, Qm]
   exact ⟨fun e => by have := Qgp (Qd3 t); rw [e] at this; simp at this; omega, by omega⟩
 ·have hpl : Qjs f = .tp [.z 1, .i (Qao f)] := by rw [Qjs, if_pos (by omega)]
  have hph : Qhq f = [] := by rw [Qhq, if_pos (by omega)]
  rw [hpl, hph] at g1
  simp only [N.rc26, N.rs26, g1, h, Qmj, Qa7, Qa8, Qad, Qai, Qa4, Qmk, ocV, nidQ, plO, plB, Qf2, Qj2, shV, shL, Qae, Qa5, Qa2, Fam.step, Qaf, Qb4, evO, opv, qv, binV, ldV, V.cells, Qas, Qaa, Qa6, Qa3, Qa0, Qa1, ↓reduceIte, Nat.reduceEqDiff, Nat.reduceAdd, Nat.reduceLT, Nat.reduceLeDiff, Qa, Qc, Q1, Qe, Qh, Qg, Qt, Qn, Qb, Qf, Q5, Qp, endQ, rvs, rv1, resV, vw_i, Qay, Qaz, Qcg, zipA, Qi, Qx, Q0, Zf, Ze, decide_false, and_self, not_false_eq_true, ne_eq, eFig]
end Go.C02
set_option linter.unusedSimpArgs false
set_option linter.unusedVariables false
namespace Go.C02
open Go.Fam Go.Proofs
theorem q58 (d : Dome) : H14 58 [.ag (Qal d)] = (True, .i (Qcl d)) := gR39 d.bolts d.gores d.loss d.rounds d.widths d.slope
theorem q52 (l : List Int) (m lo up : Int) : H14 52 [.sl 1 (l.map eI), .i m, .i lo, .i up] = (l.length < 10000000, .b (allN l m lo up)) := h52 l m lo up
theorem Qnm (l : List Int) (m : Nat) (lo up : Int) : allN l m lo up = (decide (l.length = m) && l.all fun x => Qak x lo up) := by
 unfold allN
 rw [Bool.and_comm]
 simp [Xi]
theorem W25 (f : Fig) (hs : f.starts.length < 10000000) (ht : f.times.length < 10000000) : Qab Try.prog 25 [.ag (eFig f)] (.i (Qao f)) := by
 refine Qac Zaq hmix Try.func25 cb25 cc25 cs25 cn25 ?_
 have g1 := q58 f.dome
 unfold Qal at g1
 simp only [rc25, rs25, g1, q52, Qag, Qa7, Qa8, Qad, Qbe, Qai, Qa4, Qae, Qa5, Qa2, Fam.step, Qaf, Qbz, Qbq, ug, evO, opv, qv, Qb2, binV, ldV, lenV, Qaw, V.cells, Qas, Qaa, Qa6, flat, Qa3, Qa0, Qa1, ↓reduceIte, Nat.reduceEqDiff, Nat.reduceAdd, Nat.reduceLT, Nat.reduceLeDiff, Int.reduceEq, Qa, Qc, Q3, Q1, Qe, Qh, Ql, Qr, Qg, Qs, Qq, Qn, endQ, rvs, rv1, resV, vw_i, Qay, Qaz, zipA, Qi, V.i.injEq, Qx, Q9, Q0, Qd, decide_eq_true_eq, decide_eq_false_iff_not, true_and, and_true, and_self, implies_true, not_false_eq_true, ne_eq, beq_false, Zx, Qf1, Bool.decide_eq_true, imp_self, Qm, Xf, Classical.not_not, eFig]
 refine ⟨fun h => by simp [Qao, h], fun h => ?_⟩
 have key : (decide (f.period < 1) || decide (60 < f.period) || decide (f.run < 0) || decide (2000 < f.run) || decide (f.near < 0) || decide (f.period.tdiv 2 < f.near) || !allN f.starts f.dome.gores.length 0 (f.period - 1) || !allN f.times f.dome.gores.length 1 99) = !Qdz f := by
  unfold Qdz
  rw [Qnm, Qnm]
  generalize (f.starts.all fun x => Qak x 0 (f.period - 1)) = A
  generalize (f.times.all fun x => Qak x 1 99) = B
  unfold Qak
  rw [Bool.eq_iff_iff]
  cases A <;> cases B <;> simp <;> omega
 rw [key]
 refine ⟨fun e => ⟨e, ?_⟩, fun e => ⟨e, ?_⟩, fun e => ⟨e, hs⟩, fun e => ⟨e, ht⟩, fun e => ?_, fun e => ?_⟩
 ·simp only [Xg, decide_eq_false_iff_not] at e
  rw [Xm (by omega)]
  unfold inI; omega
 ·simp only [Xg, decide_eq_false_iff_not] at e
  unfold inI; omega
 ·simp only [Zx] at e
  simp [Qao, h, e]
 ·simp only [Bool.not_eq_false'] at e
  simp [Qao, h, e]
theorem q86 (d : Dome) (n : Int) : H14 86 [.ag (Qal d), .i n] = (d.bolts.length < 1000, eLE (Qcc d n)) :=
 (show H14 86 _ = r36 (eDN (d, n)) from rfl).trans (Qb1 _ (Qy5 _))
noncomputable def H15 : Gam := H14.ext 25 (fnG (fun f => [.ag (eFig f)]) decF (fun f => f.starts.length < 10000000 ∧ f.times.length < 10000000) Qao .i)
theorem Zar : GOk Try.prog H15 := Zaq.ext (f := 25) (fun a w => Try.call25 a w) (Qau fun f h => W25 f h.1 h.2)
theorem q25 (f : Fig) : H15 25 [.ag (eFig f)] = (f.starts.length < 10000000 ∧ f.times.length < 10000000, .i (Qao f)) :=
 (show H15 25 _ = fnG (fun f => [.ag (eFig f)]) decF (fun f => f.starts.length < 10000000 ∧ f.times.length < 10000000) Qao .i [.ag (eFig f)] from rfl).trans (Qb1 _ (Qcw _))
theorem q86' (d : Dome) (n : Int) : H15 86 [.ag (Qal d), .i n] = (d.bolts.length < 1000, eLE (Qcc d n)) := q86 d n
theorem Zd8 {d : Dome} (h : Valid d) : Qbx d 0 = true := by
 have := h.nb
 have hg := h.ng
 obtain ⟨g, hgm⟩ : ∃ g, g ∈ d.gores := by
  cases hd : d.gores with
  | nil => rw [hd] at hg; simp at hg
  | cons a l => exact ⟨a, by simp⟩
 have := h.gores g hgm
 simp only [Qbx, Qak, Xr, decide_eq_true_eq]
 omega
theorem W61 (f : Fig) (seam : Int) (hs : f.starts.length < 10000000) (ht : f.times.length < 10000000) : Qab Try.prog 61 [.ag (eFig f), .i seam] (.i (Qc2 f (Qak seam 0 (f.dome.gores.length - 1)))) := by
 refine Qac Zar hmix Try.func61 cb61 cc61 cs61 cn61 ?_
 have g1 := q25 f
 have g2 := q86' f.dome 0
 unfold eFig at g1
 unfold Qal at g2
 simp only [rc61, rs61, g1, Qag, Qa7, Qa8, Qad, Qbe, Qai, Qa4, Qae, Qa5, Qa2, Fam.step, Qaf, Qbz, Qbq, ug, evO, opv, qv, Qb2, binV, ldV, lenV, Qaw, V.cells, Qas, Qaa, Qa6, flat, Qa3, Qa0, Qa1, ↓reduceIte, Nat.reduceEqDiff, Nat.reduceAdd, Nat.reduceLT, Nat.reduceLeDiff, Qa, Qc, Q3, Q1, Qe, Qh, Ql, Qr, Qg, Qs, Qt, Qq, Qn, endQ, rvs, rv1, resV, vw_i, Qay, Qaz, zipA, Qi, V.i.injEq, Qx, Q9, Q0, Qd, decide_eq_true_eq, decide_eq_false_iff_not, true_and, and_true, and_self, false_implies, implies_true, reduceCtorEq, beq_false, Zx, Qf1, imp_self, Qm, Xf, Classical.not_not, eFig]
 refine ⟨⟨hs, ht⟩, fun h => by simp [Qc2, h], fun h => ?_⟩
 have hv := Qbs h
 have hn := hv.ns
 have hb := Zd8 hv.dome
 rw [Qcc, hb] at g2
 refine ⟨fun e => ?_, fun e => ?_⟩
 ·have : Qak seam 0 (f.dome.gores.length - 1) = false := by
   simp only [Bool.or_eq_true, decide_eq_true_eq] at e
   simp only [Qak, Xx, decide_eq_false_iff_not]; omega
  simp [Qc2, h, this]
 ·have : Qak seam 0 (f.dome.gores.length - 1) = true := by
   simp only [Xg, decide_eq_false_iff_not] at e
   simp only [Qak, Xr, decide_eq_true_eq]; omega
  have hnb := hv.dome.nb
  by_cases hp : Qbc f.dome true = 0
  ·rw [if_pos hp] at g2
   simp only [g2, eLE, Nat.reduceAdd, Nat.reduceLT, Qe, Qh, Qb, Qf, Qp, vw_i, Qi, V.i.injEq, true_and]
   simp [Qc2, h, this, hp]; omega
  ·rw [if_neg hp] at g2
   simp only [g2, eLE, Nat.reduceAdd, Nat.reduceLT, Qc, Qe, Qh, Qb, Qf, Qp, vw_i, Qi, V.i.injEq, true_and]
   simp [Qc2, h, this]; omega
def Qok (f : Fig) (a b : Int) : Bool := decide (farN f.period a b ≤ f.near)
theorem q71 (a n : Int) : H15 71 [.i a, .i n] = (0 < n ∧ n ≤ 1000000, .i (modN a n)) := rfl
theorem W73 (f : Fig) (a b : Int) (hp : 0 < f.period ∧ f.period ≤ 1000000) (ha : tame 100000000 a) (hb : tame 100000000 b) : Qab Try.prog 73 [.ag (eFig f), .i a, .i b] (.b (Qok f a b)) := by
 refine Qac Zar hmix Try.func73 cb73 cc73 cs73 cn73 ?_
 unfold tame at ha hb
 simp only [rc73, rs73, q71, Qa7, Qbf, Qa8, Qai, Qa4, Qba, Qae, Qa5, Qa2, Fam.step, Qaf, runX, eff, Qb9, fpR, fpQ, fpV, Qbp, hits, evO, opv, qv, binV, ldV, Qaw, V.cells, Qas, Qaa, Qa6, flat, Qa3, Qa0, Qa1, ↓reduceIte, Nat.reduceEqDiff, Nat.reduceAdd, Nat.reduceLT, Nat.reduceLeDiff, Qa, Qc, Q1, Qe, Qh, Ql, Qr, Qq, Qo, Qk, Qn, Q5, Zg, Zb, Zj, endQ, rvs, rv1, resV, vw_i, vw_b, Qay, Qaz, zipA, Qi, V.b.injEq, Qx, Q9, Zk, Q0, Zf, Ze, Qd, true_and, and_true, and_self, implies_true, reduceCtorEq, Zs, Zi, Qj, eFig]
 exact ⟨by unfold inI; omega, hp, by unfold inI; omega, hp, rfl⟩
def eFNN (a : Fig × Int × Int) : List V := [.ag (eFig a.1), .i a.2.1, .i a.2.2]
def dFNN : List V → Fig × Int × Int | [.ag r, .i n, .i m] => (dFig r, n, m) | _ => (dFig [], 0, 0)
theorem Zbx (a : Fig × Int × Int) : dFNN (eFNN a) = a := by obtain ⟨r, n, m⟩ := a; simp [dFNN, eFNN, Qcw]
def eFN (a : Fig × Int) : List V := [.ag (eFig a.1), .i a.2]
def dFN : List V → Fig × Int | [.ag r, .i n] => (dFig r, n) | _ => (dFig [], 0)
theorem Zby (a : Fig × Int) : dFN (eFN a) = a := by obtain ⟨r, n⟩ := a; simp [dFN, eFN, Qcw]
def s73 : List V → Prop × V := fnG eFNN dFNN (fun a => (0 < a.1.period ∧ a.1.period ≤ 1000000) ∧ tame 100000000 a.2.1 ∧ tame 100000000 a.2.2) (fun a => Qok a.1 a.2.1 a.2.2) .b
def s61 : List V → Prop × V := fnG eFN dFN (fun a => a.1.starts.length < 10000000 ∧ a.1.times.length < 10000000) (fun a => Qc2 a.1 (Qak a.2 0 (a.1.dome.gores.length - 1))) .i
noncomputable def H16 : Gam := (H15.ext 61 s61).ext 73 s73
theorem Zch : GOk Try.prog H16 := by
 have k1 := Zar.ext (f := 61) (r := s61) (fun a w => Try.call61 a w) (Qau fun a h => W61 a.1 a.2 h.1 h.2)
 exact k1.ext (f := 73) (r := s73) (fun a w => Try.call73 a w) (Qau fun a h => W73 a.1 a.2.1 a.2.2 h.1 h.2.1 h.2.2)
theorem q61 (f : Fig) (n : Int) : H16 61 [.ag (eFig f), .i n] = (f.starts.length < 10000000 ∧ f.times.length < 10000000, .i (Qc2 f (Qak n 0 (f.dome.gores.length - 1)))) :=
 (show H16 61 _ = s61 (eFN (f, n)) from rfl).trans (Qb1 _ (Zby _))
theorem q73 (f : Fig) (a b : Int) : H16 73 [.ag (eFig f), .i a, .i b] = ((0 < f.period ∧ f.period ≤ 1000000) ∧ tame 100000000 a ∧ tame 100000000 b, .b (Qok f a b)) :=
 (show H16 73 _ = s73 (eFNN (f, a, b)) from rfl).trans (Qb1 _ (Zbx _))
theorem q71' (a n : Int) : H16 71 [.i a, .i n] = (0 < n ∧ n ≤ 1000000, .i (modN a n)) := rfl
theorem q72' (l s : Int) : H16 72 [.i l, .i s] = (tame 1000000 l ∧ tame 1000000 s, .i (pull l s)) := rfl
def atL (l : List Int) (k : Int) : Int := l[k.toNat]?.getD 0
def Qg4 (f : Fig) (starts : List Int) (seam s : Int) : Bool := Qok f (modN (atL starts seam + pull f.run s) f.period) (atL starts ((seam + 1).tmod starts.length))
theorem Qur {l : List Int} {k : Int} (h : 0 ≤ k ∧ k < l.length) : l[k.toNat]? = some (atL l k) := by
 unfold atL
 rw [Qv (show k.toNat < l.length by omega)]; rfl
structure Ok39 (f : Fig) (l : List Int) (seam s : Int) : Prop where
 p : 1 ≤ f.period ∧ f.period ≤ 60
 run : 0 ≤ f.run ∧ f.run ≤ 2000
 s : 0 ≤ s ∧ s ≤ 1000
 seam : 0 ≤ seam ∧ seam < l.length
 len : l.length ≤ 100000
 l : ∀ x ∈ l, tame 1000000 x
theorem Qjt {l s : Int} (hl : 0 ≤ l ∧ l ≤ 2000) (hs : 0 ≤ s ∧ s ≤ 1000) : 0 ≤ pull l s ∧ pull l s ≤ 4000 := by
 have m1 : 0 ≤ l * (1000 + s) := Int.mul_nonneg hl.1 (by omega)
 have m2 : l * (1000 + s) ≤ 2000 * 2000 := X1 hl.2 (by omega) (by omega) (by omega)
 unfold pull
 rw [Xm m1]
 omega
theorem W39 (f : Fig) (l : List Int) (seam s : Int) (h : Ok39 f l seam s) : Qab Try.prog 39 [.ag (eFig f), .sl 1 (l.map eI), .i seam, .i s] (.b (Qg4 f l seam s)) := by
 refine Qac Zch hmix Try.func39 cb39 cc39 cs39 cn39 ?_
 have hn := Qwr h.seam
 have e1 := Qur h.seam
 have e2 := Qur hn
 have b1 := h.l _ (Q4 e1)
 have b2 := h.l _ (Q4 e2)
 have b3 := Qjt h.run h.s
 have hp := h.p
 have hl := h.len
 have hsm := h.seam
 have hm := Qfg (a := atL l seam + pull f.run s) (p := f.period) (by omega)
 unfold tame at b1 b2
 have g1 := q73 f (modN (atL l seam + pull f.run s) f.period) (atL l ((seam + 1).tmod l.length))
 unfold eFig at g1
 simp only [rc39, rs39, q71', q72', e1, e2, h.seam.1, h.seam.2, hn.1, hn.2, g1, Qa7, Qbf, Qa8, Qai, Qa4, Qba, Qae, Qa5, Qa2, Fam.step, Qaf, runX, eff, Qb9, fpR, fpQ, fpV, Qbp, hits, evO, opv, qv, binV, ldV, iadV, lenV, Qaw, V.cells, Qas, Qaa, Qa6, flat, Qa3, Qa0, Qa1, ↓reduceIte, Nat.reduceEqDiff, Nat.reduceAdd, Nat.reduceLT, Nat.reduceLeDiff, Qa, Qc, Q1, Qe, Qh, Ql, Qr, Qg, Qt, Qq, Qo, Qk, Qn, Q5, Qp, Zg, Zb, Zj, endQ, rvs, rv1, resV, vw_i, vw_b, Qay, Qaz, zipA, Qi, V.b.injEq, Qx, Q9, Zk, Q0, Zf, Ze, Qd, true_and, and_true, and_self, implies_true, reduceCtorEq, ne_eq, Q6, Zs, Zi, Qm, Qj, Qz, eI, eFig]
 have hr := h.run
 have hs := h.s
 exact ⟨⟨by unfold tame; omega, by unfold tame; omega⟩, by unfold inI; omega, by omega, by unfold inI; omega, by omega, ⟨by omega, by unfold tame; omega, by unfold tame; omega⟩, rfl⟩
end Go.C02
