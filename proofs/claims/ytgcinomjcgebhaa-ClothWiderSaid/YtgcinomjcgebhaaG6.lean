import Derived.Test.YtgcinomjcgebhaaG5
import Derived.Test.YtgcinomjcgebhaaG3
import Derived.Test.YtgcinomjcgebhaaG2
import Derived.Test.YtgcinomjcgebhaaChecked
set_option linter.all false
set_option linter.unusedSimpArgs false
set_option linter.unusedVariables false
namespace Go.C02
open Go.Fam Go.Proofs
theorem gN69 (l s : Int) : GN 69 [.i l, .i s] = (tame 1000000 l ∧ tame 1000000 s, .i (pull l s)) := rfl
def canAt (t : Tent) (b : Int) : List Int := (t.can[b.toNat]?).getD []
structure Ok68 (t : Tent) (w : Int) : Prop where
  w : 0 ≤ w - 2 * t.dome.loss ∧ w - 2 * t.dome.loss ≤ 2000
  loss : 0 ≤ t.dome.loss ∧ t.dome.loss ≤ 20
  ng : t.dome.gores.length ≤ 16
  gores : ∀ g ∈ t.dome.gores, 0 ≤ g ∧ g < t.can.length
  nc : t.can.length ≤ 4
  can : ∀ l ∈ t.can, l.length ≤ 61 ∧ ∀ s ∈ l, 0 ≤ s ∧ s ≤ 60
theorem pull_range {l s : Int} (hl : 0 ≤ l ∧ l ≤ 2000) (hs : 0 ≤ s ∧ s ≤ 60) : 0 ≤ pull l s ∧ pull l s ≤ 2120 := by
  have h1 : 0 ≤ l * (1000 + s) := Int.mul_nonneg hl.1 (by omega)
  have h2 : l * (1000 + s) ≤ 2000 * 1060 := Int.mul_le_mul hl.2 (by omega) (by omega) (by decide)
  unfold pull
  rw [Int.tdiv_eq_ediv_of_nonneg h1]
  omega
/-- what one bolt's gores add -/
def part (t : Tent) (w b s : Int) : Int := (t.dome.gores.count b : Int) * pull (w - 2 * t.dome.loss) s
/-- the bolt of an entry -/
def gk (t : Tent) (j : Nat) : Int := ((cmKs t.dome.gores)[j]?.getD []).headD 0
def psum (t : Tent) (w : Int) (c : Int → Int) (pre : List Nat) : Int := (pre.map fun j => part t w (gk t j) (c (gk t j))).sum
structure Inv68 (t : Tent) (w : Int) (pre : List Nat) (xs : List Int) : Prop where
  len : xs.length ≤ 61 ^ pre.length
  rng : ∀ x ∈ xs, 0 ≤ x ∧ x ≤ 33920 * (pre.length : Int)
  mem : ∀ x, x ∈ xs ↔ ∃ c : Int → Int, (∀ j ∈ pre, c (gk t j) ∈ canAt t (gk t j)) ∧ x = psum t w c pre
def ys68 (t : Tent) (w b : Int) (xs : List Int) (pre2 : List Nat) : List Int :=
  pre2.flatMap fun j => (canAt t b).map fun s => ((cmKs xs)[j]?.getD []).headD 0 + part t w b s
def R68 (t : Tent) (w : Int) (r : V) (hp : List Blk) : Prop := ∃ xs : List Int, r = .mp 0 0 ∧ hp = [cm xs] ∧ Inv68 t w (List.range (cmKs t.dome.gores).length) xs
theorem inv68_nil (t : Tent) (w : Int) : Inv68 t w [] [0] :=
  ⟨by simp, by simp, fun x => by simp [psum]⟩
theorem psum_congr {t : Tent} {w : Int} {c c' : Int → Int} : ∀ {pre : List Nat}, (∀ j ∈ pre, c (gk t j) = c' (gk t j)) → psum t w c pre = psum t w c' pre
  | [], _ => rfl
  | j :: pre, h => by
    have h1 := psum_congr (t := t) (w := w) (pre := pre) fun i hi => h i (by simp [hi])
    have h2 := h j (by simp)
    simp only [psum, List.map_cons, List.sum_cons] at h1 ⊢
    rw [h1, h2]
theorem psum_snoc (t : Tent) (w : Int) (c : Int → Int) (pre : List Nat) (j : Nat) : psum t w c (pre ++ [j]) = psum t w c pre + part t w (gk t j) (c (gk t j)) := by simp [psum]
theorem gk_inj {t : Tent} {i j : Nat} (hi : i < (cmKs t.dome.gores).length) (hj : j < (cmKs t.dome.gores).length) (h : gk t i = gk t j) : i = j := by
  obtain ⟨x, _, hx, _⟩ := cmKs_get hi
  obtain ⟨y, _, hy, _⟩ := cmKs_get hj
  simp only [gk, hx, hy, Option.getD_some, List.headD_cons] at h
  subst h
  have h1 := (cmKs_nodup t.dome.gores).idxOf_getElem i hi
  have h2 := (cmKs_nodup t.dome.gores).idxOf_getElem j hj
  rw [List.getElem?_eq_getElem hi] at hx
  rw [List.getElem?_eq_getElem hj] at hy
  rw [Option.some.inj hx] at h1
  rw [Option.some.inj hy] at h2
  rw [← h1, h2]
theorem perm_sum {l l' : List Int} (h : l.Perm l') : l.sum = l'.sum := by
  induction h with
  | nil => rfl
  | cons x _ ih => rw [List.sum_cons, List.sum_cons, ih]
  | swap x y l => simp only [List.sum_cons]; omega
  | trans _ _ h1 h2 => rw [h1, h2]
theorem nodup_map_on {α β : Type} {f : α → β} {l : List α} (h : ∀ a ∈ l, ∀ b ∈ l, f a = f b → a = b) (hn : l.Nodup) : (l.map f).Nodup := by
  unfold List.Nodup at *
  rw [List.pairwise_map]
  exact hn.imp_of_mem fun ha hb hab e => hab (h _ ha _ hb e)
theorem part_range {t : Tent} {w : Int} (h : Ok68 t w) {b s : Int} (hs : 0 ≤ s ∧ s ≤ 60) : 0 ≤ part t w b s ∧ part t w b s ≤ 33920 := by
  have h1 := pull_range h.w hs
  have h2 : t.dome.gores.count b ≤ 16 := Nat.le_trans List.count_le_length h.ng
  unfold part
  refine ⟨Int.mul_nonneg (by omega) h1.1, ?_⟩
  have := Int.mul_le_mul (show (t.dome.gores.count b : Int) ≤ 16 by omega) h1.2 h1.1 (by decide)
  omega
theorem canAt_range {t : Tent} {w : Int} (h : Ok68 t w) {b s : Int} (hs : s ∈ canAt t b) : 0 ≤ s ∧ s ≤ 60 := by
  unfold canAt at hs
  cases hc : t.can[b.toNat]? with
  | none => rw [hc] at hs; simp at hs
  | some l => rw [hc] at hs; exact (h.can l (List.mem_of_getElem? hc)).2 s hs
theorem canAt_len {t : Tent} {w : Int} (h : Ok68 t w) (b : Int) : (canAt t b).length ≤ 61 := by
  unfold canAt
  cases hc : t.can[b.toNat]? with
  | none => simp
  | some l => exact (h.can l (List.mem_of_getElem? hc)).1
theorem ys68_len {t : Tent} {w : Int} (h : Ok68 t w) (b : Int) (xs : List Int) : ∀ pre2 : List Nat, (ys68 t w b xs pre2).length ≤ pre2.length * 61
  | [] => by simp [ys68]
  | j :: l => by
    have h1 := ys68_len h b xs l
    have h2 := canAt_len h b
    simp only [ys68, List.flatMap_cons, List.length_append, List.length_map, List.length_cons] at *
    omega
theorem ys68_snoc (t : Tent) (w b : Int) (xs : List Int) (pre2 : List Nat) (j : Nat) : ys68 t w b xs (pre2 ++ [j]) = ys68 t w b xs pre2 ++ (canAt t b).map fun s => ((cmKs xs)[j]?.getD []).headD 0 + part t w b s := by simp [ys68]
theorem mem_ys68 {t : Tent} {w b : Int} {xs : List Int} {pre2 : List Nat} (hp : pre2.Perm (List.range (cmKs xs).length)) (y : Int) : y ∈ ys68 t w b xs pre2 ↔ ∃ x ∈ xs, ∃ s ∈ canAt t b, y = x + part t w b s := by
  simp only [ys68, List.mem_flatMap, List.mem_map]
  constructor
  · rintro ⟨j, hj, s, hs, rfl⟩
    have hj := List.mem_range.1 (hp.mem_iff.1 hj)
    obtain ⟨x, hx, e, _⟩ := cmKs_get hj
    exact ⟨x, hx, s, hs, by simp [e]⟩
  · rintro ⟨x, hx, s, hs, rfl⟩
    have hm := (mem_cmKs xs [x]).2 ⟨x, hx, rfl⟩
    refine ⟨(cmKs xs).idxOf [x], hp.mem_iff.2 (List.mem_range.2 (List.idxOf_lt_length_iff.2 hm)), s, hs, ?_⟩
    rw [idxOf_get hm]; rfl
theorem inv68_snoc {t : Tent} {w : Int} (h : Ok68 t w) {pre : List Nat} {xs : List Int} {j : Nat} (hC : Inv68 t w pre xs) (hlt : ∀ i ∈ pre, i < (cmKs t.dome.gores).length) (hj : j < (cmKs t.dome.gores).length) (hjp : j ∉ pre)
    {pre2 : List Nat} (hp : pre2.Perm (List.range (cmKs xs).length)) : Inv68 t w (pre ++ [j]) (ys68 t w (gk t j) xs pre2) := by
  refine ⟨?_, fun y hy => ?_, fun y => ?_⟩
  · have h1 := ys68_len h (gk t j) xs pre2
    have h2 : pre2.length ≤ xs.length := by rw [hp.length_eq, List.length_range]; exact cmKs_len xs
    have h3 := hC.len
    rw [List.length_append, List.length_singleton, Nat.pow_succ]
    calc _ ≤ pre2.length * 61 := h1
      _ ≤ 61 ^ pre.length * 61 := Nat.mul_le_mul (Nat.le_trans h2 h3) (Nat.le_refl _)
  · obtain ⟨x, hx, s, hs, rfl⟩ := (mem_ys68 hp y).1 hy
    have h1 := hC.rng x hx
    have h2 := part_range h (b := gk t j) (canAt_range h hs)
    simp only [List.length_append, List.length_singleton]
    omega
  · rw [mem_ys68 hp]
    have hne : ∀ i ∈ pre, gk t i ≠ gk t j := fun i hi e => hjp (gk_inj (hlt i hi) hj e ▸ hi)
    constructor
    · rintro ⟨x, hx, s, hs, rfl⟩
      obtain ⟨c, hc, rfl⟩ := (hC.mem x).1 hx
      refine ⟨fun b => if b = gk t j then s else c b, fun i hi => ?_, ?_⟩
      · rcases List.mem_append.1 hi with hi | hi
        · simp only [if_neg (hne i hi)]; exact hc i hi
        · simp at hi; subst hi; simpa using hs
      · rw [psum_snoc, if_pos rfl]
        congr 1
        exact psum_congr fun i hi => by simp only [if_neg (hne i hi)]
    · rintro ⟨c, hc, rfl⟩
      exact ⟨psum t w c pre, (hC.mem _).2 ⟨c, fun i hi => hc i (by simp [hi]), rfl⟩, c (gk t j), hc j (by simp), psum_snoc t w c pre j⟩
theorem inv68_perm {t : Tent} {w : Int} {pre pre' : List Nat} {xs : List Int} (hC : Inv68 t w pre xs) (hp : pre.Perm pre') : Inv68 t w pre' xs := by
  refine ⟨hp.length_eq ▸ hC.len, hp.length_eq ▸ hC.rng, fun x => (hC.mem x).trans ?_⟩
  have e : ∀ c, psum t w c pre = psum t w c pre' := fun c => perm_sum (hp.map _)
  simp only [e, hp.mem_iff]
theorem few_bolts {t : Tent} {w : Int} (h : Ok68 t w) : (cmKs t.dome.gores).length ≤ 4 := by
  have := nodup_len (n := 4) (pre := (cmKs t.dome.gores).map fun k => (k.headD 0).toNat) ?_ ?_
  · simpa using this
  · apply nodup_map_on ?_ (cmKs_nodup _)
    intro a ha b hb e
    obtain ⟨x, hx, rfl⟩ := (mem_cmKs _ _).1 ha
    obtain ⟨y, hy, rfl⟩ := (mem_cmKs _ _).1 hb
    have := h.gores x hx
    have := h.gores y hy
    simp at e
    rw [show x = y by omega]
  · intro i hi
    obtain ⟨k, hk, rfl⟩ := List.mem_map.1 hi
    obtain ⟨x, hx, rfl⟩ := (mem_cmKs _ _).1 hk
    have := h.gores x hx
    have := h.nc
    simp; omega
theorem P68 (t : Tent) (w : Int) (h : Ok68 t w) : RelCall Try.prog 68 [.pa (eTent t), .i w] (R68 t w) := by
  refine relo_body okN hmix Try.func68 cb68 cc68 cs68 cn68 ?_
  simp only [rc68, rs68, ru_reg, ru_seq, ru_block, ru_keep, thenQ, run_nil, run_cons, Fam.step, stepQ, stepW, needW, nv, evO, opv, qv, ldV, lenV, upd_some, lkp_cons, lkp_nil, ↓reduceIte, Nat.reduceEqDiff, Nat.reduceAdd, Nat.reduceLeDiff, List.map_cons, List.map_nil, List.length_cons, List.length_nil, List.drop_succ_cons, List.drop_zero, List.headD_cons, List.cons_append, List.nil_append, rv1, resV, zipA, Nat.zero_add, Bool.false_eq_true, true_and, and_self, reduceCtorEq, List.length_map, eDome, eTent]
  refine ru_count t.dome.gores.length (fun i => ⟨lkp [(0, .pa (eTent t)), (1, .i w), (5, .mp 0 0), (20, .sl 1 (t.dome.gores.map eI)), (21, .i t.dome.gores.length), (22, .i i)], [cm (t.dome.gores.take i)]⟩) ?_ ?_ ?_
  · simp only [Int.natCast_zero, eTent, cm_nil, kp, lkp_cons, lkp_nil, ↓reduceIte, Nat.reduceEqDiff, List.map_cons, List.map_nil, List.take_zero, List.cons_append, List.nil_append, reduceCtorEq, eDome, eTent]
  · intro i hi
    obtain ⟨g, hg⟩ : ∃ g, t.dome.gores[i]? = some g := ⟨_, List.getElem?_eq_getElem hi⟩
    have hng := h.ng
    have hlt : (i : Int) < t.dome.gores.length := by omega
    have h3 : inI ((i : Int) + 1) := by unfold inI; omega
    have hc : (t.dome.gores.take i).count g ≤ i := Nat.le_trans List.count_le_length (List.length_take_le _ _)
    have h4 : inI (((t.dome.gores.take i).count g : Int) + 1) := by unfold inI; omega
    simp only [hlt, hg, h3, cm, cm_get, h4, cm_put, ← cmKs_snoc, Int.natCast_add, Int.natCast_one, take_succ_of hg, ru_skip, ru_reg, ru_seq, ru_cnd, ru_block, ru_keep, putB, lkpV, keyL, keyFits, thenQ, blockQ, run_nil, run_cons, Fam.step, stepQ, stepW, needW, putB, nv, sv, evO, opv, qv, binV, ldV, iadV, kp, upd_some, upd_none, lkp_cons, lkp_nil, ↓reduceIte, Nat.reduceEqDiff, Nat.reduceLeDiff, List.map_cons, List.map_nil, List.length_cons, List.length_nil, List.headD_cons, List.cons_append, List.nil_append, List.getElem?_cons_zero, Option.getD_some, List.set_cons_zero, Int.natCast_nonneg, Nat.zero_add, Bool.false_eq_true, decide_true, and_self, false_implies, reduceCtorEq, Option.map_some, List.length_map, Int.toNat_natCast, List.getD_eq_getElem?_getD, List.getElem?_map, eDome, eI, eTent]
  · simp only [List.take_length, cm, ru_reg, ru_seq, ru_cnd, ru_block, ru_exit, ru_keep, putB, keyL, keyFits, thenQ, blockQ, run_nil, run_cons, Fam.step, stepQ, stepW, needW, putB, nv, sv, evO, opv, qv, binV, upd_some, upd_none, lkp_cons, lkp_nil, ↓reduceIte, Nat.reduceEqDiff, Nat.reduceAdd, List.map_cons, List.map_nil, List.length_cons, List.length_nil, List.cons_append, List.nil_append, List.getElem?_cons_zero, List.getElem?_cons_succ, List.set_cons_zero, List.set_cons_succ, Int.lt_irrefl, Nat.zero_add, Bool.false_eq_true, decide_false, true_and, and_self, false_implies, reduceCtorEq, eDome, eTent]
    refine ru_rangeE (cmKs t.dome.gores).length (fun pre xs => ⟨lkp [(0, .pa (eTent t)), (1, .i w), (8, .mp 1 0), (34, .it 2 0)], [cm t.dome.gores, cm xs, .iter 0 (cmKs t.dome.gores).length (leftN (cmKs t.dome.gores).length pre) pre.getLast?]⟩) (Inv68 t w) [0] ?_ ?_ ?_
    · simp only [eTent, cm, leftN_nil, List.getLast?_nil, cutL_noref _ _ _ (noref_cm _), cutH, kp, cutV, cutB, lkp_cons, lkp_nil, ↓reduceIte, Nat.reduceEqDiff, Nat.reduceLT, List.map_cons, List.map_nil, List.take_succ_cons, List.take_nil, List.cons_append, List.nil_append, reduceCtorEq, eDome, eTent]
      rfl
    · exact inv68_nil t w
    · intro pre xs hnd hlt hC
      simp only [eTent, cm, ru_skip, ru_reg, ru_seq, ru_cnd, ru_block, ru_exit, ru_ret, ru_keep, ru_drp, ru_swp, ru_nxt, ↓cut_lkp, ↓ren_lkp, swH, sw, renV, renB, cutH, entV, keyV, endK, thenQ, blockQ, run_nil, run_cons, Fam.step, stepQ, stepW, needW, nv, evO, opv, qv, kp, cutV, cutB, upd_some, lkp_cons, lkp_nil, ↓reduceIte, Nat.reduceEqDiff, Nat.reduceAdd, Nat.reduceLT, List.map_cons, List.map_nil, List.length_cons, List.length_nil, List.take_succ_cons, List.take_zero, List.cons_append, List.nil_append, List.getElem?_cons_zero, List.getElem?_cons_succ, Option.getD_some, List.set_cons_zero, List.set_cons_succ, rvs, rv1, Nat.zero_add, Bool.false_eq_true, true_and, and_self, reduceCtorEq, List.getD_eq_getElem?_getD, eDome, eTent]
      refine ⟨fun hnil => ?_, fun j hj => ?_⟩
      · refine ⟨xs, rfl, ?_, inv68_perm hC (perm_leftN hnd hlt hnil)⟩
        simp only [renL_noref _ _ (noref_cm _), cutL_noref _ _ _ (noref_cm _), cm]
      obtain ⟨hjn, hjp⟩ := mem_leftN.1 hj
      obtain ⟨b, hb, hk1, hk2⟩ := cmKs_get hjn
      obtain ⟨hb0, hbl⟩ := h.gores b hb
      have hgk : gk t j = b := by simp [gk, hk1]
      simp only [hk1, hk2, leftN_erase hj, List.headD_cons, Option.getD_some]
      refine ru_range (cmKs xs).length (fun pre2 => ⟨lkp [(0, .pa (eTent t)), (1, .i w), (9, .i b), (10, .i (t.dome.gores.count b)), (11, .mp 3 0), (34, .it 2 0), (42, .it 4 0)],
        [cm t.dome.gores, cm xs, .iter 0 (cmKs t.dome.gores).length (leftN (cmKs t.dome.gores).length (pre ++ [j])) (some j), cm (ys68 t w b xs pre2), .iter 1 (cmKs xs).length (leftN (cmKs xs).length pre2) pre2.getLast?]⟩) (fun _ => True) ?_ trivial ?_
      · simp only [eTent, cm, leftN_nil, List.getLast?_nil, kp, lkp_cons, lkp_nil, ↓reduceIte, Nat.reduceEqDiff, List.map_cons, List.map_nil, List.cons_append, List.nil_append, reduceCtorEq, eDome, eTent]
        rfl
      · intro pre2 hnd2 hlt2 _
        simp only [eTent, cm, ru_skip, ru_reg, ru_seq, ru_cnd, ru_block, ru_exit, ru_keep, ru_swp, ru_nxt, ↓ren_lkp, swH, sw, renV, renB, entV, keyV, thenQ, blockQ, run_nil, run_cons, Fam.step, stepQ, evO, opv, qv, ldV, iadV, lenV, kp, cutV, cutB, upd_some, lkp_cons, lkp_nil, ↓reduceIte, Nat.reduceEqDiff, Nat.reduceAdd, Nat.reduceLT, Nat.reduceLeDiff, List.map_cons, List.map_nil, List.length_cons, List.length_nil, List.drop_succ_cons, List.drop_zero, List.take_succ_cons, List.take_zero, List.headD_cons, List.cons_append, List.nil_append, List.getElem?_cons_zero, List.getElem?_cons_succ, Option.getD_some, List.set_cons_zero, List.set_cons_succ, Nat.zero_add, Bool.false_eq_true, true_and, and_self, reduceCtorEq, List.length_map, List.getD_eq_getElem?_getD, List.getElem?_map, eDome, eTent]
        refine ⟨fun hnil2 => ?_, fun j2 hj2 => ?_⟩
        · refine ⟨j, ys68 t w b xs pre2, hj, hgk ▸ inv68_snoc h hC hlt hjn hjp (perm_leftN hnd2 hlt2 hnil2), ?_⟩
          simp only [renL_noref _ _ (noref_cm _), cutL_noref _ _ _ (noref_cm _), List.getLast?_concat]
        · obtain ⟨hjn2, hjp2⟩ := mem_leftN.1 hj2
          obtain ⟨x, hx, hk3, hk4⟩ := cmKs_get hjn2
          have hcan : t.can[b.toNat]? = some (canAt t b) := by rw [canAt, List.getElem?_eq_getElem (by omega)]; rfl
          have hx2 := hC.rng x hx
          have hpl : pre.length < 4 := by
            have := few_bolts h
            have := nodup_len (pre := pre ++ [j]) (n := (cmKs t.dome.gores).length) (by
              rw [List.nodup_append]
              exact ⟨hnd, by simp, fun a ha b hb => by simp at hb; subst hb; rintro rfl; exact hjp ha⟩) (by
              intro i hi
              rcases List.mem_append.1 hi with hi | hi
              · exact hlt i hi
              · simp at hi; omega)
            simp at this; omega
          have hys := ys68_len h b xs pre2
          have hp2 : pre2.length ≤ 226981 := by
            have := nodup_len hnd2 hlt2
            have := cmKs_len xs
            have := hC.len
            have : 61 ^ pre.length ≤ 61 ^ 3 := Nat.pow_le_pow_right (by decide) (by omega)
            omega
          have hcl := canAt_len h b
          simp only [hk3, leftN_erase hj2, hb0, hbl, hcan, Nat.reduceLeDiff, List.length_cons, List.length_nil, List.headD_cons, Option.getD_some, Nat.zero_add, true_and, and_self, Option.map_some, List.length_map, eCan]
          refine ru_count (canAt t b).length (fun k => ⟨lkp [(0, .pa (eTent t)), (1, .i w), (9, .i b), (10, .i (t.dome.gores.count b)), (11, .mp 3 0), (12, .i x), (34, .it 2 0), (42, .it 4 0), (53, .sl 1 ((canAt t b).map eI)), (54, .i (canAt t b).length), (55, .i k)],
            [cm t.dome.gores, cm xs, .iter 0 (cmKs t.dome.gores).length (leftN (cmKs t.dome.gores).length (pre ++ [j])) (some j), cm (ys68 t w b xs pre2 ++ ((canAt t b).take k).map fun s => x + part t w b s), .iter 1 (cmKs xs).length (leftN (cmKs xs).length (pre2 ++ [j2])) (some j2)]⟩) ?_ ?_ ?_
          · simp only [Int.natCast_zero, eTent, cm, kp, lkp_cons, lkp_nil, ↓reduceIte, Nat.reduceEqDiff, List.map_cons, List.map_nil, List.take_zero, List.cons_append, List.nil_append, List.append_nil, reduceCtorEq, eDome, eTent]
          · intro k hk
            obtain ⟨s, hs⟩ : ∃ s, (canAt t b)[k]? = some s := ⟨_, List.getElem?_eq_getElem hk⟩
            have hsm := List.mem_of_getElem? hs
            have hsr := canAt_range h hsm
            have hlt3 : (k : Int) < (canAt t b).length := by omega
            have i1 : inI ((k : Int) + 1) := by unfold inI; omega
            have hl := h.loss
            have i2 : inI (2 * t.dome.loss) := by unfold inI; omega
            have i3 : inI (w - 2 * t.dome.loss) := by have := h.w; unfold inI; omega
            have i4 : tame 1000000 (w - 2 * t.dome.loss) ∧ tame 1000000 s := by have := h.w; unfold tame; omega
            have i5 : inI ((t.dome.gores.count b : Int) * pull (w - 2 * t.dome.loss) s) := by have := part_range h (b := b) hsr; unfold part at this; unfold inI; omega
            have i6 : inI (x + (t.dome.gores.count b : Int) * pull (w - 2 * t.dome.loss) s) := by have := part_range h (b := b) hsr; unfold part at this; unfold inI; omega
            have i7 : ∀ y, inI (((ys68 t w b xs pre2 ++ ((canAt t b).take k).map fun s => x + part t w b s).count y : Int) + 1) := by
              intro y
              have h1 := List.count_le_length (a := y) (l := ys68 t w b xs pre2 ++ ((canAt t b).take k).map fun s => x + part t w b s)
              have h2 := List.length_take_le k (canAt t b)
              rw [List.length_append, List.length_map] at h1
              unfold inI; omega
            simp only [hlt3, hs, i1, i2, i3, i4, i5, i6, i7, eTent, cm, gN69, cm_get, cm_put, ← cmKs_snoc, take_succ_of hs, Int.natCast_add, Int.natCast_one, ru_skip, ru_reg, ru_seq, ru_cnd, ru_block, ru_keep, putB, lkpV, keyL, keyFits, thenQ, blockQ, run_nil, run_cons, Fam.step, stepQ, stepW, needW, putB, nv, sv, evO, opv, qv, binV, ldV, iadV, callV, hasRef, hasRefL, flat, kp, upd_some, upd_none, lkp_cons, lkp_nil, ↓reduceIte, Nat.reduceEqDiff, Nat.reduceAdd, Nat.reduceLT, Nat.reduceLeDiff, List.map_cons, List.map_nil, List.length_cons, List.length_nil, List.drop_succ_cons, List.drop_zero, List.headD_cons, List.cons_append, List.nil_append, List.append_nil, List.getElem?_cons_zero, List.getElem?_cons_succ, Option.getD_some, List.set_cons_zero, List.set_cons_succ, vw_i, Int.natCast_nonneg, Nat.zero_add, Bool.or_false, Bool.false_eq_true, decide_true, true_and, and_self, false_implies, implies_true, reduceCtorEq, Option.map_some, List.length_map, Int.toNat_natCast, List.getD_eq_getElem?_getD, List.getElem?_map, eDome, eI, eTent]
            simp only [List.map_append, part, List.append_assoc, List.map_cons, List.map_nil]
          · simp only [eTent, cm, List.take_length, ru_reg, ru_seq, ru_cnd, ru_exit, ru_keep, thenQ, blockQ, run_nil, run_cons, Fam.step, stepQ, evO, opv, qv, binV, upd_some, lkp_cons, lkp_nil, ↓reduceIte, Nat.reduceEqDiff, List.map_cons, List.map_nil, List.cons_append, List.nil_append, Int.lt_irrefl, Bool.false_eq_true, decide_false, true_and, reduceCtorEq, eDome, eTent]
            refine ⟨j2, hj2, ?_⟩
            simp only [ys68_snoc, hk3, List.getLast?_concat, List.headD_cons, Option.getD_some]
end Go.C02
set_option linter.unusedSimpArgs false
set_option linter.unusedVariables false
namespace Go.C02
open Go.Fam Go.Proofs
theorem range_map_get (ks : List (List Int)) (f : List Int → Int) : ((List.range ks.length).map fun j => f (ks[j]?.getD [])).sum = (ks.map f).sum := by
  congr 1
  apply List.ext_getElem?
  intro i
  rw [List.getElem?_map, List.getElem?_map]
  by_cases h : i < ks.length
  · rw [List.getElem?_range h, List.getElem?_eq_getElem h]; simp [h]
  · rw [List.getElem?_eq_none (by simp; omega), List.getElem?_eq_none (by omega)]; rfl
theorem psum_all (t : Tent) (w : Int) (c : Int → Int) : psum t w c (List.range (cmKs t.dome.gores).length) = sumBy t.dome.gores fun g => pull (w - 2 * t.dome.loss) (c g) := by
  unfold psum sumBy
  rw [← cm_sum (fun g => pull (w - 2 * t.dome.loss) (c g)) t.dome.gores]
  exact range_map_get (cmKs t.dome.gores) fun k => part t w (k.headD 0) (c (k.headD 0))
def inSums (t : Tent) (w x : Int) : Prop := ∃ c : Int → Int, (∀ g ∈ t.dome.gores, c g ∈ canAt t g) ∧ x = sumBy t.dome.gores fun g => pull (w - 2 * t.dome.loss) (c g)
theorem inv68_mem {t : Tent} {w : Int} {xs : List Int} (h : Inv68 t w (List.range (cmKs t.dome.gores).length) xs) (x : Int) : x ∈ xs ↔ inSums t w x := by
  rw [h.mem]
  have : ∀ c : Int → Int, (∀ j ∈ List.range (cmKs t.dome.gores).length, c (gk t j) ∈ canAt t (gk t j)) ↔ ∀ g ∈ t.dome.gores, c g ∈ canAt t g := by
    intro c
    constructor
    · intro hj g hg
      have hm := (mem_cmKs t.dome.gores [g]).2 ⟨g, hg, rfl⟩
      have := hj ((cmKs t.dome.gores).idxOf [g]) (List.mem_range.2 (List.idxOf_lt_length_iff.2 hm))
      have e : gk t ((cmKs t.dome.gores).idxOf [g]) = g := by unfold gk; rw [idxOf_get hm]; rfl
      rwa [e] at this
    · intro hg j hj
      obtain ⟨x, hx, e, _⟩ := cmKs_get (List.mem_range.1 hj)
      have e : gk t j = x := by unfold gk; rw [e]; rfl
      rw [e]; exact hg x hx
  simp only [this, psum_all]; rfl
def p68 (vs : List V) : Prop := eTN (dTN vs) = vs ∧ Ok68 (dTN vs).1 (dTN vs).2
def q68 : List V → Prop
  | .tp (r :: bs) :: vs => ∃ xs : List Int, r = .mp 0 0 ∧ bs = [bV (cm xs)] ∧ ∀ x, x ∈ xs ↔ inSums (dTN vs).1 (dTN vs).2 x
  | _ => False
def GO : Gam := (GN.ext 3000068 fun vs => (p68 vs, .u)).ext 4000068 fun vs => (q68 vs, .u)
theorem okO : GOk Try.prog GO := by
  refine okN.extR (f := 68) (p := p68) (q := q68) (fun a w => Try.call68 a w) fun vs h => ?_
  have := P68 _ _ h.2
  have e : eTN (dTN vs) = vs := h.1
  unfold eTN at e
  rw [e] at this
  refine this.mono fun r hp hr => ?_
  obtain ⟨xs, rfl, rfl, hi⟩ := hr
  exact ⟨[bV (cm xs)], by simp [cm, vB_map], xs, rfl, rfl, inv68_mem hi⟩
theorem gO68 (b : List Bolt) (g : List Int) (l : Int) (r : List Span) (w : List Int) (s : Int) (c : List (List Int)) (n : Int) :
    GO 3000068 [.pa [.sl 4 (b.map eBolt), .sl 1 (g.map eI), .i l, .sl 2 (r.map eSpan), .sl 1 (w.map eI), .i s, .sl 1 (c.map eCan)], .i n] = (Ok68 ⟨⟨b, g, l, r, w, s⟩, c⟩ n, .u) := by
  have e := dTN_e (⟨⟨b, g, l, r, w, s⟩, c⟩, n)
  refine (show GO 3000068 _ = (p68 (eTN (⟨⟨b, g, l, r, w, s⟩, c⟩, n)), V.u) from rfl).trans ?_
  unfold p68
  rw [e]; simp
theorem gO68' (b : List Bolt) (g : List Int) (l : Int) (r : List Span) (w : List Int) (s : Int) (c : List (List Int)) (n : Int) (x : V) (bs : List V) :
    GO 4000068 [.tp (x :: bs), .pa [.sl 4 (b.map eBolt), .sl 1 (g.map eI), .i l, .sl 2 (r.map eSpan), .sl 1 (w.map eI), .i s, .sl 1 (c.map eCan)], .i n] = (∃ xs : List Int, x = .mp 0 0 ∧ bs = [bV (cm xs)] ∧ ∀ y, y ∈ xs ↔ inSums ⟨⟨b, g, l, r, w, s⟩, c⟩ n y, .u) := by
  have e := dTN_e (⟨⟨b, g, l, r, w, s⟩, c⟩, n)
  refine (show GO 4000068 _ = (∃ xs : List Int, x = .mp 0 0 ∧ bs = [bV (cm xs)] ∧ ∀ y, y ∈ xs ↔ inSums (dTN (eTN (⟨⟨b, g, l, r, w, s⟩, c⟩, n))).1 (dTN (eTN (⟨⟨b, g, l, r, w, s⟩, c⟩, n))).2 y, V.u) from rfl).trans ?_
  rw [e]
theorem gO67 (n lo hi : Int) : GO 67 [.i n, .i lo, .i hi] = (True, .b (within n lo hi)) := rfl
theorem gO50 (b : List Bolt) (g : List Int) (l : Int) (r : List Span) (w : List Int) (s : Int) (c : List (List Int)) (n : Int) :
    GO 50 [.pa [.sl 4 (b.map eBolt), .sl 1 (g.map eI), .i l, .sl 2 (r.map eSpan), .sl 1 (w.map eI), .i s, .sl 1 (c.map eCan)], .i n] = (ok50 ⟨⟨b, g, l, r, w, s⟩, c⟩ n, .ag (eSpan (roundOf ⟨⟨b, g, l, r, w, s⟩, c⟩ n))) := gL50 b g l r w s c n
open Classical in
noncomputable def tightOf (t : Tent) (row w : Int) : Int :=
  if (wantAt t.dome row).low ≤ (roundOf t w).low ∧ (roundOf t w).high ≤ (wantAt t.dome row).high then 1
  else if ∃ x, inSums t w x ∧ within x (wantAt t.dome row).low (wantAt t.dome row).high = true then 3 else 2
structure Ok47 (t : Tent) (row w : Int) : Prop where
  row : 0 ≤ row ∧ row < t.dome.rounds.length
  k50 : ok50 t w
  k68 : Ok68 t w
theorem P47 (t : Tent) (row w : Int) (h : Ok47 t row w) : PureCall Try.prog 47 [.pa (eTent t), .i row, .i w] (.i (tightOf t row w)) := by
  refine pure_body okO hmix Try.func47 cb47 cc47 cs47 cn47 ?_
  obtain ⟨⟨h3, h4⟩, h5, h6⟩ := h
  have e2 : t.dome.rounds[row.toNat]? = some (wantAt t.dome row) := by rw [wantAt, List.getElem?_eq_getElem (by omega)]; rfl
  simp only [rc47, rs47, eTent, h3, h4, e2, gO50, h5, gO68, h6, gO68', ru_skip, ru_reg, ru_seq, ru_cnd, ite_P, ru_block, ru_ret, ru_keep, ru_crl, putB, thenQ, run_nil, run_cons, Fam.step, stepQ, stepW, needQ, needW, condB, ug, putB, nv, sv, evO, opv, qv, pickV_bb, binV, ldV, iadV, curG, callV, putAt, V.cells, solid, cellOk, hasRef, hasRefL, flat, flatL, upd_some, upd_none, lkp_cons, lkp_nil, ↓reduceIte, Nat.reduceEqDiff, Nat.reduceAdd, Nat.reduceLT, Nat.reduceLeDiff, List.map_cons, List.map_nil, List.all_cons, List.all_nil, List.length_cons, List.length_nil, List.drop_succ_cons, List.drop_zero, List.drop_nil, List.take_succ_cons, List.take_zero, List.take_nil, List.headD_cons, List.cons_append, List.nil_append, List.append_nil, List.getElem?_cons_zero, List.getElem?_cons_succ, Option.getD_some, List.set_cons_zero, List.set_cons_succ, endQ, rvs, rv1, resV, vw_i, vw_pa, zipA, beq_self_eq_true, Nat.zero_add, Nat.add_zero, V.i.injEq, Bool.and_self, Bool.and_true, Bool.or_false, Bool.false_eq_true, decide_eq_true_eq, decide_eq_false_iff_not, true_and, and_true, and_self, and_false, implies_true, reduceCtorEq, Option.map_some, beq_true, ite_f, imp_self, List.length_map, List.getD_eq_getElem?_getD, List.getElem?_map, Bool.not_eq_true, domeE, tentE, eSpan, eDome, eTent]
  refine ⟨fun hs => ?_, fun hs r bs hr => ?_⟩
  · rw [Bool.and_eq_true, decide_eq_true_eq, decide_eq_true_eq] at hs
    simp [tightOf, hs]
  · have hs' : ¬ ((wantAt t.dome row).low ≤ (roundOf t w).low ∧ (roundOf t w).high ≤ (wantAt t.dome row).high) := by
      rw [Bool.and_eq_false_iff, decide_eq_false_iff_not, decide_eq_false_iff_not] at hs
      omega
    obtain ⟨xs, rfl, rfl, hm⟩ := hr
    simp only [vB_map, cm, shL_noref _ _ (noref_cm _), shV, shB, vB_map, Nat.reduceAdd, List.map_cons, List.map_nil, List.length_cons, List.length_nil, List.cons_append, List.nil_append, List.getElem?_cons_zero, List.getElem?_cons_succ, Nat.zero_add, Nat.add_zero, true_and]
    refine ru_range (cmKs xs).length (fun pre => ⟨lkp [(7, .ad 0 0 0), (36, .it 3 0)], [.cells 0 (eSpan (wantAt t.dome row)), .cells 0 (eSpan (roundOf t w)), cm xs, .iter 2 (cmKs xs).length (leftN (cmKs xs).length pre) pre.getLast?]⟩)
      (fun pre => ∀ j ∈ pre, within (((cmKs xs)[j]?.getD []).headD 0) (wantAt t.dome row).low (wantAt t.dome row).high = false) ?_ (by simp) ?_
    · simp only [cm, leftN_nil, List.getLast?_nil, kp, lkp_cons, lkp_nil, ↓reduceIte, Nat.reduceEqDiff, List.map_cons, List.map_nil, eSpan]
    · intro pre hnd hlt hC
      simp only [cm, ru_skip, ru_reg, ru_seq, ru_cnd, ite_P, ru_block, ru_exit, ru_ret, ru_keep, ru_nxt, entV, keyV, thenQ, blockQ, run_nil, run_cons, Fam.step, stepQ, evO, opv, qv, ldV, curG, callV, hasRef, hasRefL, kp, upd_some, lkp_cons, lkp_nil, ↓reduceIte, Nat.reduceEqDiff, Nat.reduceAdd, Nat.reduceLT, Nat.reduceLeDiff, List.map_cons, List.map_nil, List.length_cons, List.length_nil, List.drop_succ_cons, List.drop_zero, List.headD_cons, List.append_nil, List.getElem?_cons_zero, List.getElem?_cons_succ, Option.getD_some, List.set_cons_zero, List.set_cons_succ, endQ, rvs, rv1, resV, vw_i, beq_self_eq_true, Nat.zero_add, Nat.add_zero, V.i.injEq, Bool.or_false, Bool.false_eq_true, true_and, and_true, and_self, false_implies, List.getD_eq_getElem?_getD, Bool.not_eq_true, eSpan]
      refine ⟨fun hnil => ?_, fun j hj => ?_⟩
      · have hp := perm_leftN hnd hlt hnil
        have : ¬ ∃ x, inSums t w x ∧ within x (wantAt t.dome row).low (wantAt t.dome row).high = true := by
          rintro ⟨x, hx, hw⟩
          have hk := (mem_cmKs xs [x]).2 ⟨x, (hm x).2 hx, rfl⟩
          have := hC ((cmKs xs).idxOf [x]) (hp.mem_iff.2 (List.mem_range.2 (List.idxOf_lt_length_iff.2 hk)))
          rw [idxOf_get hk] at this
          simp [hw] at this
        simp [tightOf, hs', this]
      · obtain ⟨hjn, hjp⟩ := mem_leftN.1 hj
        obtain ⟨x, hx, hk1, hk2⟩ := cmKs_get hjn
        simp only [hk1, leftN_erase hj, gO67, List.headD_cons, Option.getD_some, true_and]
        refine ⟨fun hw => ?_, fun hw => ⟨j, hj, ?_, ?_⟩⟩
        · have : ∃ x, inSums t w x ∧ within x (wantAt t.dome row).low (wantAt t.dome row).high = true := ⟨x, (hm x).1 hx, hw⟩
          simp [tightOf, hs', this]
        · intro i hi
          rcases List.mem_append.1 hi with hi | hi
          · exact hC i hi
          · simp at hi; subst hi; rw [hk1]; exact hw
        · simp only [List.getLast?_concat]
theorem Good.ok68 {d : Dome} (h : Good d) {w : Int} (hw : 2 * d.loss ≤ w ∧ w ≤ 2000) : Ok68 (tentOf d) w := by
  have hl := h.v.loss
  refine ⟨⟨?_, ?_⟩, h.v.loss, h.v.ng.2, ?_, ?_, ?_⟩
  · show 0 ≤ w - 2 * d.loss; omega
  · show w - 2 * d.loss ≤ 2000; omega
  · intro g hg
    have := h.v.gores g hg
    simp only [tentOf, cansOf, List.length_map]
    omega
  · have := h.v.nb
    simp only [tentOf, cansOf, List.length_map]
    omega
  · intro l hl
    obtain ⟨b, hb, rfl⟩ := List.mem_map.1 hl
    have hvb := h.v.bolts b hb
    exact ⟨numbersOf_len hvb, fun s hs => numbersOf_range hvb hs⟩
theorem Good.ok47 {d : Dome} (h : Good d) {row w : Int} (hr : isRow d row = true) (hw : 2 * d.loss ≤ w ∧ w ≤ 2000) : Ok47 (tentOf d) row w := by
  obtain ⟨k1, k2, _⟩ := row_of h.v hr
  have := h.v.loss
  exact ⟨⟨k1, k2⟩, h.ok50 (by unfold tame; omega), h.ok68 hw⟩
def eTNN (a : Tent × Int × Int) : List V := [.pa (eTent a.1), .i a.2.1, .i a.2.2]
def dTNN : List V → Tent × Int × Int | [.pa cs, .i n, .i m] => (dTent cs, n, m) | _ => (⟨D0, []⟩, 0, 0)
theorem dTNN_e (a : Tent × Int × Int) : dTNN (eTNN a) = a := by simp [dTNN, eTNN, dTent_e]
noncomputable def r47 : List V → Prop × V := fnG eTNN dTNN (fun a => Ok47 a.1 a.2.1 a.2.2) (fun a => tightOf a.1 a.2.1 a.2.2) .i
noncomputable def GP : Gam := GO.ext 47 r47
theorem okP : GOk Try.prog GP := okO.ext (f := 47) (r := r47) (fun a w => Try.call47 a w) (fnG_ok fun a h => P47 a.1 a.2.1 a.2.2 h)
theorem gP47 (b : List Bolt) (g : List Int) (l : Int) (r : List Span) (w : List Int) (s : Int) (c : List (List Int)) (n m : Int) :
    GP 47 [.pa [.sl 4 (b.map eBolt), .sl 1 (g.map eI), .i l, .sl 2 (r.map eSpan), .sl 1 (w.map eI), .i s, .sl 1 (c.map eCan)], .i n, .i m] = (Ok47 ⟨⟨b, g, l, r, w, s⟩, c⟩ n m, .i (tightOf ⟨⟨b, g, l, r, w, s⟩, c⟩ n m)) :=
  (show GP 47 _ = r47 (eTNN (⟨⟨b, g, l, r, w, s⟩, c⟩, n, m)) from rfl).trans (fnG_at _ (dTNN_e _))
theorem gP45 (b : List Bolt) (g : List Int) (l : Int) (r : List Span) (w : List Int) (s : Int) (x : Bool) :
    GP 45 [.ag [.sl 4 (b.map eBolt), .sl 1 (g.map eI), .i l, .sl 2 (r.map eSpan), .sl 1 (w.map eI), .i s], .b x] = (True, pitchV ⟨b, g, l, r, w, s⟩ x) := gL45 b g l r w s x
theorem gP46 (b : List Bolt) (g : List Int) (l : Int) (r : List Span) (w : List Int) (s : Int) (n : Int) :
    GP 46 [.ag [.sl 4 (b.map eBolt), .sl 1 (g.map eI), .i l, .sl 2 (r.map eSpan), .sl 1 (w.map eI), .i s], .i n] = (r.length < 1000, .b (isRow ⟨b, g, l, r, w, s⟩ n)) := gL46 b g l r w s n
noncomputable def tightR (d : Dome) (row : Int) : Int × Int := if pitchE d (isRow d row) = 0 then (tightOf (tentOf d) row (widthAt d row), 0) else (0, pitchE d (isRow d row))
theorem P17 (d : Dome) (n : Int) (hb : d.rounds.length < 1000) : PureCall Try.prog 17 [.ag (eDome d), .i n] (eNE (tightR d n)) := by
  refine pure_body okP hmix Try.func17 cb17 cc17 cs17 cn17 ?_
  simp only [rc17, rs17, gP46, gP45, pitchV, eNE, tightR, ru_skip, ru_reg, ru_any, ru_seq, ru_cnd, ite_P, ru_ret, ru_keep, putBs, thenQ, run_nil, run_cons, Fam.step, stepQ, runX, eff, nextD, fpR, fpQ, fpV, disjB, hits, evO, opv, qv, binV, ldV, iadV, callV, V.cells, solid, hasRef, hasRefL, flat, flatL, upd_some, lkp_cons, lkp_nil, ↓reduceIte, Nat.reduceEqDiff, Nat.reduceAdd, Nat.reduceLT, Nat.reduceLeDiff, List.map_cons, List.map_nil, List.all_nil, List.length_cons, List.length_nil, List.drop_succ_cons, List.drop_zero, List.take_succ_cons, List.take_nil, List.headD_cons, List.cons_append, List.nil_append, List.append_nil, List.getElem?_cons_zero, List.getElem?_cons_succ, List.getElem?_nil, Option.getD_some, Option.getD_none, List.replicate_zero, List.isEmpty_nil, endQ, rvs, rv1, resV, vw_i, vw_b, vw_sl, vw_ag, vw_tp, zipA, Nat.zero_add, Bool.and_self, Bool.and_true, Bool.false_and, Bool.or_false, Bool.false_or, Bool.not_true, Bool.not_false, Bool.false_eq_true, decide_eq_false_iff_not, true_and, and_true, and_self, false_implies, implies_true, reduceCtorEq, List.any_nil, List.contains_nil, Bool.not_eq_true', List.length_map, List.getD_eq_getElem?_getD, List.getElem?_map, Classical.not_not, domeE, eDome, eTent]
  refine ⟨by omega, fun h => ?_, fun h => ?_⟩
  · simp [h]
  · obtain ⟨hg, hr⟩ := pitchE_zero h
    obtain ⟨k1, k2, k3, k4, k5, k6⟩ := row_of hg.v hr
    have h3 := hg.ok47 hr k6
    unfold tentOf at *
    simp only [h, k1, k3, k4, gP47, h3, hasRef, flat, ↓reduceIte, Nat.reduceLeDiff, List.length_cons, List.length_nil, List.headD_cons, Option.getD_some, vw_i, vw_pa, Nat.zero_add, Bool.or_false, Bool.false_eq_true, and_self, implies_true, Option.map_some, domeE, eI]
noncomputable def looseTo (d : Dome) (k : Nat) : List Int := ((ints 0 (d.widths.length - 1)).take k).filter fun r => decide (tightOf (tentOf d) r (widthAt d r) ≠ 1)
noncomputable def looseR (d : Dome) : List Int × Int := if pitchE d true = 0 then (looseTo d d.widths.length, 0) else ([], pitchE d true)
theorem P26 (d : Dome) : PureCall Try.prog 26 [.ag (eDome d)] (eLE (looseR d)) := by
  refine pure_body okP hmix Try.func26 cb26 cc26 cs26 cn26 ?_
  simp only [rc26, rs26, gP45, pitchV, eLE, looseR, ru_skip, ru_reg, ru_seq, ru_cnd, ite_P, ru_block, ru_ret, ru_keep, ru_own, thenQ, run_nil, run_cons, Fam.step, stepQ, evO, opv, qv, binV, ldV, lenV, callV, V.cells, solid, hasRef, hasRefL, flat, flatL, upd_some, lkp_cons, lkp_nil, ↓reduceIte, Nat.reduceEqDiff, Nat.reduceAdd, Nat.reduceLT, Nat.reduceLeDiff, List.map_cons, List.map_nil, List.length_cons, List.length_nil, List.drop_succ_cons, List.drop_zero, List.take_succ_cons, List.take_nil, List.headD_cons, List.cons_append, List.nil_append, List.append_nil, List.getElem?_cons_zero, List.getElem?_cons_succ, List.getElem?_nil, Option.getD_some, endQ, rvs, rv1, resV, vw_i, vw_b, vw_z, vw_sl, vw_ag, vw_tp, zipA, Nat.zero_add, Bool.and_self, Bool.and_true, Bool.or_false, Bool.false_eq_true, decide_eq_false_iff_not, true_and, and_self, false_implies, Bool.not_eq_true', List.length_map, Classical.not_not, domeE, eDome, eTent]
  refine ⟨fun h => by simp [h], fun h => ?_⟩
  obtain ⟨hg, _⟩ := pitchE_zero h
  have hnr := hg.v.nr
  have hnw := hg.v.nw
  simp only [h, ↓reduceIte]
  refine ru_count d.widths.length (fun i => ⟨lkp [(4, .pa (eTent (tentOf d))), (6, .rf 0 (looseTo d i).length 0 (looseTo d i).length 1), (18, .sl 1 (d.widths.map eI)), (19, .i d.widths.length), (20, .i i)], [.cells (looseTo d i).length ((looseTo d i).map eI).flatten]⟩) ?_ ?_ ?_
  · simp only [Int.natCast_zero, tentOf, eTent, looseTo, List.filter_nil, List.flatten_nil, kp, lkp_cons, lkp_nil, ↓reduceIte, Nat.reduceEqDiff, List.map_cons, List.map_nil, List.length_nil, List.take_zero, List.cons_append, List.nil_append, ne_eq, eDome, eTent]
  · intro i hi
    obtain ⟨x, hx⟩ : ∃ x, d.widths[i]? = some x := ⟨_, List.getElem?_eq_getElem hi⟩
    have hxw : widthAt d i = x := by simp [widthAt, hx]
    have hrow : isRow d i = true := by simp only [isRow, within, Bool.and_eq_true, decide_eq_true_eq]; omega
    have h47 := hg.ok47 hrow (w := x) (hg.v.widths x (List.mem_of_getElem? hx))
    have hlt : (i : Int) < d.widths.length := by omega
    have h3 : inI ((i : Int) + 1) := by unfold inI; omega
    have hget : (ints 0 ((d.widths.length : Int) - 1))[i]? = some (i : Int) := by rw [ints_get (by omega)]; simp
    have hs : looseTo d (i + 1) = looseTo d i ++ (if decide (tightOf (tentOf d) i (widthAt d i) ≠ 1) then [(i : Int)] else []) := filter_snoc _ hget
    have hll : (looseTo d i).length ≤ i := Nat.le_trans (List.length_filter_le _ _) (List.length_take_le _ _)
    rw [hxw] at hs
    unfold tentOf at hs h47
    simp only [hlt, h3, hx, eTent, tentOf, gP47, h47, hs, Int.natCast_add, Int.natCast_one, ru_skip, ru_reg, ru_seq, ru_cnd, ite_P, ru_block, ru_keep, chunk1, putB, thenQ, blockQ, run_nil, run_cons, Fam.step, stepQ, stepW, needW, putB, nv, sv, newsV, evO, opv, qv, binV, ldV, iadV, callV, foldParts, putAt, partsOk, partsOne, V.cells, solid, cellOk, hasRef, hasRefL, flat, kp, upd_some, lkp_cons, lkp_nil, ↓reduceIte, Nat.reduceEqDiff, Nat.reduceMul, Nat.reduceLT, Nat.reduceLeDiff, List.map_cons, List.map_nil, List.all_cons, List.all_nil, List.length_cons, List.length_nil, List.take_succ_cons, List.take_zero, List.headD_cons, List.cons_append, List.nil_append, List.append_nil, List.getElem?_cons_zero, Option.getD_some, List.set_cons_zero, List.replicate_zero, List.replicate_succ, vw_i, vw_pa, Int.natCast_nonneg, Nat.zero_add, Bool.and_self, Bool.or_false, Bool.false_eq_true, decide_true, decide_eq_true_eq, decide_eq_false_iff_not, true_and, and_self, implies_true, reduceCtorEq, not_false_eq_true, ne_eq, Option.map_some, Bool.not_eq_true', List.length_map, Int.toNat_natCast, List.getD_eq_getElem?_getD, List.getElem?_map, Classical.not_not, domeE, eDome, eI, eTent]
    refine ⟨fun he => ?_, fun he => ?_⟩
    · simp only [he, len_I, List.length_append, List.map_append, List.flatten_append, List.flatten_cons, List.flatten_nil, Nat.mul_one, ↓reduceIte, List.map_cons, List.map_nil, List.length_cons, List.length_nil, List.append_nil, Nat.zero_add, true_and, and_true, not_false_eq_true, eI]
      unfold fitsLen; omega
    · simp only [he, ↓reduceIte, List.append_nil, not_true_eq_false]
  · simp only [looseTo, len_I, Nat.mul_one, Nat.le_refl, chunk_I, vw_I, ru_reg, ru_seq, ru_cnd, ru_exit, ru_ret, ru_keep, thenQ, blockQ, run_nil, run_cons, Fam.step, stepQ, evO, opv, qv, binV, ldV, upd_some, lkp_cons, lkp_nil, ↓reduceIte, Nat.reduceEqDiff, List.map_cons, List.map_nil, List.cons_append, List.nil_append, List.getElem?_cons_zero, endQ, rvs, rv1, resV, vw_i, vw_tp, vw_rf, Int.lt_irrefl, Nat.zero_add, Bool.false_eq_true, decide_false, and_self, ne_eq, eDome, eTent]
end Go.C02
set_option linter.unusedSimpArgs false
set_option linter.unusedVariables false
namespace Go.C02
open Go.Fam Go.Proofs
theorem eqSpan : EqFlat Try.prog 34 2 := EqFlat.of (fs := _) (show Try.prog.underlying 34 = some (.struct (Try.prog.fieldsOf 34)) by kernel_rfl) (by kernel_rfl) (by kernel_rfl)
/-- what Copy gives, as memory of its own -/
def copyCs (d : Dome) : List V := [.rf 2 1 0 d.bolts.length 4, .rf 3 1 0 d.gores.length 1, .i d.loss, .rf 5 1 0 d.rounds.length 2, .rf 7 1 0 d.widths.length 1, .i d.slope]
def copyHp (d : Dome) : List Blk :=
  [.cells 0 (copyCs d), .cells 0 (copyCs d), .cells 1 (d.bolts.map eBolt).flatten, .cells 1 (d.gores.map eI).flatten, .hole, .cells 1 (d.rounds.map eSpan).flatten, .hole, .cells 1 (d.widths.map eI).flatten, .hole]
def copyV (d : Dome) : V := .ag (copyCs d)
structure Ok22 (d : Dome) : Prop where
  b : d.bolts.length < 1000000
  g : d.gores.length < 1000000
  r : d.rounds.length < 1000000
  w : d.widths.length < 1000000
  s : ∀ b ∈ d.bolts, b.strips.length < 1000000
theorem O22 (d : Dome) (h : Ok22 d) : OwnCall Try.prog 22 [.ag (eDome d)] (copyV d) (copyHp d) := by
  refine own_body okP hmix Try.func22 cb22 cc22 cs22 cn22 ?_
  simp only [rc22, rs22, List.flatten_nil, ru_reg, ru_seq, ru_block, ru_keep, putB, thenQ, run_nil, run_cons, Fam.step, stepQ, stepW, needW, putB, nv, sv, newsV, evO, opv, qv, ldV, curG, foldParts, putAt, partsOk, partsOne, V.cells, solid, cellOk, hasRef, hasRefL, upd_some, upd_none, lkp_cons, lkp_nil, ↓reduceIte, Nat.reduceEqDiff, Nat.reduceAdd, Nat.reduceMul, Nat.reduceLeDiff, List.map_cons, List.map_nil, List.all_cons, List.all_nil, List.length_cons, List.length_nil, List.drop_succ_cons, List.drop_zero, List.drop_nil, List.take_succ_cons, List.take_zero, List.take_nil, List.headD_cons, List.cons_append, List.nil_append, List.append_nil, List.getElem?_cons_zero, List.getElem?_cons_succ, List.set_cons_zero, List.set_cons_succ, List.replicate_zero, vw_i, vw_sl, vw_ag, zipA, beq_self_eq_true, Nat.zero_add, Nat.add_zero, Bool.and_self, Bool.or_false, Bool.false_eq_true, true_and, and_self, List.length_map, eDome]
  have hb := h.b
  have hg := h.g
  have hr := h.r
  have hw := h.w
  refine ⟨by unfold fitsLen; omega, ?_⟩
  refine ru_count d.bolts.length (fun i => ⟨lkp [(1, .pa (eDome d)), (2, .ad 0 0 0), (3, .ad 1 0 0), (4, .i i)], [.cells 0 [.z 4, .z 1, .i 0, .z 2, .z 1, .i 0], .cells 0 [.rf 2 1 0 d.bolts.length 4, .sl 1 (d.gores.map eI), .i d.loss, .sl 2 (d.rounds.map eSpan), .sl 1 (d.widths.map eI), .i d.slope], .cells 1 (d.bolts.map eBolt).flatten]⟩) ?_ ?_ ?_
  · simp only [Int.natCast_zero, cutL_noref _ _ _ (hasRefL_flat (e := eBolt) (fun _ => rfl) d.bolts), cutH, kp, cutV, cutL, cutB, lkp_cons, lkp_nil, ↓reduceIte, Nat.reduceEqDiff, Nat.reduceLT, List.map_cons, List.map_nil, List.take_succ_cons, List.take_nil, eDome]
  · intro i hi
    obtain ⟨x, hx⟩ : ∃ x, d.bolts[i]? = some x := ⟨_, List.getElem?_eq_getElem hi⟩
    have hlt : (i : Int) < d.bolts.length := by omega
    have h3 : inI ((i : Int) + 1) := by unfold inI; omega
    have hfl := flat_len (e := eBolt) (k := 4) (fun _ => rfl) d.bolts
    have hst : fitsLen x.strips.length := by have := h.s x (List.mem_of_getElem? hx); unfold fitsLen; omega
    have hoff : i * 4 + 2 + 1 ≤ d.bolts.length * 4 := by omega
    have hnr := hasRefL_flat (e := eBolt) (fun _ => rfl) d.bolts
    have hns := hasRefL_flat (e := eStrip) (fun _ => rfl) x.strips
    have hsl := flat_len (e := eStrip) (k := 3) (fun _ => rfl) x.strips
    have hvw : ∀ hp, (x.strips.map eStrip).map (fun r => r.map (vw hp 7)) = x.strips.map eStrip := fun hp => map_vw_rows (e := eStrip) hp 7 (fun _ => rfl) _
    have hput : List.take (i * 4 + 2) (d.bolts.map eBolt).flatten ++ [V.sl 3 (x.strips.map eStrip)] ++ List.drop (i * 4 + 2 + 1) (d.bolts.map eBolt).flatten = (d.bolts.map eBolt).flatten :=
      put_same (flat_get (k := 4) (fun _ => rfl) d.bolts i 2 x hx (by decide))
    simp only [hx, hlt, Int.natCast_add, Int.natCast_one, h3, List.flatten_nil, hfl, hst, hoff, cutL_append, cutL_noref _ _ _ (hasRefL_take _ _ hnr), cutL_noref _ _ _ (hasRefL_drop _ _ hnr), cutL_noref _ _ _ hnr, hpF, upB, upL_noref _ _ hns, chunk_flat (e := eStrip) (k := 3) (fun _ => rfl), hsl, hvw, Nat.le_refl, hput, ru_skip, ru_reg, ru_any, ru_seq, ru_cnd, ru_block, ru_keep, ru_drp, ↓cut_lkp, putBs, optL, cutH, thenQ, blockQ, run_nil, run_cons, Fam.step, stepQ, needW, runX, eff, nextD, fpR, fpQ, fpV, disjB, hits, nv, sv, newsV, evO, opv, qv, binV, ldV, iadV, lenV, curG, foldParts, putAt, partsOk, partsOne, V.cells, solid, cellOk, kp, cutV, cutL, cutB, upd_some, upd_none, lkp_cons, lkp_nil, ↓reduceIte, Nat.reduceEqDiff, Nat.reduceAdd, Nat.reduceMul, Nat.reduceLT, Nat.reduceLeDiff, Nat.reduceBEq, List.map_cons, List.map_nil, List.all_cons, List.all_nil, List.length_cons, List.length_nil, List.drop_succ_cons, List.drop_zero, List.take_succ_cons, List.take_zero, List.take_nil, List.headD_cons, List.cons_append, List.nil_append, List.getElem?_cons_zero, List.getElem?_cons_succ, List.getElem?_nil, Option.getD_some, Option.getD_none, List.set_cons_zero, List.set_cons_succ, List.replicate_zero, List.replicate_succ, List.isEmpty_nil, List.isEmpty_cons, vw_rf, Int.natCast_nonneg, beq_self_eq_true, Nat.zero_add, Nat.add_zero, Bool.and_self, Bool.and_true, Bool.true_and, Bool.false_and, Bool.and_false, Bool.or_false, Bool.false_or, Bool.not_true, Bool.not_false, Bool.false_eq_true, decide_true, and_self, false_and, reduceCtorEq, Option.map_some, List.any_cons, List.any_nil, List.contains_cons, List.contains_nil, List.length_map, Int.toNat_natCast, List.getD_eq_getElem?_getD, List.getElem?_map, eBolt, eDome]
  · simp only [List.flatten_nil, Nat.le_refl, copyV, copyHp, copyCs, ru_reg, ru_any, ru_seq, ru_cnd, ru_exit, ru_ret, ru_keep, putBs, optL, putB, endO, thenQ, blockQ, run_nil, run_cons, Fam.step, stepQ, stepW, needW, runX, eff, nextD, fpR, fpQ, fpV, disjB, hits, putB, nv, sv, newsV, evO, opv, qv, binV, ldV, lenV, curG, foldParts, putAt, partsOk, partsOne, V.cells, solid, cellOk, upd_some, upd_none, lkp_cons, lkp_nil, ↓reduceIte, Nat.reduceEqDiff, Nat.reduceAdd, Nat.reduceMul, Nat.reduceLeDiff, Nat.reduceBEq, List.map_cons, List.map_nil, List.all_cons, List.all_nil, List.length_cons, List.length_nil, List.drop_succ_cons, List.drop_zero, List.drop_nil, List.take_succ_cons, List.take_zero, List.take_nil, List.headD_cons, List.cons_append, List.nil_append, List.append_nil, List.getElem?_cons_zero, List.getElem?_cons_succ, List.getElem?_nil, Option.getD_some, Option.getD_none, List.set_cons_zero, List.set_cons_succ, List.replicate_zero, List.replicate_succ, List.isEmpty_nil, List.isEmpty_cons, rvs, rv1, resV, Int.lt_irrefl, beq_self_eq_true, Nat.zero_add, Nat.add_zero, Bool.and_self, Bool.and_true, Bool.true_and, Bool.false_and, Bool.and_false, Bool.or_false, Bool.false_or, Bool.not_true, Bool.not_false, Bool.false_eq_true, decide_false, true_and, and_true, and_self, List.any_cons, List.any_nil, List.contains_cons, List.contains_nil, List.length_map, List.getD_eq_getElem?_getD, eDome]
    unfold fitsLen
    omega
theorem P22' (d : Dome) (h : Ok22 d) : PureCall Try.prog 22 [.ag (eDome d)] (.ag (eDome d)) := P22 d ⟨h.b, h.g, h.r, h.w, h.s⟩
def r22 : List V → Prop × V := fnG (fun d => [.ag (eDome d)]) dD Ok22 (fun d => d) (fun d => .ag (eDome d))
def r22o : List V → Prop × V := fnG (fun d => [.ag (eDome d)]) dD Ok22 (fun d => d) (fun d => .tp [copyV d, .tp ((copyHp d).map bV)])
theorem copy_vB (d : Dome) : ((copyHp d).map bV).map vB = copyHp d := by simp [copyHp, copyCs, bV, vB]
noncomputable def GQ : Gam := (GP.ext 22 r22).ext 1000022 r22o
theorem okQ : GOk Try.prog GQ := by
  have k1 := okP.ext (f := 22) (r := r22) (fun a w => Try.call22 a w) (fnG_ok fun d h => P22' d h)
  refine k1.extO (f := 22) (r := r22o) (fun a w => Try.call22 a w) fun vs r' bs h1 h2 => ?_
  simp only [r22o, fnG, V.tp.injEq, List.cons.injEq, and_true] at h1 h2
  obtain ⟨rfl, rfl⟩ := h2
  rw [← h1.1, copy_vB]
  simp only [dD, dDome_e]
  rw [← h1.1] at h1
  simp only [dD, dDome_e] at h1
  exact O22 _ h1.2
end Go.C02
set_option linter.unusedSimpArgs false
set_option linter.unusedVariables false
namespace Go.C02
open Go.Fam Go.Proofs
theorem fnO_ok {P : Program} {A : Type} {e : A → List V} {d : List V → A} {ok : A → Prop} {v : A → V} {hp : A → List Blk} {f : Nat} (hvB : ∀ a, ((hp a).map bV).map vB = hp a) (h : ∀ a, ok a → OwnCall P f (e a) (v a) (hp a))
    (vs : List V) (r : V) (bs : List V) (h1 : (fnG e d ok (fun a => a) (fun a => .tp [v a, .tp ((hp a).map bV)]) vs).1) (h2 : (fnG e d ok (fun a => a) (fun a => .tp [v a, .tp ((hp a).map bV)]) vs).2 = .tp [r, .tp bs]) : OwnCall P f vs r (bs.map vB) := by
  simp only [fnG, V.tp.injEq, List.cons.injEq, and_true] at h1 h2
  obtain ⟨rfl, rfl⟩ := h2
  have := h (d vs) h1.2
  rw [h1.1] at this
  rwa [hvB]
theorem vw_S (hp : List Blk) (n : Nat) (l : List Span) : (l.map eSpan).map (fun r => r.map (vw hp (n + 1))) = l.map eSpan := map_vw_rows (e := eSpan) hp (n + 1) (fun _ => rfl) l
theorem vw_B (hp : List Blk) (n : Nat) (l : List Bolt) : (l.map eBolt).map (fun r => r.map (vw hp (n + 1))) = l.map eBolt := map_vw_rows (e := eBolt) hp (n + 1) (fun _ => rfl) l
/-- the dome of the chapter's examples -/
def exD : Dome := ⟨[⟨⟨0, 20⟩, [⟨1000, ⟨1005, 1010⟩⟩], 0⟩, ⟨⟨0, 10⟩, [], 0⟩], [0, 0, 1, 1], 5, [⟨400, 404⟩, ⟨600, 650⟩, ⟨803, 806⟩], [110, 165, 210], 50⟩
def exD2 : Dome := { exD with rounds := [⟨400, 404⟩, ⟨600, 650⟩, ⟨800, 808⟩] }
def exCs : List V := [.sl 4 (exD.bolts.map eBolt), .sl 1 (exD.gores.map eI), .i 5, .rf 1 0 0 3 2, .sl 1 (exD.widths.map eI), .i 50]
def exHp : List Blk := [.cells 0 exCs, .cells 0 [.i 400, .i 404, .i 600, .i 650, .i 803, .i 806]]
theorem exRows : chunk 2 [.i 400, .i 404, .i 600, .i 650, .i 803, .i 806] 0 3 = exD.rounds.map eSpan := rfl
theorem exRows2 : chunk 2 [.i 400, .i 404, .i 600, .i 650, .i 800, .i 808] 0 3 = exD2.rounds.map eSpan := rfl
theorem exE : (⟨exD.bolts, exD.gores, 5, exD.rounds, exD.widths, 50⟩ : Dome) = exD := rfl
theorem exE2 : (⟨exD.bolts, exD.gores, 5, exD2.rounds, exD.widths, 50⟩ : Dome) = exD2 := rfl
theorem exLen : exD.rounds.length = 3 := rfl
theorem O44 : OwnCall Try.prog 44 [] (.ag exCs) exHp := by
  refine own_body okQ hmix Try.func44 cb44 cc44 cs44 cn44 ?_
  simp only [rc44, rs44, exCs, exHp, exD, List.flatten_cons, List.flatten_nil, ru_reg, ru_seq, ru_ret, ru_keep, chunk1, putB, endO, thenQ, run_nil, run_cons, Fam.step, stepQ, stepW, needW, putB, nv, sv, evO, opv, qv, ldV, foldParts, putAt, partsOk, partsOne, V.cells, solid, cellOk, hasRef, hasRefL, upd_some, upd_none, lkp_cons, lkp_nil, ↓reduceIte, Nat.reduceEqDiff, Nat.reduceAdd, Nat.reduceMul, Nat.reduceLeDiff, List.map_cons, List.map_nil, List.all_cons, List.all_nil, List.length_cons, List.length_nil, List.drop_succ_cons, List.drop_zero, List.drop_nil, List.take_succ_cons, List.take_zero, List.take_nil, List.cons_append, List.nil_append, List.append_nil, List.getElem?_cons_zero, List.set_cons_zero, List.replicate_zero, List.replicate_succ, rvs, rv1, resV, vw_i, vw_z, vw_sl, vw_ag, zipA, Nat.zero_add, Bool.and_self, Bool.or_false, true_and, and_self, reduceCtorEq, not_false_eq_true, ne_eq, eStrip, eBolt, eI]
  exact ⟨rfl, rfl⟩
theorem O26 (d : Dome) (h : pitchE d true = 0) : OwnCall Try.prog 26 [.ag (eDome d)] (.tp [.rf 0 (looseTo d d.widths.length).length 0 (looseTo d d.widths.length).length 1, .i 0]) [.cells (looseTo d d.widths.length).length ((looseTo d d.widths.length).map eI).flatten] := by
  refine own_body okP hmix Try.func26 cb26 cc26 cs26 cn26 ?_
  simp only [rc26, rs26, gP45, pitchV, h, ru_skip, ru_reg, ru_seq, ru_cnd, ru_block, ru_keep, ru_own, thenQ, run_nil, run_cons, Fam.step, stepQ, evO, opv, qv, binV, ldV, lenV, callV, V.cells, solid, hasRef, hasRefL, flat, flatL, upd_some, lkp_cons, lkp_nil, ↓reduceIte, Nat.reduceEqDiff, Nat.reduceAdd, Nat.reduceLT, Nat.reduceLeDiff, List.map_cons, List.map_nil, List.length_cons, List.length_nil, List.drop_succ_cons, List.drop_zero, List.take_succ_cons, List.take_nil, List.headD_cons, List.cons_append, List.nil_append, List.append_nil, List.getElem?_cons_zero, List.getElem?_cons_succ, Option.getD_some, vw_i, vw_b, vw_sl, vw_ag, zipA, Nat.zero_add, Bool.and_self, Bool.and_true, Bool.or_false, Bool.not_true, Bool.false_eq_true, decide_true, true_and, and_self, imp_self, List.length_map, domeE, eDome, eTent]
  obtain ⟨hg, _⟩ := pitchE_zero h
  have hnr := hg.v.nr
  have hnw := hg.v.nw
  refine ru_count d.widths.length (fun i => ⟨lkp [(4, .pa (eTent (tentOf d))), (6, .rf 0 (looseTo d i).length 0 (looseTo d i).length 1), (18, .sl 1 (d.widths.map eI)), (19, .i d.widths.length), (20, .i i)], [.cells (looseTo d i).length ((looseTo d i).map eI).flatten]⟩) ?_ ?_ ?_
  · simp only [Int.natCast_zero, tentOf, eTent, looseTo, List.filter_nil, List.flatten_nil, kp, lkp_cons, lkp_nil, ↓reduceIte, Nat.reduceEqDiff, List.map_cons, List.map_nil, List.length_nil, List.take_zero, List.cons_append, List.nil_append, ne_eq, eDome, eTent]
  · intro i hi
    obtain ⟨x, hx⟩ : ∃ x, d.widths[i]? = some x := ⟨_, List.getElem?_eq_getElem hi⟩
    have hxw : widthAt d i = x := by simp [widthAt, hx]
    have hrow : isRow d i = true := by simp only [isRow, within, Bool.and_eq_true, decide_eq_true_eq]; omega
    have h47 := hg.ok47 hrow (w := x) (hg.v.widths x (List.mem_of_getElem? hx))
    have hlt : (i : Int) < d.widths.length := by omega
    have h3 : inI ((i : Int) + 1) := by unfold inI; omega
    have hget : (ints 0 ((d.widths.length : Int) - 1))[i]? = some (i : Int) := by rw [ints_get (by omega)]; simp
    have hs : looseTo d (i + 1) = looseTo d i ++ (if decide (tightOf (tentOf d) i (widthAt d i) ≠ 1) then [(i : Int)] else []) := filter_snoc _ hget
    have hll : (looseTo d i).length ≤ i := Nat.le_trans (List.length_filter_le _ _) (List.length_take_le _ _)
    rw [hxw] at hs
    unfold tentOf at hs h47
    simp only [hlt, h3, hx, eTent, tentOf, gP47, h47, hs, Int.natCast_add, Int.natCast_one, ru_skip, ru_reg, ru_seq, ru_cnd, ite_P, ru_block, ru_keep, chunk1, putB, thenQ, blockQ, run_nil, run_cons, Fam.step, stepQ, stepW, needW, putB, nv, sv, newsV, evO, opv, qv, binV, ldV, iadV, callV, foldParts, putAt, partsOk, partsOne, V.cells, solid, cellOk, hasRef, hasRefL, flat, kp, upd_some, lkp_cons, lkp_nil, ↓reduceIte, Nat.reduceEqDiff, Nat.reduceMul, Nat.reduceLT, Nat.reduceLeDiff, List.map_cons, List.map_nil, List.all_cons, List.all_nil, List.length_cons, List.length_nil, List.take_succ_cons, List.take_zero, List.headD_cons, List.cons_append, List.nil_append, List.append_nil, List.getElem?_cons_zero, Option.getD_some, List.set_cons_zero, List.replicate_zero, List.replicate_succ, vw_i, vw_pa, Int.natCast_nonneg, Nat.zero_add, Bool.and_self, Bool.or_false, Bool.false_eq_true, decide_true, decide_eq_true_eq, decide_eq_false_iff_not, true_and, and_self, implies_true, reduceCtorEq, not_false_eq_true, ne_eq, Option.map_some, Bool.not_eq_true', List.length_map, Int.toNat_natCast, List.getD_eq_getElem?_getD, List.getElem?_map, Classical.not_not, domeE, eDome, eI, eTent]
    refine ⟨fun he => ?_, fun he => ?_⟩
    · simp only [he, len_I, List.length_append, List.map_append, List.flatten_append, List.flatten_cons, List.flatten_nil, Nat.mul_one, ↓reduceIte, List.map_cons, List.map_nil, List.length_cons, List.length_nil, List.append_nil, Nat.zero_add, true_and, and_true, not_false_eq_true, eI]
      unfold fitsLen; omega
    · simp only [he, ↓reduceIte, List.append_nil, not_true_eq_false]
  · simp only [ru_reg, ru_seq, ru_cnd, ru_exit, ru_ret, ru_keep, endO, thenQ, blockQ, run_nil, run_cons, Fam.step, stepQ, evO, opv, qv, binV, ldV, upd_some, lkp_cons, lkp_nil, ↓reduceIte, Nat.reduceEqDiff, List.map_cons, List.map_nil, List.cons_append, List.nil_append, rvs, rv1, resV, Int.lt_irrefl, Bool.false_eq_true, decide_false, and_self, eDome, eTent]
noncomputable def v26 (d : Dome) : V := .tp [.rf 0 (looseTo d d.widths.length).length 0 (looseTo d d.widths.length).length 1, .i 0]
noncomputable def h26 (d : Dome) : List Blk := [.cells (looseTo d d.widths.length).length ((looseTo d d.widths.length).map eI).flatten]
theorem h26_vB (d : Dome) : ((h26 d).map bV).map vB = h26 d := by simp [h26, bV, vB]
noncomputable def r26o : List V → Prop × V := fnG (fun d => [.ag (eDome d)]) dD (fun d => pitchE d true = 0) (fun d => d) (fun d => .tp [v26 d, .tp ((h26 d).map bV)])
def r23 : List V → Prop × V := fnG eDN dDN (fun a => a.1.rounds.length < 1000) (fun a => roundR a.1 a.2) eSE
noncomputable def r17 : List V → Prop × V := fnG eDN dDN (fun a => a.1.rounds.length < 1000) (fun a => tightR a.1 a.2) eNE
def r19 : List V → Prop × V := fnG eDN dDN (fun a => a.1.rounds.length < 1000) (fun a => cutR a.1 a.2) eSE
noncomputable def r26 : List V → Prop × V := fnG (fun d => [.ag (eDome d)]) dD (fun _ => True) looseR eLE
def r31 : List V → Prop × V := fnG (fun d => [.ag (eDome d)]) dD (fun _ => True) leastR eNE
def r36 : List V → Prop × V := fnG eDN dDN (fun a => a.1.bolts.length < 1000) (fun a => stretchesR a.1 a.2) eLE
def eLL (a : List Int × List Int) : List V := [.sl 1 (a.1.map eI), .sl 1 (a.2.map eI)]
def dLL : List V → List Int × List Int | [.sl _ x, .sl _ y] => (x.map dI, y.map dI) | _ => ([], [])
theorem dLL_e (a : List Int × List Int) : dLL (eLL a) = a := by simp [dLL, eLL, Function.comp_def, dI_eI]
def r28 : List V → Prop × V := fnG eLL dLL (fun a => a.1.length < 10000000) (fun a => decide (a.1 = a.2)) .b
def eSN (a : Span × Int) : List V := [.ag (eSpan a.1), .i a.2]
def dSN : List V → Span × Int | [.ag s, .i n] => (dSpan s, n) | _ => (⟨0, 0⟩, 0)
def r20 : List V → Prop × V := fnG eSN dSN (fun _ => True) (fun a => within a.2 a.1.low a.1.high) .b
def eLN (a : List Int × Int) : List V := [.sl 1 (a.1.map eI), .i a.2]
def dLN : List V → List Int × Int | [.sl _ x, .i y] => (x.map dI, y) | _ => ([], 0)
def r37 : List V → Prop × V := fnG eLN dLN (fun a => a.1.length < 10000000) (fun a => decide (a.2 ∈ a.1)) .b
def r44o : List V → Prop × V := fnG (fun _ : Unit => []) (fun _ => ()) (fun _ => True) (fun a => a) (fun _ => .tp [.ag exCs, .tp (exHp.map bV)])
theorem ex_vB : (exHp.map bV).map vB = exHp := by simp [exHp, exCs, bV, vB]
noncomputable def GR : Gam := ((((((((((GQ.ext 23 r23).ext 17 r17).ext 19 r19).ext 26 r26).ext 31 r31).ext 36 r36).ext 28 r28).ext 20 r20).ext 37 r37).ext 1000044 r44o).ext 1000026 r26o
theorem okR : GOk Try.prog GR := by
  have k1 := okQ.ext (f := 23) (r := r23) (fun a w => Try.call23 a w) (fnG_ok fun a h => P23 a.1 a.2 h)
  have k2 := k1.ext (f := 17) (r := r17) (fun a w => Try.call17 a w) (fnG_ok fun a h => P17 a.1 a.2 h)
  have k3 := k2.ext (f := 19) (r := r19) (fun a w => Try.call19 a w) (fnG_ok fun a h => P19 a.1 a.2 h)
  have k4 := k3.ext (f := 26) (r := r26) (fun a w => Try.call26 a w) (fnG_ok fun a _ => P26 a)
  have k5 := k4.ext (f := 31) (r := r31) (fun a w => Try.call31 a w) (fnG_ok fun a _ => P31 a)
  have k6 := k5.ext (f := 36) (r := r36) (fun a w => Try.call36 a w) (fnG_ok fun a h => P36 a.1 a.2 h)
  have k7 := k6.ext (f := 28) (r := r28) (fun a w => Try.call28 a w) (fnG_ok fun a h => P28 a.1 a.2 h)
  have k8 := k7.ext (f := 20) (r := r20) (fun a w => Try.call20 a w) (fnG_ok fun a _ => P20 a.1 a.2)
  have k9 := k8.ext (f := 37) (r := r37) (fun a w => Try.call37 a w) (fnG_ok fun a h => P37 a.1 a.2 h)
  have k10 := k9.extO (f := 44) (r := r44o) (fun a w => Try.call44 a w) (fnO_ok (hp := fun _ => exHp) (fun _ => ex_vB) fun _ _ => O44)
  exact k10.extO (f := 26) (r := r26o) (fun a w => Try.call26 a w) (fnO_ok (hp := h26) h26_vB fun d h => O26 d h)
theorem gR23 (b : List Bolt) (g : List Int) (l : Int) (r : List Span) (w : List Int) (s : Int) (n : Int) : GR 23 [.ag [.sl 4 (b.map eBolt), .sl 1 (g.map eI), .i l, .sl 2 (r.map eSpan), .sl 1 (w.map eI), .i s], .i n] = (r.length < 1000, eSE (roundR ⟨b, g, l, r, w, s⟩ n)) :=
  (show GR 23 _ = r23 (eDN (⟨b, g, l, r, w, s⟩, n)) from rfl).trans (fnG_at _ (dDN_e _))
theorem gR17 (b : List Bolt) (g : List Int) (l : Int) (r : List Span) (w : List Int) (s : Int) (n : Int) : GR 17 [.ag [.sl 4 (b.map eBolt), .sl 1 (g.map eI), .i l, .sl 2 (r.map eSpan), .sl 1 (w.map eI), .i s], .i n] = (r.length < 1000, eNE (tightR ⟨b, g, l, r, w, s⟩ n)) :=
  (show GR 17 _ = r17 (eDN (⟨b, g, l, r, w, s⟩, n)) from rfl).trans (fnG_at _ (dDN_e _))
theorem gR19 (b : List Bolt) (g : List Int) (l : Int) (r : List Span) (w : List Int) (s : Int) (n : Int) : GR 19 [.ag [.sl 4 (b.map eBolt), .sl 1 (g.map eI), .i l, .sl 2 (r.map eSpan), .sl 1 (w.map eI), .i s], .i n] = (r.length < 1000, eSE (cutR ⟨b, g, l, r, w, s⟩ n)) :=
  (show GR 19 _ = r19 (eDN (⟨b, g, l, r, w, s⟩, n)) from rfl).trans (fnG_at _ (dDN_e _))
theorem gR36 (b : List Bolt) (g : List Int) (l : Int) (r : List Span) (w : List Int) (s : Int) (n : Int) : GR 36 [.ag [.sl 4 (b.map eBolt), .sl 1 (g.map eI), .i l, .sl 2 (r.map eSpan), .sl 1 (w.map eI), .i s], .i n] = (b.length < 1000, eLE (stretchesR ⟨b, g, l, r, w, s⟩ n)) :=
  (show GR 36 _ = r36 (eDN (⟨b, g, l, r, w, s⟩, n)) from rfl).trans (fnG_at _ (dDN_e _))
theorem gR31 (b : List Bolt) (g : List Int) (l : Int) (r : List Span) (w : List Int) (s : Int) : GR 31 [.ag [.sl 4 (b.map eBolt), .sl 1 (g.map eI), .i l, .sl 2 (r.map eSpan), .sl 1 (w.map eI), .i s]] = (True, eNE (leastR ⟨b, g, l, r, w, s⟩)) :=
  (show GR 31 _ = r31 [.ag (eDome ⟨b, g, l, r, w, s⟩)] from rfl).trans (fnG_at (e := fun d => [.ag (eDome d)]) _ (dDome_e _))
theorem gR28 (a b : List Int) : GR 28 [.sl 1 (a.map eI), .sl 1 (b.map eI)] = (a.length < 10000000, .b (decide (a = b))) := (show GR 28 _ = r28 (eLL (a, b)) from rfl).trans (fnG_at _ (dLL_e _))
theorem gR44 : GR 1000044 [] = (True, .tp [.ag exCs, .tp (exHp.map bV)]) := (show GR 1000044 _ = r44o [] from rfl).trans (by simp [r44o, fnG])
theorem gR26o (b : List Bolt) (g : List Int) (l : Int) (r : List Span) (w : List Int) (s : Int) : GR 1000026 [.ag [.sl 4 (b.map eBolt), .sl 1 (g.map eI), .i l, .sl 2 (r.map eSpan), .sl 1 (w.map eI), .i s]] = (pitchE ⟨b, g, l, r, w, s⟩ true = 0, .tp [v26 ⟨b, g, l, r, w, s⟩, .tp ((h26 ⟨b, g, l, r, w, s⟩).map bV)]) :=
  (show GR 1000026 _ = r26o [.ag (eDome ⟨b, g, l, r, w, s⟩)] from rfl).trans (fnG_at (e := fun d => [.ag (eDome d)]) _ (dDome_e _))
theorem ex_round : roundR exD 2 = (⟨802, 808⟩, 0) := by kernel_rfl
theorem ex_cut : cutR exD 1 = (⟨160, 171⟩, 0) := by kernel_rfl
theorem ex_least : leastR exD2 = (480, 0) := by kernel_rfl
theorem ex_tight1 : tightOf (tentOf exD) 1 165 = 1 := by
  unfold tightOf
  rw [if_pos (of_decide_eq_true (by kernel_rfl))]
theorem ex_tight0 : tightOf (tentOf exD) 0 110 = 1 := by
  unfold tightOf
  rw [if_pos (of_decide_eq_true (by kernel_rfl))]
theorem ex_tight2 : tightOf (tentOf exD) 2 210 ≠ 1 := by
  unfold tightOf
  rw [if_neg (of_decide_eq_true (by kernel_rfl))]
  split <;> decide
theorem ex_tight : tightR exD 1 = (1, 0) := by
  unfold tightR
  rw [if_pos (by kernel_rfl)]
  rw [show widthAt exD 1 = 165 from by kernel_rfl, ex_tight1]
theorem ex_loose : looseR exD = ([2], 0) := by
  unfold looseR
  rw [if_pos (by kernel_rfl)]
  unfold looseTo
  rw [show ((ints 0 ((exD.widths.length : Int) - 1)).take exD.widths.length) = [0, 1, 2] from by kernel_rfl]
  have w0 : widthAt exD 0 = 110 := by kernel_rfl
  have w1 : widthAt exD 1 = 165 := by kernel_rfl
  have w2 : widthAt exD 2 = 210 := by kernel_rfl
  simp [List.filter, w0, w1, w2, ex_tight0, ex_tight1, ex_tight2]
theorem ex_looseTo : looseTo exD exD.widths.length = [2] := by
  have := ex_loose
  unfold looseR at this
  rw [if_pos (by kernel_rfl)] at this
  exact (Prod.mk.inj this).1
theorem g28ex : GR 28 [.sl 1 [[.i 2]], .sl 1 [[.i 2]]] = (True, .b true) := (gR28 [2] [2]).trans (by simp)
theorem ex_p : pitchE exD true = 0 := by kernel_rfl
set_option maxRecDepth 20000 in
set_option maxHeartbeats 4000000 in
theorem P16 : PureCall Try.prog 16 [] (.b true) := by
  refine pure_body okR hmix Try.func16 cb16 cc16 cs16 cn16 ?_
  simp only [rc16, rs16, gR44, exCs, exHp, vw_S, ↓exRows, ↓exRows2, exE, exE2, exLen, gR23, gR17, gR19, gR26o, gR31, ex_round, ex_tight, ex_cut, ex_looseTo, ex_p, ex_least, v26, h26, g28ex, eqSpan, Bool.false_xor, eSE, eNE, List.flatten_cons, List.flatten_nil, ru_reg, ru_seq, ru_ret, ru_keep, chunk1, stepO, ocV, nidQ, plO, plQ, plB, rflat, rflatL, rflatB, shV, shL, shB, vB_cells, putB, thenQ, run_nil, run_cons, Fam.step, stepQ, stepW, needQ, needW, condB, ug, putB, nv, sv, evO, opv, qv, pickV_bb, binV, ldV, iadV, curG, callV, foldParts, putAt, partsOk, partsOne, V.cells, solid, cellOk, intsOf, hasRef, hasRefL, flat, flatL, upd_some, upd_none, lkp_cons, lkp_nil, ↓reduceIte, Nat.reduceEqDiff, Nat.reduceAdd, Nat.reduceMul, Nat.reduceLT, Nat.reduceLeDiff, Int.reduceToNat, Int.reduceLE, List.map_cons, List.map_nil, List.all_cons, List.all_nil, List.length_cons, List.length_nil, List.drop_succ_cons, List.drop_zero, List.drop_nil, List.take_succ_cons, List.take_zero, List.take_nil, List.headD_cons, List.cons_append, List.nil_append, List.append_nil, List.getElem?_cons_zero, List.getElem?_cons_succ, Option.getD_some, List.set_cons_zero, List.set_cons_succ, List.replicate_zero, List.replicate_succ, endQ, rvs, rv1, resV, vw_i, vw_b, vw_sl, vw_ag, vw_rf, zipA, beq_self_eq_true, Nat.zero_add, Nat.add_zero, Bool.and_self, Bool.and_true, Bool.and_false, Bool.or_false, Bool.or_true, Bool.not_true, Bool.not_false, Bool.false_eq_true, Bool.true_eq_false, decide_true, true_and, and_true, and_self, forall_const, implies_true, reduceCtorEq, not_false_eq_true, ne_eq, Option.map_some, eSpan, eI]
  decide
end Go.C02
set_option linter.unusedSimpArgs false
set_option linter.unusedVariables false
namespace Go.C02
open Go.Fam Go.Proofs
def bigs (d : Dome) : Bool := decide ((20 : Int) < d.bolts.length) || decide ((60 : Int) < d.gores.length) || decide ((60 : Int) < d.rounds.length) || decide ((60 : Int) < d.widths.length)
def manyTo (d : Dome) (k : Nat) : Int := (d.bolts.take k).foldl (fun m b => m * (numbersOf b).length) 1
theorem manyTo_succ {d : Dome} {k : Nat} {b : Bolt} (h : d.bolts[k]? = some b) : manyTo d (k + 1) = manyTo d k * (numbersOf b).length := by
  simp [manyTo, take_succ_of h]
def far (d : Dome) : Bool :=
  if bigs d then true else if d.bolts.any (fun b => decide ((60 : Int) < b.strips.length)) then true else if check d ≠ 0 then false
  else decide ((49 : Int) < manyTo d d.bolts.length) || decide ((8 : Int) < d.gores.length) || decide ((4 : Int) < d.rounds.length)
theorem manyTo_range {d : Dome} (hv : Valid d) : ∀ k : Nat, k ≤ 4 → 0 ≤ manyTo d k ∧ manyTo d k ≤ 61 ^ k
  | 0, _ => by simp [manyTo]
  | k + 1, hk => by
    have h1 := manyTo_range hv k (by omega)
    cases hb : d.bolts[k]? with
    | none =>
      have : manyTo d (k + 1) = manyTo d k := by
        have hl := List.getElem?_eq_none_iff.1 hb
        simp [manyTo, List.take_of_length_le hl, List.take_of_length_le (Nat.le_trans hl (Nat.le_succ k))]
      rw [this]
      refine ⟨h1.1, Int.le_trans h1.2 ?_⟩
      exact_mod_cast Nat.pow_le_pow_right (by decide : 0 < 61) (Nat.le_succ k)
    | some b =>
      rw [manyTo_succ hb]
      have h2 := numbersOf_len (hv.bolts b (List.mem_of_getElem? hb))
      refine ⟨Int.mul_nonneg h1.1 (by omega), ?_⟩
      rw [Int.pow_succ]
      exact Int.mul_le_mul h1.2 (by omega) (by omega) (by exact_mod_cast Nat.zero_le (61 ^ k))
theorem gR39 (b : List Bolt) (g : List Int) (l : Int) (r : List Span) (w : List Int) (s : Int) : GR 39 [.ag [.sl 4 (b.map eBolt), .sl 1 (g.map eI), .i l, .sl 2 (r.map eSpan), .sl 1 (w.map eI), .i s]] = (True, .i (check ⟨b, g, l, r, w, s⟩)) := gJ39 ⟨b, g, l, r, w, s⟩
theorem gR49 (a b : Int) (l : List Strip) (w s : Int) : GR 49 [.ag [.i a, .i b, .sl 3 (l.map eStrip), .i w], .i s] = (ok66 l s, .b (can ⟨⟨a, b⟩, l, w⟩ s)) := gJ49 a b l w s
theorem P21 (d : Dome) : PureCall Try.prog 21 [.ag (eDome d)] (.b (far d)) := by
  refine pure_body okR hmix Try.func21 cb21 cc21 cs21 cn21 ?_
  simp only [rc21, rs21, ru_skip, ru_reg, ru_seq, ru_cnd, ite_P, ru_block, ru_ret, ru_keep, thenQ, run_nil, run_cons, Fam.step, stepQ, needQ, condB, ug, evO, opv, qv, pickV_bb, binV, ldV, lenV, V.cells, solid, hasRef, hasRefL, upd_some, lkp_cons, lkp_nil, ↓reduceIte, Nat.reduceEqDiff, Nat.reduceAdd, Nat.reduceLeDiff, List.map_cons, List.map_nil, List.all_cons, List.all_nil, List.length_cons, List.length_nil, List.drop_succ_cons, List.drop_zero, List.headD_cons, endQ, rvs, rv1, resV, vw_i, vw_b, vw_sl, vw_ag, zipA, Nat.zero_add, V.b.injEq, Bool.and_self, Bool.and_true, Bool.or_false, Bool.false_eq_true, decide_eq_true_eq, decide_eq_false_iff_not, true_and, and_true, and_self, implies_true, beq_false, Bool.not_eq_true', ite_t, Bool.decide_eq_true, imp_self, List.length_map, Bool.not_eq_true, eDome]
  refine ⟨fun h => ?_, fun h => ?_⟩
  · have : bigs d = true := h
    simp [far, this]
  have hbig : bigs d = false := h
  have hlen : d.bolts.length ≤ 20 := by
    simp only [bigs, Bool.or_eq_false_iff, decide_eq_false_iff_not] at hbig
    omega
  refine ru_countC d.bolts.length (fun i => ⟨lkp [(1, .pa (eDome d)), (3, .i i)], []⟩) (fun i => (d.bolts.take i).any (fun b => decide ((60 : Int) < b.strips.length)) = false) ?_ ?_ ?_ ?_
  · simp only [Int.natCast_zero, kp, lkp_cons, lkp_nil, ↓reduceIte, Nat.reduceEqDiff, List.map_cons, List.map_nil, eDome]
  · rfl
  · intro i hi hC
    obtain ⟨b, hb⟩ : ∃ b, d.bolts[i]? = some b := ⟨_, List.getElem?_eq_getElem hi⟩
    have hlt : (i : Int) < d.bolts.length := by omega
    have h3 : inI ((i : Int) + 1) := by unfold inI; omega
    simp only [hb, hlt, h3, Int.natCast_add, Int.natCast_one, ru_skip, ru_reg, ru_seq, ru_cnd, ite_P, ru_block, ru_ret, ru_keep, thenQ, blockQ, run_nil, run_cons, Fam.step, stepQ, evO, opv, qv, binV, ldV, iadV, lenV, kp, upd_some, lkp_cons, lkp_nil, ↓reduceIte, Nat.reduceEqDiff, Nat.reduceAdd, Nat.reduceLeDiff, List.map_cons, List.map_nil, List.length_cons, List.length_nil, List.drop_succ_cons, List.drop_zero, List.headD_cons, Option.getD_some, endQ, rvs, rv1, resV, vw_b, Int.natCast_nonneg, Nat.zero_add, V.b.injEq, Bool.false_eq_true, decide_true, decide_eq_true_eq, true_and, and_true, and_self, Option.map_some, List.length_map, Int.toNat_natCast, List.getD_eq_getElem?_getD, List.getElem?_map, eBolt, eDome]
    refine ⟨fun h60 => ?_, fun h60 => ?_⟩
    · have : d.bolts.any (fun b => decide ((60 : Int) < b.strips.length)) = true := List.any_eq_true.2 ⟨b, List.mem_of_getElem? hb, by simpa using h60⟩
      simp [far, hbig, this]
    · rw [take_succ_of hb, List.any_append, hC]
      simp; omega
  · intro hC
    rw [List.take_length] at hC
    simp only [gR39, ru_skip, ru_reg, ru_seq, ru_cnd, ite_P, ru_block, ru_exit, ru_ret, ru_keep, thenQ, blockQ, run_nil, run_cons, Fam.step, stepQ, evO, opv, qv, binV, ldV, lenV, callV, hasRef, hasRefL, flat, upd_some, lkp_cons, lkp_nil, ↓reduceIte, Nat.reduceEqDiff, Nat.reduceAdd, Nat.reduceLT, Nat.reduceLeDiff, List.map_cons, List.map_nil, List.length_cons, List.length_nil, List.drop_zero, List.take_succ_cons, List.take_nil, List.headD_cons, List.append_nil, endQ, rvs, rv1, resV, vw_i, vw_b, vw_sl, vw_ag, Int.lt_irrefl, Nat.zero_add, V.b.injEq, Bool.or_false, Bool.false_eq_true, decide_false, decide_eq_false_iff_not, true_and, and_self, implies_true, Bool.not_eq_true', List.length_map, Classical.not_not, domeE, eDome]
    refine ⟨fun hc => ?_, fun hc => ?_⟩
    · simp [far, hbig, hC, hc]
    have hv := valid_of hc
    have hnb := hv.nb
    refine ru_count d.bolts.length (fun i => ⟨lkp [(1, .pa (eDome d)), (4, .i (manyTo d i)), (5, .i i)], []⟩) ?_ ?_ ?_
    · simp only [Int.natCast_zero, manyTo, List.foldl_nil, List.foldl_nil, kp, lkp_cons, lkp_nil, ↓reduceIte, Nat.reduceEqDiff, List.map_cons, List.map_nil, List.take_zero, eDome]
    · intro i hi
      obtain ⟨b, hb⟩ : ∃ b, d.bolts[i]? = some b := ⟨_, List.getElem?_eq_getElem hi⟩
      have hlt : (i : Int) < d.bolts.length := by omega
      have h3 : inI ((i : Int) + 1) := by unfold inI; omega
      have hvb := hv.bolts b (List.mem_of_getElem? hb)
      have hst := hvb.st
      simp only [hb, hlt, Int.natCast_add, Int.natCast_one, ru_skip, ru_reg, ru_seq, ru_cnd, ru_block, ru_keep, thenQ, run_nil, run_cons, Fam.step, stepQ, evO, opv, qv, binV, ldV, iadV, lenV, kp, upd_some, lkp_cons, lkp_nil, ↓reduceIte, Nat.reduceEqDiff, Nat.reduceAdd, Nat.reduceLeDiff, List.map_cons, List.map_nil, List.length_cons, List.length_nil, List.drop_zero, List.headD_cons, Option.getD_some, Int.natCast_nonneg, Nat.zero_add, Bool.false_eq_true, decide_true, true_and, and_self, Option.map_some, List.length_map, Int.toNat_natCast, List.getD_eq_getElem?_getD, List.getElem?_map, eBolt, eDome]
      refine ru_count (b.stretch.high + 1 - b.stretch.low).toNat (fun k => ⟨lkp [(1, .pa (eDome d)), (4, .i (manyTo d i)), (5, .i i), (6, .i (numbersTo b k).length), (7, .i (b.stretch.low + k))], []⟩) ?_ ?_ ?_
      · simp only [Int.natCast_zero, Int.add_zero, numbersTo, List.filter_nil, kp, lkp_cons, lkp_nil, ↓reduceIte, Nat.reduceEqDiff, List.map_cons, List.map_nil, List.length_nil, List.take_zero, eDome]
      · intro k hk
        have hlt2 : b.stretch.low + (k : Int) ≤ b.stretch.high := by omega
        have h4 : inI (b.stretch.low + (k : Int) + 1) := by unfold inI; omega
        have h5 := hvb.ok66 (s := b.stretch.low + k) (by omega)
        have h6 := numbersTo_len b k
        have h7 : inI (((numbersTo b k).length : Int) + 1) := by unfold inI; omega
        rw [Int.add_assoc] at h4
        simp only [hb, hlt, hlt2, h4, h5, h7, gR49, numbersTo_succ hk, Int.natCast_add, Int.natCast_one, Int.add_assoc, ru_skip, ru_reg, ru_seq, ru_cnd, ite_P, ru_block, ru_keep, thenQ, blockQ, run_nil, run_cons, Fam.step, stepQ, evO, opv, qv, binV, ldV, iadV, callV, hasRef, hasRefL, flat, kp, upd_some, lkp_cons, lkp_nil, ↓reduceIte, Nat.reduceEqDiff, Nat.reduceAdd, Nat.reduceLT, Nat.reduceLeDiff, List.map_cons, List.map_nil, List.length_cons, List.length_nil, List.drop_succ_cons, List.drop_zero, List.take_succ_cons, List.take_nil, List.headD_cons, List.append_nil, Option.getD_some, vw_i, vw_sl, vw_ag, Int.natCast_nonneg, Nat.zero_add, Bool.or_false, Bool.false_eq_true, decide_true, true_and, and_self, implies_true, Option.map_some, List.length_map, Int.toNat_natCast, List.getD_eq_getElem?_getD, List.getElem?_map, Bool.not_eq_true, spanE, boltE, eBolt, eDome]
        refine ⟨fun h => ?_, fun h => ?_⟩
        · simp only [h, List.length_append, Int.natCast_add, Int.natCast_one, ↓reduceIte, List.length_cons, List.length_nil, Nat.zero_add]
        · simp only [h, ↓reduceIte, List.append_nil, Bool.false_eq_true]
      · have hgt : ¬ (b.stretch.low + ((b.stretch.high + 1 - b.stretch.low).toNat : Int) ≤ b.stretch.high) := by omega
        have hm := manyTo_range hv (i + 1) (by omega)
        have hp : (61 : Int) ^ (i + 1) ≤ 61 ^ 4 := by exact_mod_cast Nat.pow_le_pow_right (by decide : 0 < 61) (show i + 1 ≤ 4 by omega)
        rw [manyTo_succ hb] at hm
        have h8 : inI (manyTo d i * (numbersOf b).length) := by unfold inI; omega
        simp only [hb, hlt, hgt, numbersTo_all, h8, h3, manyTo_succ hb, ru_reg, ru_seq, ru_cnd, ru_exit, ru_keep, thenQ, blockQ, run_nil, run_cons, Fam.step, stepQ, evO, opv, qv, binV, ldV, iadV, upd_some, lkp_cons, lkp_nil, ↓reduceIte, Nat.reduceEqDiff, Nat.reduceAdd, Nat.reduceLeDiff, List.map_cons, List.map_nil, List.length_cons, List.length_nil, List.drop_succ_cons, List.drop_zero, List.headD_cons, Option.getD_some, Int.natCast_nonneg, Nat.zero_add, Bool.false_eq_true, decide_false, and_self, Option.map_some, List.length_map, Int.toNat_natCast, List.getD_eq_getElem?_getD, List.getElem?_map, eBolt, eDome]
    · simp only [ru_reg, ru_seq, ru_cnd, ru_exit, ru_ret, ru_keep, thenQ, blockQ, run_nil, run_cons, Fam.step, stepQ, needQ, condB, ug, evO, opv, qv, pickV_bb, binV, ldV, lenV, upd_some, lkp_cons, lkp_nil, ↓reduceIte, Nat.reduceEqDiff, Nat.reduceAdd, Nat.reduceLeDiff, List.map_cons, List.map_nil, List.all_cons, List.all_nil, List.length_cons, List.length_nil, List.drop_succ_cons, List.drop_zero, List.headD_cons, endQ, rvs, rv1, resV, vw_b, Int.lt_irrefl, Nat.zero_add, V.b.injEq, Bool.and_self, Bool.and_true, Bool.false_eq_true, decide_false, decide_eq_true_eq, decide_eq_false_iff_not, true_and, and_true, and_self, implies_true, beq_false, Bool.not_eq_true', ite_t, Bool.decide_eq_true, imp_self, List.length_map, eDome]
      simp [far, hbig, hC, hc]
def r21 : List V → Prop × V := fnG (fun d => [.ag (eDome d)]) dD (fun _ => True) far .b
def r16 : List V → Prop × V := fnG (fun _ : Unit => []) (fun _ => ()) (fun _ => True) (fun _ => true) .b
noncomputable def GS : Gam := (GR.ext 21 r21).ext 16 r16
theorem okS : GOk Try.prog GS := by
  have k1 := okR.ext (f := 21) (r := r21) (fun a w => Try.call21 a w) (fnG_ok fun a _ => P21 a)
  exact k1.ext (f := 16) (r := r16) (fun a w => Try.call16 a w) (fnG_ok fun _ _ => P16)
theorem gS21 (b : List Bolt) (g : List Int) (l : Int) (r : List Span) (w : List Int) (s : Int) : GS 21 [.ag [.sl 4 (b.map eBolt), .sl 1 (g.map eI), .i l, .sl 2 (r.map eSpan), .sl 1 (w.map eI), .i s]] = (True, .b (far ⟨b, g, l, r, w, s⟩)) :=
  (show GS 21 _ = r21 [.ag (eDome ⟨b, g, l, r, w, s⟩)] from rfl).trans (fnG_at (e := fun d => [.ag (eDome d)]) _ (dDome_e _))
theorem gS39 (b : List Bolt) (g : List Int) (l : Int) (r : List Span) (w : List Int) (s : Int) : GS 39 [.ag [.sl 4 (b.map eBolt), .sl 1 (g.map eI), .i l, .sl 2 (r.map eSpan), .sl 1 (w.map eI), .i s]] = (True, .i (check ⟨b, g, l, r, w, s⟩)) := gR39 b g l r w s
theorem gS16 : GS 16 [] = (True, .b true) := (show GS 16 _ = r16 [] from rfl).trans (by simp [r16, fnG])
theorem gS22o (b : List Bolt) (g : List Int) (l : Int) (r : List Span) (w : List Int) (s : Int) : GS 1000022 [.ag [.sl 4 (b.map eBolt), .sl 1 (g.map eI), .i l, .sl 2 (r.map eSpan), .sl 1 (w.map eI), .i s]] = (Ok22 ⟨b, g, l, r, w, s⟩, .tp [copyV ⟨b, g, l, r, w, s⟩, .tp ((copyHp ⟨b, g, l, r, w, s⟩).map bV)]) :=
  (show GS 1000022 _ = r22o [.ag (eDome ⟨b, g, l, r, w, s⟩)] from rfl).trans (fnG_at (e := fun d => [.ag (eDome d)]) _ (dDome_e _))
def ready (d : Dome) (row : Int) : Bool := !far d && decide (check d = 0) && decide (0 ≤ row) && decide (row < d.rounds.length)
theorem P15 (d : Dome) (row : Int) : PureCall Try.prog 15 [.ag (eDome d), .i row] (.b (ready d row)) := by
  refine pure_body okS hmix Try.func15 cb15 cc15 cs15 cn15 ?_
  simp only [rc15, rs15, gS21, gS39, ready, ru_reg, ru_seq, ru_ret, ru_keep, thenQ, run_nil, run_cons, Fam.step, stepQ, needQ, condB, ug, evO, opv, qv, pickV_bb, binV, ldV, lenV, callV, V.cells, solid, hasRef, hasRefL, flat, upd_some, lkp_cons, lkp_nil, ↓reduceIte, Nat.reduceEqDiff, Nat.reduceAdd, Nat.reduceLT, Nat.reduceLeDiff, List.map_cons, List.map_nil, List.all_cons, List.all_nil, List.length_cons, List.length_nil, List.drop_succ_cons, List.drop_zero, List.take_succ_cons, List.take_nil, List.headD_cons, List.append_nil, endQ, rvs, rv1, resV, vw_i, vw_b, vw_sl, vw_ag, zipA, Nat.zero_add, Bool.and_self, Bool.and_true, Bool.or_false, Bool.false_eq_true, and_true, and_self, implies_true, reduceCtorEq, beq_true, Bool.not_eq_false', Bool.not_eq_true', ite_f, Bool.decide_eq_true, Bool.decide_eq_false, imp_self, List.length_map, domeE, eDome]
theorem hole_vb : vB (bV .hole) = .hole := rfl
theorem put_I {l : List Int} {k : Nat} {x : Int} (h : k < l.length) : List.take k (l.map eI).flatten ++ [V.i x] ++ List.drop (k + 1) (l.map eI).flatten = ((l.set k x).map eI).flatten := by
  have e : ∀ l : List Int, (l.map eI).flatten = l.map V.i := by
    intro l
    induction l with
    | nil => rfl
    | cons y l ih => rw [List.map_cons, List.flatten_cons, ih]; rfl
  rw [e, e, List.map_set, List.set_eq_take_append_cons_drop, if_pos (by simpa using h)]
  simp
theorem P18 (d : Dome) (row w : Int) (h : Ok22 d) (hr : 0 ≤ row ∧ row < d.widths.length) : PureCall Try.prog 18 [.ag (eDome d), .i row, .i w] (.ag (eDome { d with widths := d.widths.set row.toNat w })) := by
  refine pure_body okS hmix Try.func18 cb18 cc18 cs18 cn18 ?_
  have nb := hasRefL_flat (e := eBolt) (fun _ => rfl) d.bolts
  have hset : List.take row.toNat (d.widths.map eI).flatten ++ [V.i w] ++ List.drop (row.toNat + 1) (d.widths.map eI).flatten = ((d.widths.set row.toNat w).map eI).flatten := put_I (by omega)
  have hsl : (d.widths.set row.toNat w).length = d.widths.length := List.length_set
  have hch := chunk_I (d.widths.set row.toNat w)
  rw [hsl] at hch
  have hw1 : row.toNat + 1 ≤ d.widths.length := by omega
  simp only [rc18, rs18, gS22o, h, copyV, copyHp, copyCs, hr, hole_vb, shL_noref _ _ nb, shL_noref _ _ (noref_I _), shL_noref _ _ (noref_S _), flat_len (e := eBolt) (k := 4) (fun _ => rfl), len_I, len_S, Nat.mul_one, hset, hch, hw1, chunk_flat (e := eBolt) (k := 4) (fun _ => rfl), chunk_I, chunk_flat (e := eSpan) (k := 2) (fun _ => rfl), vw_B, vw_S, vw_I, Nat.le_refl, hsl, ru_reg, ru_seq, ru_ret, ru_keep, stepO, ocV, nidQ, plO, plQ, plB, rflat, rflatL, rflatB, shV, shL, shB, vB_cells, putB, thenQ, run_nil, run_cons, Fam.step, stepQ, stepW, needW, putB, nv, sv, evO, opv, qv, ldV, iadV, curG, putAt, V.cells, solid, cellOk, hasRef, hasRefL, upd_some, upd_none, lkp_cons, lkp_nil, ↓reduceIte, Nat.reduceEqDiff, Nat.reduceAdd, Nat.reduceLT, Nat.reduceLeDiff, List.map_cons, List.map_nil, List.all_cons, List.all_nil, List.length_cons, List.length_nil, List.drop_succ_cons, List.drop_zero, List.drop_nil, List.take_succ_cons, List.take_zero, List.take_nil, List.headD_cons, List.cons_append, List.nil_append, List.append_nil, List.getElem?_cons_zero, List.getElem?_cons_succ, List.set_cons_zero, List.set_cons_succ, endQ, rvs, rv1, resV, vw_i, vw_sl, vw_ag, vw_rf, zipA, beq_self_eq_true, Nat.zero_add, Bool.and_self, Bool.and_true, Bool.true_and, Bool.false_and, Bool.or_false, Bool.false_eq_true, and_self, reduceCtorEq, domeE, eDome]
end Go.C02
set_option linter.unusedSimpArgs false
set_option linter.unusedVariables false
namespace Go.C02
open Go.Fam Go.Proofs
def cutD (d : Dome) (row w : Int) : Dome := { d with widths := d.widths.set row.toNat w }
def eDNN (a : Dome × Int × Int) : List V := [.ag (eDome a.1), .i a.2.1, .i a.2.2]
def dDNN : List V → Dome × Int × Int | [.ag cs, .i n, .i m] => (dDome cs, n, m) | _ => (D0, 0, 0)
theorem dDNN_e (a : Dome × Int × Int) : dDNN (eDNN a) = a := by simp [dDNN, eDNN, dDome_e]
def r15 : List V → Prop × V := fnG eDN dDN (fun _ => True) (fun a => ready a.1 a.2) .b
def r18 : List V → Prop × V := fnG eDNN dDNN (fun a => Ok22 a.1 ∧ 0 ≤ a.2.1 ∧ a.2.1 < a.1.widths.length) (fun a => cutD a.1 a.2.1 a.2.2) (fun d => .ag (eDome d))
noncomputable def GT : Gam := (GS.ext 15 r15).ext 18 r18
theorem okT : GOk Try.prog GT := by
  have k1 := okS.ext (f := 15) (r := r15) (fun a w => Try.call15 a w) (fnG_ok fun a _ => P15 a.1 a.2)
  exact k1.ext (f := 18) (r := r18) (fun a w => Try.call18 a w) (fnG_ok fun a h => P18 a.1 a.2.1 a.2.2 h.1 h.2)
section
variable (b : List Bolt) (g : List Int) (l : Int) (r : List Span) (w : List Int) (s n m : Int)
theorem gT15 : GT 15 [.ag [.sl 4 (b.map eBolt), .sl 1 (g.map eI), .i l, .sl 2 (r.map eSpan), .sl 1 (w.map eI), .i s], .i n] = (True, .b (ready ⟨b, g, l, r, w, s⟩ n)) :=
  (show GT 15 _ = r15 (eDN (⟨b, g, l, r, w, s⟩, n)) from rfl).trans (fnG_at _ (dDN_e _))
theorem gT18 : GT 18 [.ag [.sl 4 (b.map eBolt), .sl 1 (g.map eI), .i l, .sl 2 (r.map eSpan), .sl 1 (w.map eI), .i s], .i n, .i m] = (Ok22 ⟨b, g, l, r, w, s⟩ ∧ 0 ≤ n ∧ n < w.length, .ag (eDome (cutD ⟨b, g, l, r, w, s⟩ n m))) :=
  (show GT 18 _ = r18 (eDNN (⟨b, g, l, r, w, s⟩, n, m)) from rfl).trans (fnG_at _ (dDNN_e _))
end
/-! The plain law. -/
theorem pull_mono {a b s : Int} (h : 0 ≤ a) (hab : a ≤ b) (hs : 0 ≤ s) : pull a s ≤ pull b s := by
  have h1 : a * (1000 + s) ≤ b * (1000 + s) := Int.mul_le_mul_of_nonneg_right hab (by omega)
  have h2 : 0 ≤ a * (1000 + s) := Int.mul_nonneg h (by omega)
  unfold pull
  rw [Int.tdiv_eq_ediv_of_nonneg h2, Int.tdiv_eq_ediv_of_nonneg (Int.le_trans h2 h1)]
  exact Int.ediv_le_ediv (by decide) h1
theorem sumBy_mono {l : List Int} {f g : Int → Int} (h : ∀ x ∈ l, f x ≤ g x) : sumBy l f ≤ sumBy l g := by
  unfold sumBy
  induction l with
  | nil => simp
  | cons x l ih =>
    simp only [List.map_cons, List.sum_cons]
    have := h x (by simp)
    have := ih fun y hy => h y (by simp [hy])
    omega
theorem sorted_bounds {l : List Int} (h : l.Pairwise (· < ·)) {x : Int} (hx : x ∈ l) : l.headD 0 ≤ x ∧ x ≤ l.getLastD 0 := by
  constructor
  · cases l with
    | nil => cases hx
    | cons y l =>
      rw [List.pairwise_cons] at h
      rcases List.mem_cons.1 hx with rfl | hx
      · simp
      · have := h.1 x hx; simp; omega
  · induction l generalizing x with
    | nil => cases hx
    | cons y l ih =>
      rw [List.pairwise_cons] at h
      cases l with
      | nil => simp at hx; subst hx; simp
      | cons z l =>
        have e : (y :: z :: l).getLastD 0 = (z :: l).getLastD 0 := by simp [List.getLastD_eq_getLast?, List.getLast?_cons]
        rw [e]
        rcases List.mem_cons.1 hx with rfl | hx
        · have h1 := h.1 z (by simp)
          have h2 := ih h.2 (x := z) (by simp)
          omega
        · exact ih h.2 hx
theorem ints_sorted (lo hi : Int) : (ints lo hi).Pairwise (· < ·) := by
  unfold ints
  rw [List.pairwise_map]
  exact List.Pairwise.imp (fun h => by omega) List.pairwise_lt_range
theorem canTent_low {d : Dome} (h : Good d) {g : Int} (hg : g ∈ d.gores) : 0 ≤ lowOf (tentOf d) g ∧ lowOf (tentOf d) g ≤ highOf (tentOf d) g := by
  have hgg := h.v.gores g hg
  obtain ⟨b, hb⟩ : ∃ b, d.bolts[g.toNat]? = some b := ⟨_, List.getElem?_eq_getElem (by omega)⟩
  have hbm := List.mem_of_getElem? hb
  have hc : (tentOf d).can[g.toNat]? = some (numbersOf b) := by simp [tentOf, cansOf, hb]
  have hne := h.ne b hbm
  have hs : (numbersOf b).Pairwise (· < ·) := (ints_sorted _ _).filter _
  simp only [lowOf, highOf, hc, Option.getD_some]
  have h1 := headD_mem hne
  have h2 := numbersOf_range (h.v.bolts b hbm) h1
  exact ⟨h2.1, (sorted_bounds hs h1).2⟩
theorem round_mono {d : Dome} (h : Good d) {a b : Int} (ha : 2 * d.loss ≤ a) (hab : a ≤ b) : (roundOf (tentOf d) a).low ≤ (roundOf (tentOf d) b).low ∧ (roundOf (tentOf d) a).high ≤ (roundOf (tentOf d) b).high := by
  refine ⟨sumBy_mono fun g hg => ?_, sumBy_mono fun g hg => ?_⟩
  · have := canTent_low h hg
    exact pull_mono (by simp only [tentOf]; omega) (by simp only [tentOf]; omega) (by omega)
  · have := canTent_low h hg
    exact pull_mono (by simp only [tentOf]; omega) (by simp only [tentOf]; omega) (by omega)
/-- widths within their bounds change nothing in what is valid -/
theorem check_cut {d : Dome} (h : check d = 0) {row w : Int} (hw : 2 * d.loss ≤ w ∧ w ≤ 2000) : check (cutD d row w) = 0 := by
  obtain ⟨h1, h2⟩ := isDome_of h
  have h3 : isDome (cutD d row w) = true := by
    show isDome ⟨d.bolts, d.gores, d.loss, d.rounds, d.widths.set row.toNat w, d.slope⟩ = true
    simp only [isDome, headOk, within, Bool.and_eq_true, decide_eq_true_eq, List.all_eq_true, goreOk, roundOk, widthOk] at h1 ⊢
    rw [List.length_set]
    refine ⟨h1.1, fun x hx => ?_⟩
    rcases List.mem_or_eq_of_mem_set hx with hx | rfl
    · exact h1.2 x hx
    · exact hw
  have h4 : (cutD d row w).bolts.all isBolt = true := h2
  simp [check, h3, h4]
theorem pitch_cut {d : Dome} (h : check d = 0) {row w : Int} (hw : 2 * d.loss ≤ w ∧ w ≤ 2000) (is : Bool) : pitchE (cutD d row w) is = pitchE d is := by
  have : cansOf (cutD d row w) = cansOf d := rfl
  simp [pitchE, h, check_cut h hw, this]
theorem ready_of {d : Dome} {row : Int} (h : ready d row = true) : Valid d ∧ check d = 0 ∧ isRow d row = true ∧ 0 ≤ row ∧ row < d.rounds.length := by
  simp only [ready, Bool.and_eq_true, decide_eq_true_eq] at h
  obtain ⟨⟨⟨_, h2⟩, h3⟩, h4⟩ := h
  refine ⟨valid_of h2, h2, ?_, h3, h4⟩
  simp only [isRow, within, Bool.and_eq_true, decide_eq_true_eq]
  omega
theorem Valid.ok22 {d : Dome} (h : Valid d) : Ok22 d := by
  have := h.nb
  have := h.ng
  have := h.nr
  have := h.nw
  exact ⟨by omega, by omega, by omega, by omega, fun b hb => by have := (h.bolts b hb).n; omega⟩
theorem pitch_vals {d : Dome} (h : check d = 0) : pitchE d true = 0 ∨ pitchE d true = 3 := by
  unfold pitchE
  rw [if_neg (by simp [h])]
  by_cases hc : (cansOf d).any List.isEmpty = true <;> simp [hc]
end Go.C02
set_option linter.unusedSimpArgs false
set_option linter.unusedVariables false
namespace Go.C02
open Go.Fam Go.Proofs
def okCan (b : Bolt) (s : Int) : Prop := within s b.stretch.low b.stretch.high = true → ok66 b.strips s
theorem gT54 (n lo hi : Int) : GT 54 [.i n, .i lo, .i hi] = (True, .b (within n lo hi)) := gJ54 n lo hi
theorem gT66 (a b : Int) (l : List Strip) (w s : Int) : GT 66 [.ag [.i a, .i b, .sl 3 (l.map eStrip), .i w], .i s] = (ok66 l s, .i (falses l s)) := gJ66 a b l w s
theorem P49w (b : Bolt) (s : Int) (h : okCan b s) : PureCall Try.prog 49 [.ag (eBolt b), .i s] (.b (can b s)) := by
  refine pure_body okT hmix Try.func49 cb49 cc49 cs49 cn49 ?_
  unfold okCan at h
  simp only [rc49, rs49, gT54, gT66, ru_reg, ru_any, ru_seq, ru_ret, ru_keep, putBs, thenQ, run_nil, run_cons, Fam.step, stepQ, needQ, condB, ug, runX, eff, nextD, fpR, fpQ, fpV, disjB, hits, evO, opv, qv, pickV_bb, binV, ldV, callV, V.cells, solid, hasRef, hasRefL, flat, upd_some, lkp_cons, lkp_nil, ↓reduceIte, Nat.reduceEqDiff, Nat.reduceAdd, Nat.reduceLT, Nat.reduceLeDiff, List.map_cons, List.map_nil, List.all_cons, List.all_nil, List.length_cons, List.length_nil, List.drop_succ_cons, List.drop_zero, List.take_succ_cons, List.take_nil, List.headD_cons, List.cons_append, List.nil_append, List.append_nil, List.getElem?_nil, Option.getD_none, List.replicate_zero, List.isEmpty_nil, endQ, rvs, rv1, resV, vw_i, vw_b, vw_sl, vw_ag, zipA, Nat.zero_add, V.b.injEq, Bool.and_self, Bool.and_true, Bool.false_and, Bool.or_false, Bool.not_true, Bool.not_false, Bool.false_eq_true, true_and, and_true, and_self, implies_true, reduceCtorEq, List.any_nil, List.contains_nil, beq_true, ite_f, Bool.decide_eq_true, imp_self, List.getD_eq_getElem?_getD, eBolt]
  exact ⟨fun hw => ⟨hw, h hw⟩, rfl⟩
def r49w : List V → Prop × V := fnG eBI dBI (fun a => okCan a.1 a.2) (fun a => can a.1 a.2) .b
def eDWL (a : Dome × Int × List Int) : List V := [.ag (eDome a.1), .i a.2.1, .sl 1 (a.2.2.map eI)]
def dDWL : List V → Dome × Int × List Int | [.ag cs, .i n, .sl _ l] => (dDome cs, n, l.map dI) | _ => (D0, 0, [])
def ok38 (a : Dome × Int × List Int) : Prop := tame 100000 a.2.1 ∧ tame 100000 a.1.loss ∧ (∀ g ∈ a.1.gores, 0 ≤ g ∧ g < a.2.2.length) ∧ (∀ s ∈ a.2.2, tame 100000 s) ∧ a.1.gores.length < 100000
def r38 : List V → Prop × V := fnG eDWL dDWL ok38 (fun a => roundBy a.1 a.2.1 a.2.2) .i
noncomputable def GU1 : Gam := (GT.ext 49 r49w).ext 38 r38
theorem okU1 : GOk Try.prog GU1 := by
  have k1 := okT.ext (f := 49) (r := r49w) (fun a w => Try.call49 a w) (fnG_ok fun a h => P49w a.1 a.2 h)
  exact k1.ext (f := 38) (r := r38) (fun a w => Try.call38 a w) (fnG_ok fun a h => P38 a.1 a.2.1 a.2.2 h.1 h.2.1 h.2.2.1 h.2.2.2.1 h.2.2.2.2)
theorem gU49 (a b : Int) (l : List Strip) (w s : Int) : GU1 49 [.ag [.i a, .i b, .sl 3 (l.map eStrip), .i w], .i s] = (okCan ⟨⟨a, b⟩, l, w⟩ s, .b (can ⟨⟨a, b⟩, l, w⟩ s)) :=
  (show GU1 49 _ = r49w (eBI (⟨⟨a, b⟩, l, w⟩, s)) from rfl).trans (fnG_at _ (dBI_e _))
def isTruth (d : Dome) (l : List Int) : Bool := decide (l.length = d.bolts.length) && (List.range l.length).all fun i => can (boltAt d (i : Nat)) (l[i]?.getD 0)
theorem ValidB.okCan {b : Bolt} (h : ValidB b) (s : Int) : okCan b s := by
  intro hw
  simp only [within, Bool.and_eq_true, decide_eq_true_eq] at hw
  have := h.st
  exact h.ok66 (by omega)
theorem P35 (d : Dome) (l : List Int) (hv : Valid d) : PureCall Try.prog 35 [.ag (eDome d), .sl 1 (l.map eI)] (.b (isTruth d l)) := by
  refine pure_body okU1 hmix Try.func35 cb35 cc35 cs35 cn35 ?_
  have hnb := hv.nb
  simp only [rc35, rs35, ru_skip, ru_reg, ru_seq, ru_cnd, ite_P, ru_block, ru_ret, ru_keep, thenQ, run_nil, run_cons, Fam.step, stepQ, evO, opv, qv, binV, ldV, lenV, V.cells, solid, hasRef, hasRefL, upd_some, lkp_cons, lkp_nil, ↓reduceIte, Nat.reduceEqDiff, Nat.reduceAdd, Nat.reduceLeDiff, List.map_cons, List.map_nil, List.length_cons, List.length_nil, List.drop_zero, List.headD_cons, endQ, rvs, rv1, resV, vw_i, vw_b, vw_sl, vw_ag, zipA, Nat.zero_add, V.b.injEq, Bool.or_false, Bool.false_eq_true, decide_eq_false_iff_not, true_and, and_self, reduceCtorEq, Bool.not_eq_true', List.length_map, Classical.not_not, eDome]
  refine ⟨fun h => ?_, fun h => ?_⟩
  · have : ¬ l.length = d.bolts.length := by omega
    simp [isTruth, this]
  have hl : l.length = d.bolts.length := by omega
  refine ru_countC l.length (fun i => ⟨lkp [(1, .sl 1 (l.map eI)), (2, .pa (eDome d)), (5, .i i)], []⟩) (fun i => (List.range i).all (fun i => can (boltAt d (i : Nat)) (l[i]?.getD 0)) = true) ?_ ?_ ?_ ?_
  · simp only [Int.natCast_zero, kp, lkp_cons, lkp_nil, ↓reduceIte, Nat.reduceEqDiff, List.map_cons, List.map_nil, eDome]
  · rfl
  · intro i hi hC
    obtain ⟨x, hx⟩ : ∃ x, l[i]? = some x := ⟨_, List.getElem?_eq_getElem hi⟩
    obtain ⟨b, hb⟩ : ∃ b, d.bolts[i]? = some b := ⟨_, List.getElem?_eq_getElem (by omega)⟩
    have hba : boltAt d (i : Nat) = b := by simp [boltAt, hb]
    have hlt : (i : Int) < l.length := by omega
    have hlt2 : (i : Int) < d.bolts.length := by omega
    have h3 : inI ((i : Int) + 1) := by unfold inI; omega
    have hoc := (hv.bolts b (List.mem_of_getElem? hb)).okCan x
    simp only [hx, hb, hlt, hlt2, h3, gU49, hoc, Int.natCast_add, Int.natCast_one, ru_skip, ru_reg, ru_any, ru_seq, ru_cnd, ite_P, ru_block, ru_ret, ru_keep, putBs, thenQ, blockQ, run_nil, run_cons, Fam.step, stepQ, runX, eff, nextD, fpR, fpQ, fpV, disjB, hits, evO, opv, qv, binV, ldV, iadV, lenV, callV, hasRef, hasRefL, flat, kp, upd_some, lkp_cons, lkp_nil, ↓reduceIte, Nat.reduceEqDiff, Nat.reduceAdd, Nat.reduceLT, Nat.reduceLeDiff, List.map_cons, List.map_nil, List.all_nil, List.length_cons, List.length_nil, List.drop_zero, List.take_succ_cons, List.take_nil, List.headD_cons, List.cons_append, List.nil_append, List.append_nil, List.getElem?_nil, Option.getD_some, Option.getD_none, List.replicate_zero, List.isEmpty_nil, endQ, rvs, rv1, resV, vw_i, vw_b, vw_sl, vw_ag, Int.natCast_nonneg, Nat.zero_add, V.b.injEq, Bool.and_self, Bool.and_true, Bool.false_and, Bool.or_false, Bool.not_true, Bool.not_false, Bool.false_eq_true, decide_true, true_and, and_true, and_self, implies_true, Option.map_some, List.any_nil, List.contains_nil, Bool.not_eq_true', List.length_map, Int.toNat_natCast, List.getD_eq_getElem?_getD, List.getElem?_map, Bool.not_eq_false, spanE, boltE, eBolt, eDome, eI]
    refine ⟨fun hc => ?_, fun hc => ?_⟩
    · have e : (List.range l.length).all (fun i => can (boltAt d (i : Nat)) (l[i]?.getD 0)) = false := all_range_false hi (by rw [hba, hx]; exact hc)
      simp [isTruth, e]
    · exact all_range_succ hC (by rw [hba, hx]; exact hc)
  · intro hC
    simp only [ru_reg, ru_seq, ru_cnd, ru_exit, ru_ret, ru_keep, thenQ, blockQ, run_nil, run_cons, Fam.step, stepQ, evO, opv, qv, binV, lenV, upd_some, lkp_cons, lkp_nil, ↓reduceIte, Nat.reduceEqDiff, List.map_cons, List.map_nil, endQ, rvs, rv1, resV, vw_b, Int.lt_irrefl, V.b.injEq, Bool.false_eq_true, decide_false, true_and, and_self, List.length_map, eDome]
    simp [isTruth, hl]
    simpa [hl] using hC
end Go.C02
set_option linter.unusedSimpArgs false
set_option linter.unusedVariables false
namespace Go.C02
open Go.Fam Go.Proofs
def eDL (a : Dome × List Int) : List V := [.ag (eDome a.1), .sl 1 (a.2.map eI)]
def dDL : List V → Dome × List Int | [.ag cs, .sl _ l] => (dDome cs, l.map dI) | _ => (D0, [])
def r35 : List V → Prop × V := fnG eDL dDL (fun a => Valid a.1) (fun a => isTruth a.1 a.2) .b
noncomputable def GU : Gam := GU1.ext 35 r35
theorem okU : GOk Try.prog GU := okU1.ext (f := 35) (r := r35) (fun a w => Try.call35 a w) (fnG_ok fun a h => P35 a.1 a.2 h)
section
variable (b : List Bolt) (g : List Int) (l : Int) (r : List Span) (w : List Int) (s n m : Int) (x : List Int)
theorem gU15 : GU 15 [.ag [.sl 4 (b.map eBolt), .sl 1 (g.map eI), .i l, .sl 2 (r.map eSpan), .sl 1 (w.map eI), .i s], .i n] = (True, .b (ready ⟨b, g, l, r, w, s⟩ n)) := gT15 b g l r w s n
theorem gU23 : GU 23 [.ag [.sl 4 (b.map eBolt), .sl 1 (g.map eI), .i l, .sl 2 (r.map eSpan), .sl 1 (w.map eI), .i s], .i n] = (r.length < 1000, eSE (roundR ⟨b, g, l, r, w, s⟩ n)) := gR23 b g l r w s n
theorem gU36 : GU 36 [.ag [.sl 4 (b.map eBolt), .sl 1 (g.map eI), .i l, .sl 2 (r.map eSpan), .sl 1 (w.map eI), .i s], .i n] = (b.length < 1000, eLE (stretchesR ⟨b, g, l, r, w, s⟩ n)) := gR36 b g l r w s n
end
theorem gU16 : GU 16 [] = (True, .b true) := gS16

/-! Truths. -/
/-- what a truth chooses -/
def pick (l : List Int) (g : Int) : Int := l[g.toNat]?.getD 0
end Go.C02
set_option linter.unusedSimpArgs false
set_option linter.unusedVariables false
namespace Go.C02
open Go.Fam Go.Proofs
end Go.C02
set_option linter.unusedSimpArgs false
set_option linter.unusedVariables false
namespace Go.C02
open Go.Fam Go.Proofs
/-! The least sum of a curve: what a table gives, and what the slopes give. -/
def bigN : Int := 1073741824
def minTo (f : Int → Int) : List Int → Int → Int
  | [], m => m
  | o :: l, m => minTo f l (min m (f o))
def entry (d : Dome) (r : Nat) (old : List Int) (w : Int) : Int :=
  if within w (lowAt d r) (highAt d r) then (if r = 0 then w else minTo (fun o => (old[o.toNat]?.getD 0) + w) (ints (max 0 (w - d.slope)) (min 2000 (w + d.slope))) bigN) else bigN
def rowTab (d : Dome) (r : Nat) (old : List Int) : List Int := (ints 0 2000).map (entry d r old)
def tab (d : Dome) : Nat → List Int
  | 0 => []
  | r + 1 => rowTab d r (tab d r)
def val (d : Dome) (r : Nat) (w : Int) : Int := (tab d r)[w.toNat]?.getD 0
structure Feas (d : Dome) (k : Nat) (c : Nat → Int) : Prop where
  bd : ∀ r : Nat, r < k → lowAt d r ≤ c r ∧ c r ≤ highAt d r
  sl : ∀ r : Nat, r + 1 < k → -d.slope ≤ c (r + 1) - c r ∧ c (r + 1) - c r ≤ d.slope
theorem Feas.range {d : Dome} (hl : 0 ≤ d.loss) {k : Nat} {c : Nat → Int} (h : Feas d k c) {r : Nat} (hr : r < k) : 0 ≤ c r ∧ c r ≤ 2000 := by
  have := h.bd r hr
  have := lowAt_range d r hl
  have := highAt_range d r hl
  omega
/-! the slopes from every row -/
def away (d : Dome) (r j : Nat) : Int := lowAt d j - d.slope * max ((r : Int) - j) ((j : Int) - r)
theorem need_le {d : Dome} {r : Nat} {x : Int} : ∀ k : Nat, needTo d r k ≤ x ↔ lowAt d r ≤ x ∧ ∀ j, j < k → away d r j ≤ x
  | 0 => by simp [needTo]
  | k + 1 => by
    rw [needTo_succ]
    have ih := need_le (d := d) (r := r) (x := x) k
    have : max (needTo d r k) (lowAt d k - d.slope * max ((r : Int) - k) ((k : Int) - r)) ≤ x ↔ needTo d r k ≤ x ∧ away d r k ≤ x := by unfold away; omega
    rw [this, ih]
    constructor
    · rintro ⟨⟨h1, h2⟩, h3⟩
      refine ⟨h1, fun j hj => ?_⟩
      by_cases h : j < k
      · exact h2 j h
      · have : j = k := by omega
        exact this ▸ h3
    · rintro ⟨h1, h2⟩
      exact ⟨⟨h1, fun j hj => h2 j (by omega)⟩, h2 k (by omega)⟩
theorem Feas.far {d : Dome} (hs : 0 ≤ d.slope) {n : Nat} {c : Nat → Int} (h : Feas d n c) : ∀ (m r : Nat), r + m < n → c (r + m) - c r ≤ d.slope * m ∧ c r - c (r + m) ≤ d.slope * m
  | 0, r, _ => by simp
  | m + 1, r, hr => by
    have h1 := h.far hs m r (by omega)
    have h2 := h.sl (r + m) (by omega)
    rw [Int.natCast_add, Int.mul_add]
    rw [show r + (m + 1) = r + m + 1 by omega]
    omega
theorem Feas.need {d : Dome} (hs : 0 ≤ d.slope) {n : Nat} {c : Nat → Int} (h : Feas d n c) {r : Nat} (hr : r < n) : needTo d r n ≤ c r := by
  rw [need_le]
  refine ⟨(h.bd r hr).1, fun j hj => ?_⟩
  have h1 := (h.bd j hj).1
  unfold away
  by_cases hjr : j ≤ r
  · have h2 := (h.far hs (r - j) j (by omega)).2
    rw [show j + (r - j) = r by omega] at h2
    rw [show max ((r : Int) - j) ((j : Int) - r) = ((r - j : Nat) : Int) by omega]
    omega
  · have h2 := (h.far hs (j - r) r (by omega)).1
    rw [show r + (j - r) = j by omega] at h2
    rw [show max ((r : Int) - j) ((j : Int) - r) = ((j - r : Nat) : Int) by omega]
    omega
theorem Feas.fits {d : Dome} (hs : 0 ≤ d.slope) {n : Nat} {c : Nat → Int} (h : Feas d n c) : fitsAll d n n = true := by
  simp only [fitsAll, List.all_eq_true, List.mem_range, decide_eq_true_eq]
  intro r hr
  exact Int.le_trans (h.need hs hr) (h.bd r hr).2
end Go.C02
set_option linter.unusedSimpArgs false
set_option linter.unusedVariables false
namespace Go.C02
open Go.Fam Go.Proofs
/-! All truths that begin with some numbers. -/
def tr : List (List Int) → List Int → List (List Int)
  | [], f => [f]
  | c :: cs, f => c.flatMap fun x => tr cs (f ++ [x])
def truthsOf (d : Dome) (f : List Int) : List (List Int) := tr ((cansOf d).drop f.length) f
end Go.C02
set_option linter.unusedSimpArgs false
set_option linter.unusedVariables false
namespace Go.C02
open Go.Fam Go.Proofs
/-! The truths: which they are, and what is known over all of them. -/
theorem tr_empty : ∀ (cs : List (List Int)) (f : List Int), (tr cs f).isEmpty = cs.any List.isEmpty
  | [], _ => rfl
  | c :: cs, f => by
    simp only [tr, List.any_cons]
    cases c with
    | nil => rfl
    | cons x c =>
      simp only [List.isEmpty_cons, Bool.false_or]
      rw [← tr_empty cs (f ++ [x])]
      cases h : tr cs (f ++ [x]) with
      | nil =>
        have h1 : cs.any List.isEmpty = true := by rw [← tr_empty cs (f ++ [x]), h]; rfl
        have : ∀ y ∈ c, tr cs (f ++ [y]) = [] := fun y _ => by
          have := tr_empty cs (f ++ [y])
          rw [h1] at this
          simpa using this
        simp only [List.flatMap_cons, h, List.nil_append, List.isEmpty_nil, List.isEmpty_iff, List.flatMap_eq_nil_iff]
        exact this
      | cons y l => simp [List.flatMap_cons, h]
theorem truths_empty (d : Dome) : (truthsOf d []).isEmpty = (cansOf d).any List.isEmpty := tr_empty _ _
theorem Good.truths {d : Dome} (h : Good d) : truthsOf d [] ≠ [] := by
  have h1 := truths_empty d
  have h2 := h.pitch true
  intro he
  rw [he] at h1
  simp [pitchE, h.c, ← h1] at h2
end Go.C02
set_option linter.unusedSimpArgs false
set_option linter.unusedVariables false
namespace Go.C02
open Go.Fam Go.Proofs
/-! The reference: known, Stretches, Round, tight. -/
section
variable (b : List Bolt) (g : List Int) (l : Int) (r : List Span) (w : List Int) (s n m : Int) (x : List Int)
end
theorem row0 {d : Dome} (hv : Valid d) : isRow d 0 = true := by
  have := hv.nr
  simp only [isRow, within, Bool.and_eq_true, decide_eq_true_eq]; omega
end Go.C02
set_option linter.unusedSimpArgs false
set_option linter.unusedVariables false
namespace Go.C02
open Go.Fam Go.Proofs
/-! The reference: Tight, Loose, cut, Cut. -/
section
variable (b : List Bolt) (g : List Int) (l : Int) (r : List Span) (w : List Int) (s n m : Int) (T : List (List Int))
end
section
variable (b : List Bolt) (g : List Int) (l : Int) (r : List Span) (w : List Int) (s n m : Int) (T : List (List Int))
end
end Go.C02
set_option linter.unusedSimpArgs false
set_option linter.unusedVariables false
namespace Go.C02
open Go.Fam Go.Proofs
/-! The reference: Cut, Least, IsCurve. -/
section
variable (b : List Bolt) (g : List Int) (l : Int) (r : List Span) (w : List Int) (s n m : Int) (T : List (List Int))
end
/-- the table's row while it is filled -/
def fill (d : Dome) (r k : Nat) (m : Int) : List Int := (tab d (r + 1)).take k ++ m :: List.replicate (2000 - k) 0
end Go.C02
set_option linter.unusedSimpArgs false
set_option linter.unusedVariables false
namespace Go.C02
open Go.Fam Go.Proofs
/-! The reference: Least. -/
end Go.C02
set_option linter.unusedSimpArgs false
set_option linter.unusedVariables false
namespace Go.C02
open Go.Fam Go.Proofs
/-! IsCurve, same. -/
end Go.C02
set_option linter.unusedSimpArgs false
set_option linter.unusedVariables false
namespace Go.C02
open Go.Fam Go.Proofs
/-! The laws that compare with the reference. -/
section
variable (b : List Bolt) (g : List Int) (l : Int) (r : List Span) (w : List Int) (s n m : Int) (x y : List Int)
end
end Go.C02
set_option linter.unusedSimpArgs false
set_option linter.unusedVariables false
namespace Go.C02
open Go.Fam Go.Proofs
end Go.C02
set_option linter.unusedSimpArgs false
set_option linter.unusedVariables false
namespace Go.C02
open Go.Fam Go.Proofs
section
variable (b : List Bolt) (g : List Int) (l : Int) (r : List Span) (w : List Int) (s n m : Int) (x y : List Int)
theorem gU18 : GU 18 [.ag [.sl 4 (b.map eBolt), .sl 1 (g.map eI), .i l, .sl 2 (r.map eSpan), .sl 1 (w.map eI), .i s], .i n, .i m] = (Ok22 ⟨b, g, l, r, w, s⟩ ∧ 0 ≤ n ∧ n < w.length, .ag (eDome (cutD ⟨b, g, l, r, w, s⟩ n m))) := gT18 b g l r w s n m
theorem gU22 : GU 22 [.ag [.sl 4 (b.map eBolt), .sl 1 (g.map eI), .i l, .sl 2 (r.map eSpan), .sl 1 (w.map eI), .i s]] = (Ok22 ⟨b, g, l, r, w, s⟩, .ag (eDome ⟨b, g, l, r, w, s⟩)) :=
  (show GU 22 _ = r22 [.ag (eDome ⟨b, g, l, r, w, s⟩)] from rfl).trans (fnG_at (e := fun d => [.ag (eDome d)]) _ (dDome_e _))
theorem gU39 : GU 39 [.ag [.sl 4 (b.map eBolt), .sl 1 (g.map eI), .i l, .sl 2 (r.map eSpan), .sl 1 (w.map eI), .i s]] = (True, .i (check ⟨b, g, l, r, w, s⟩)) := gR39 b g l r w s
theorem gU28 : GU 28 [.sl 1 (x.map eI), .sl 1 (y.map eI)] = (x.length < 10000000, .b (decide (x = y))) := gR28 x y
end
def lossD (d : Dome) (x : Int) : Dome := ⟨d.bolts, d.gores, d.loss + x, d.rounds, d.widths, d.slope⟩
theorem pitch_loss {d : Dome} (h : check d = 0) {x : Int} (hx : check (lossD d x) = 0) (is : Bool) : pitchE (lossD d x) is = pitchE d is := by
  have : cansOf (lossD d x) = cansOf d := rfl
  simp [pitchE, h, hx, this]
theorem round_loss {d : Dome} (h : Good d) {x w : Int} (hx : 0 ≤ x) (hw : 2 * (d.loss + x) ≤ w) : (roundOf (tentOf (lossD d x)) w).low ≤ (roundOf (tentOf d) w).low ∧ (roundOf (tentOf (lossD d x)) w).high ≤ (roundOf (tentOf d) w).high := by
  refine ⟨sumBy_mono fun g hg => ?_, sumBy_mono fun g hg => ?_⟩
  · have := canTent_low h hg
    exact pull_mono (show 0 ≤ w - 2 * (d.loss + x) by omega) (show w - 2 * (d.loss + x) ≤ w - 2 * d.loss by omega) (show 0 ≤ lowOf (tentOf d) g by omega)
  · have := canTent_low h hg
    exact pull_mono (show 0 ≤ w - 2 * (d.loss + x) by omega) (show w - 2 * (d.loss + x) ≤ w - 2 * d.loss by omega) (show 0 ≤ highOf (tentOf d) g by omega)
set_option maxRecDepth 20000 in
set_option maxHeartbeats 8000000 in
theorem P10 (d : Dome) (row : Int) (x : Int × Int) (hx : inI x.1 ∧ inI x.2) : PureCall Try.prog 10 [.ag (eDome d), .i row, .ag [.i x.1, .i x.2]] (.b true) := by
  obtain ⟨y, z⟩ := x
  dsimp only at hx ⊢
  refine pure_body okU hmix Try.func10 cb10 cc10 cs10 cn10 ?_
  by_cases hr : ready d row = true
  · obtain ⟨hv, hc, hir, r1, r2⟩ := ready_of hr
    obtain ⟨k1, k2, k3, k4, k5, k6⟩ := row_of hv hir
    have hnb := hv.nb
    have hnr := hv.nr
    have hloss := hv.loss
    have i1 : inI (2000 - widthAt d row) := by unfold inI; omega
    have i2 : inI (20 - d.loss) := by unfold inI; omega
    by_cases h1 : y < 0
    · simp only [rc10, rs10, gU15, gU16, hr, h1, k1, k3, k4, i1, i2, ru_reg, ru_any, ru_seq, ru_cnd, ru_ret, ru_keep, putBs, thenQ, run_nil, run_cons, Fam.step, stepQ, needQ, condB, ug, runX, eff, nextD, fpR, fpQ, fpV, disjB, hits, evO, opv, qv, pickV_bb, binV, ldV, iadV, callV, V.cells, solid, hasRef, hasRefL, flat, upd_some, lkp_cons, lkp_nil, ↓reduceIte, Nat.reduceEqDiff, Nat.reduceAdd, Nat.reduceLT, Nat.reduceLeDiff, List.map_cons, List.map_nil, List.all_cons, List.all_nil, List.length_cons, List.length_nil, List.drop_succ_cons, List.drop_zero, List.take_succ_cons, List.take_nil, List.headD_cons, List.cons_append, List.nil_append, List.append_nil, List.getElem?_nil, Option.getD_some, Option.getD_none, List.replicate_zero, List.isEmpty_nil, endQ, rvs, rv1, resV, vw_i, vw_b, vw_sl, vw_ag, zipA, beq_self_eq_true, Nat.zero_add, Bool.and_self, Bool.and_true, Bool.false_and, Bool.or_false, Bool.not_true, Bool.not_false, Bool.false_eq_true, Bool.true_eq_false, decide_true, and_true, and_self, forall_const, implies_true, reduceCtorEq, Option.map_some, List.any_nil, List.contains_nil, beq_false, imp_self, List.length_map, List.getD_eq_getElem?_getD, List.getElem?_map, domeE, eDome, eI]
    by_cases h2 : 2000 - widthAt d row < y
    · simp only [rc10, rs10, gU15, gU16, hr, h1, h2, k1, k3, k4, i1, i2, ru_reg, ru_any, ru_seq, ru_cnd, ru_ret, ru_keep, putBs, thenQ, run_nil, run_cons, Fam.step, stepQ, needQ, condB, ug, runX, eff, nextD, fpR, fpQ, fpV, disjB, hits, evO, opv, qv, pickV_bb, binV, ldV, iadV, callV, V.cells, solid, hasRef, hasRefL, flat, upd_some, lkp_cons, lkp_nil, ↓reduceIte, Nat.reduceEqDiff, Nat.reduceAdd, Nat.reduceLT, Nat.reduceLeDiff, List.map_cons, List.map_nil, List.all_cons, List.all_nil, List.length_cons, List.length_nil, List.drop_succ_cons, List.drop_zero, List.take_succ_cons, List.take_nil, List.headD_cons, List.cons_append, List.nil_append, List.append_nil, List.getElem?_nil, Option.getD_some, Option.getD_none, List.replicate_zero, List.isEmpty_nil, endQ, rvs, rv1, resV, vw_i, vw_b, vw_sl, vw_ag, zipA, beq_self_eq_true, Nat.zero_add, Bool.and_self, Bool.and_true, Bool.false_and, Bool.or_false, Bool.not_true, Bool.not_false, Bool.false_eq_true, Bool.true_eq_false, decide_true, decide_false, and_true, and_self, forall_const, implies_true, reduceCtorEq, Option.map_some, List.any_nil, List.contains_nil, beq_false, imp_self, List.length_map, List.getD_eq_getElem?_getD, List.getElem?_map, domeE, eDome, eI]
    by_cases h3 : z < 0
    · simp only [rc10, rs10, gU15, gU16, hr, h1, h2, h3, k1, k3, k4, i1, i2, ru_reg, ru_any, ru_seq, ru_cnd, ru_ret, ru_keep, putBs, thenQ, run_nil, run_cons, Fam.step, stepQ, needQ, condB, ug, runX, eff, nextD, fpR, fpQ, fpV, disjB, hits, evO, opv, qv, pickV_bb, binV, ldV, iadV, callV, V.cells, solid, hasRef, hasRefL, flat, upd_some, lkp_cons, lkp_nil, ↓reduceIte, Nat.reduceEqDiff, Nat.reduceAdd, Nat.reduceLT, Nat.reduceLeDiff, List.map_cons, List.map_nil, List.all_cons, List.all_nil, List.length_cons, List.length_nil, List.drop_succ_cons, List.drop_zero, List.take_succ_cons, List.take_nil, List.headD_cons, List.cons_append, List.nil_append, List.append_nil, List.getElem?_nil, Option.getD_some, Option.getD_none, List.replicate_zero, List.isEmpty_nil, endQ, rvs, rv1, resV, vw_i, vw_b, vw_sl, vw_ag, zipA, beq_self_eq_true, Nat.zero_add, Bool.and_self, Bool.and_true, Bool.false_and, Bool.or_false, Bool.not_true, Bool.not_false, Bool.false_eq_true, Bool.true_eq_false, decide_true, decide_false, and_true, and_self, forall_const, implies_true, reduceCtorEq, Option.map_some, List.any_nil, List.contains_nil, beq_false, imp_self, List.length_map, List.getD_eq_getElem?_getD, List.getElem?_map, domeE, eDome, eI]
    by_cases h4 : 20 - d.loss < z
    · simp only [rc10, rs10, gU15, gU16, hr, h1, h2, h3, h4, k1, k3, k4, i1, i2, ru_reg, ru_any, ru_seq, ru_cnd, ru_ret, ru_keep, putBs, thenQ, run_nil, run_cons, Fam.step, stepQ, needQ, condB, ug, runX, eff, nextD, fpR, fpQ, fpV, disjB, hits, evO, opv, qv, pickV_bb, binV, ldV, iadV, callV, V.cells, solid, hasRef, hasRefL, flat, upd_some, lkp_cons, lkp_nil, ↓reduceIte, Nat.reduceEqDiff, Nat.reduceAdd, Nat.reduceLT, Nat.reduceLeDiff, List.map_cons, List.map_nil, List.all_cons, List.all_nil, List.length_cons, List.length_nil, List.drop_succ_cons, List.drop_zero, List.take_succ_cons, List.take_nil, List.headD_cons, List.cons_append, List.nil_append, List.append_nil, List.getElem?_nil, Option.getD_some, Option.getD_none, List.replicate_zero, List.isEmpty_nil, endQ, rvs, rv1, resV, vw_i, vw_b, vw_sl, vw_ag, zipA, beq_self_eq_true, Nat.zero_add, Bool.and_self, Bool.and_true, Bool.false_and, Bool.or_false, Bool.not_true, Bool.not_false, Bool.false_eq_true, decide_true, decide_false, and_self, forall_const, implies_true, reduceCtorEq, Option.map_some, List.any_nil, List.contains_nil, List.length_map, List.getD_eq_getElem?_getD, List.getElem?_map, domeE, eDome, eI]
    have h22 := hv.ok22
    have hnr2 : d.rounds.length < 1000 := by omega
    have hbl : d.bolts.length < 1000 := by omega
    have hw2 : 2 * d.loss ≤ widthAt d row + y ∧ widthAt d row + y ≤ 2000 := by omega
    have i3 : inI (widthAt d row + y) := by unfold inI; omega
    have i4 : inI (d.loss + z) := by unfold inI; omega
    have hnr3 : (cutD d row (widthAt d row + y)).rounds.length < 1000 := hnr2
    have hp2 := pitch_cut hc hw2 (row := row) true
    have hr2 : isRow (cutD d row (widthAt d row + y)) row = true := hir
    have e3 : widthAt (cutD d row (widthAt d row + y)) row = widthAt d row + y := by
      simp only [widthAt, cutD]
      rw [List.getElem?_set_self (by omega)]; rfl
    have hlD : (⟨d.bolts, d.gores, d.loss + z, d.rounds, d.widths, d.slope⟩ : Dome) = lossD d z := rfl
    have hib : isBoltOf d 0 = true := by simp only [isBoltOf, within, Bool.and_eq_true, decide_eq_true_eq]; omega
    have hsl : (numbersOf (boltAt d 0)).length < 10000000 := by
      obtain ⟨b, hb⟩ : ∃ b, d.bolts[0]? = some b := ⟨_, List.getElem?_eq_getElem (by omega)⟩
      have := numbersOf_len (hv.bolts b (List.mem_of_getElem? hb))
      rw [show boltAt d 0 = b by simp [boltAt, hb]]
      omega
    rcases pitch_vals hc with hp | hp
    · obtain ⟨hg, _⟩ := pitchE_zero hp
      have e1 : roundR d row = (roundOf (tentOf d) (widthAt d row), 0) := by unfold roundR; rw [hir, if_pos hp]
      have e2 : roundR (cutD d row (widthAt d row + y)) row = (roundOf (tentOf d) (widthAt d row + y), 0) := by
        unfold roundR
        rw [hr2, hp2, if_pos hp, e3]; rfl
      have e4 : stretchesR d 0 = (numbersOf (boltAt d 0), 0) := by unfold stretchesR; rw [hib, if_pos hp]
      have hm := round_mono hg k6.1 (show widthAt d row ≤ widthAt d row + y by omega)
      have m1 : ¬ (roundOf (tentOf d) (widthAt d row + y)).low < (roundOf (tentOf d) (widthAt d row)).low := by omega
      have m2 : ¬ (roundOf (tentOf d) (widthAt d row + y)).high < (roundOf (tentOf d) (widthAt d row)).high := by omega
      by_cases hcl : check (lossD d z) = 0
      · have hvl := valid_of hcl
        have hpl := pitch_loss hc hcl true
        have hwl : 2 * (d.loss + z) ≤ widthAt d row := (hvl.widths (widthAt d row) (List.mem_of_getElem? k4)).1
        have hml := round_loss hg (show 0 ≤ z by omega) hwl
        have e5 : roundR (lossD d z) row = (roundOf (tentOf (lossD d z)) (widthAt d row), 0) := by
          unfold roundR
          rw [show isRow (lossD d z) row = true from hir, hpl, if_pos hp]; rfl
        have e6 : stretchesR (lossD d z) 0 = (numbersOf (boltAt d 0), 0) := by
          unfold stretchesR
          rw [show isBoltOf (lossD d z) 0 = true from hib, hpl, if_pos hp]; rfl
        simp only [rc10, rs10, gU15, gU16, gU18, gU23, gU22, gU39, gU36, gU28, hr, h1, h2, h3, h4, k1, k3, k4, i1, i2, i3, i4, h22, hnr2, hnr3, hbl, e1, e2, e4, e5, e6, eSE, eLE, m1, m2, hlD, hcl, hml, hsl, ru_skip, ru_reg, ru_any, ru_seq, ru_cnd, ru_ret, ru_keep, putBs, optL, putB, thenQ, run_nil, run_cons, Fam.step, stepQ, stepW, needQ, needW, condB, ug, runX, eff, nextD, fpR, fpQ, fpV, disjB, hits, putB, nv, sv, evO, opv, qv, pickV_bb, binV, ldV, iadV, curG, callV, putAt, V.cells, solid, cellOk, hasRef, hasRefL, flat, flatL, upd_some, upd_none, lkp_cons, lkp_nil, ↓reduceIte, Nat.reduceEqDiff, Nat.reduceAdd, Nat.reduceLT, Nat.reduceLeDiff, Int.reduceEq, List.map_cons, List.map_nil, List.all_cons, List.all_nil, List.length_cons, List.length_nil, List.drop_succ_cons, List.drop_zero, List.drop_nil, List.take_succ_cons, List.take_zero, List.take_nil, List.headD_cons, List.cons_append, List.nil_append, List.append_nil, List.getElem?_cons_zero, List.getElem?_cons_succ, List.getElem?_nil, Option.getD_some, Option.getD_none, List.set_cons_zero, List.set_cons_succ, List.replicate_zero, List.replicate_succ, List.isEmpty_nil, List.isEmpty_cons, endQ, rvs, rv1, resV, vw_i, vw_b, vw_sl, vw_ag, zipA, beq_self_eq_true, Nat.zero_add, Nat.add_zero, Bool.and_self, Bool.and_true, Bool.true_and, Bool.false_and, Bool.and_false, Bool.or_false, Bool.false_or, Bool.not_true, Bool.not_false, Bool.false_eq_true, Bool.true_eq_false, decide_true, decide_false, and_true, and_self, forall_const, implies_true, reduceCtorEq, Option.map_some, List.any_cons, List.any_nil, List.contains_cons, List.contains_nil, beq_true, imp_self, List.length_map, List.getD_eq_getElem?_getD, List.getElem?_map, domeE, eSpan, eDome, eI]
      · simp only [rc10, rs10, gU15, gU16, gU18, gU23, gU22, gU39, hr, h1, h2, h3, h4, k1, k3, k4, i1, i2, i3, i4, h22, hnr2, hnr3, e1, e2, eSE, m1, m2, hlD, hcl, ru_skip, ru_reg, ru_any, ru_seq, ru_cnd, ru_ret, ru_keep, putBs, optL, putB, thenQ, run_nil, run_cons, Fam.step, stepQ, stepW, needQ, needW, condB, ug, runX, eff, nextD, fpR, fpQ, fpV, disjB, hits, putB, nv, sv, evO, opv, qv, pickV_bb, binV, ldV, iadV, curG, callV, putAt, V.cells, solid, cellOk, hasRef, hasRefL, flat, flatL, upd_some, upd_none, lkp_cons, lkp_nil, ↓reduceIte, Nat.reduceEqDiff, Nat.reduceAdd, Nat.reduceLT, Nat.reduceLeDiff, Int.reduceEq, List.map_cons, List.map_nil, List.all_cons, List.all_nil, List.length_cons, List.length_nil, List.drop_succ_cons, List.drop_zero, List.drop_nil, List.take_succ_cons, List.take_zero, List.take_nil, List.headD_cons, List.cons_append, List.nil_append, List.append_nil, List.getElem?_cons_zero, List.getElem?_cons_succ, List.getElem?_nil, Option.getD_some, Option.getD_none, List.set_cons_zero, List.set_cons_succ, List.replicate_zero, List.replicate_succ, List.isEmpty_nil, List.isEmpty_cons, endQ, rvs, rv1, resV, vw_i, vw_b, vw_sl, vw_ag, zipA, beq_self_eq_true, Nat.zero_add, Nat.add_zero, Bool.and_self, Bool.and_true, Bool.true_and, Bool.false_and, Bool.and_false, Bool.or_false, Bool.false_or, Bool.not_true, Bool.not_false, Bool.false_eq_true, decide_true, decide_false, and_true, and_self, forall_const, implies_true, reduceCtorEq, Option.map_some, List.any_cons, List.any_nil, List.contains_cons, List.contains_nil, beq_true, imp_self, List.length_map, List.getD_eq_getElem?_getD, List.getElem?_map, domeE, eSpan, eDome, eI]
    · have e1 : roundR d row = (⟨0, 0⟩, 3) := by unfold roundR; rw [hir, if_neg (by rw [hp]; decide), hp]
      have e2 : roundR (cutD d row (widthAt d row + y)) row = (⟨0, 0⟩, 3) := by
        unfold roundR
        rw [hr2, hp2, if_neg (by rw [hp]; decide), hp]
      have e4 : stretchesR d 0 = ([], 3) := by unfold stretchesR; rw [hib, if_neg (by rw [hp]; decide), hp]
      by_cases hcl : check (lossD d z) = 0
      · have hpl := pitch_loss hc hcl true
        have e5 : roundR (lossD d z) row = (⟨0, 0⟩, 3) := by
          unfold roundR
          rw [show isRow (lossD d z) row = true from hir, hpl, if_neg (by rw [hp]; decide), hp]
        have e6 : stretchesR (lossD d z) 0 = ([], 3) := by
          unfold stretchesR
          rw [show isBoltOf (lossD d z) 0 = true from hib, hpl, if_neg (by rw [hp]; decide), hp]
        have g28n : GU 28 [.sl 1 [], .sl 1 []] = (True, .b true) := (gU28 [] []).trans (by simp)
        simp only [rc10, rs10, gU15, gU16, gU18, gU23, gU22, gU39, gU36, g28n, hr, h1, h2, h3, h4, k1, k3, k4, i1, i2, i3, i4, h22, hnr2, hnr3, hbl, e1, e2, e4, e5, e6, eSE, eLE, hlD, hcl, ru_skip, ru_reg, ru_any, ru_seq, ru_cnd, ru_ret, ru_keep, putBs, optL, putB, thenQ, run_nil, run_cons, Fam.step, stepQ, stepW, needQ, needW, condB, ug, runX, eff, nextD, fpR, fpQ, fpV, disjB, hits, putB, nv, sv, evO, opv, qv, pickV_bb, binV, ldV, iadV, curG, callV, putAt, V.cells, solid, cellOk, hasRef, hasRefL, flat, flatL, upd_some, upd_none, lkp_cons, lkp_nil, ↓reduceIte, Nat.reduceEqDiff, Nat.reduceAdd, Nat.reduceLT, Nat.reduceLeDiff, Int.reduceLE, Int.reduceEq, List.map_cons, List.map_nil, List.all_cons, List.all_nil, List.length_cons, List.length_nil, List.drop_succ_cons, List.drop_zero, List.drop_nil, List.take_succ_cons, List.take_zero, List.take_nil, List.headD_cons, List.cons_append, List.nil_append, List.append_nil, List.getElem?_cons_zero, List.getElem?_cons_succ, List.getElem?_nil, Option.getD_some, Option.getD_none, List.set_cons_zero, List.set_cons_succ, List.replicate_zero, List.replicate_succ, List.isEmpty_nil, List.isEmpty_cons, endQ, rvs, rv1, resV, vw_i, vw_b, vw_sl, vw_ag, zipA, Int.lt_irrefl, beq_self_eq_true, Nat.zero_add, Nat.add_zero, Bool.and_self, Bool.and_true, Bool.true_and, Bool.false_and, Bool.and_false, Bool.or_false, Bool.false_or, Bool.not_true, Bool.not_false, Bool.false_eq_true, Bool.true_eq_false, decide_true, decide_false, and_self, forall_const, implies_true, reduceCtorEq, Option.map_some, List.any_cons, List.any_nil, List.contains_cons, List.contains_nil, imp_self, List.length_map, List.getD_eq_getElem?_getD, List.getElem?_map, domeE, eSpan, eDome, eI]
      · simp only [rc10, rs10, gU15, gU16, gU18, gU23, gU22, gU39, hr, h1, h2, h3, h4, k1, k3, k4, i1, i2, i3, i4, h22, hnr2, hnr3, e1, e2, eSE, hlD, hcl, ru_skip, ru_reg, ru_any, ru_seq, ru_cnd, ru_ret, ru_keep, putBs, optL, putB, thenQ, run_nil, run_cons, Fam.step, stepQ, stepW, needQ, needW, condB, ug, runX, eff, nextD, fpR, fpQ, fpV, disjB, hits, putB, nv, sv, evO, opv, qv, pickV_bb, binV, ldV, iadV, curG, callV, putAt, V.cells, solid, cellOk, hasRef, hasRefL, flat, flatL, upd_some, upd_none, lkp_cons, lkp_nil, ↓reduceIte, Nat.reduceEqDiff, Nat.reduceAdd, Nat.reduceLT, Nat.reduceLeDiff, Int.reduceEq, List.map_cons, List.map_nil, List.all_cons, List.all_nil, List.length_cons, List.length_nil, List.drop_succ_cons, List.drop_zero, List.drop_nil, List.take_succ_cons, List.take_zero, List.take_nil, List.headD_cons, List.cons_append, List.nil_append, List.append_nil, List.getElem?_cons_zero, List.getElem?_cons_succ, List.getElem?_nil, Option.getD_some, Option.getD_none, List.set_cons_zero, List.set_cons_succ, List.replicate_zero, List.replicate_succ, List.isEmpty_nil, List.isEmpty_cons, endQ, rvs, rv1, resV, vw_i, vw_b, vw_sl, vw_ag, zipA, Int.lt_irrefl, beq_self_eq_true, Nat.zero_add, Nat.add_zero, Bool.and_self, Bool.and_true, Bool.true_and, Bool.false_and, Bool.and_false, Bool.or_false, Bool.false_or, Bool.not_true, Bool.not_false, Bool.false_eq_true, Bool.true_eq_false, decide_true, decide_false, and_self, forall_const, implies_true, reduceCtorEq, Option.map_some, List.any_cons, List.any_nil, List.contains_cons, List.contains_nil, imp_self, List.length_map, List.getD_eq_getElem?_getD, List.getElem?_map, domeE, eSpan, eDome, eI]
  · have hr' : ready d row = false := by simpa using hr
    simp only [rc10, rs10, gU15, gU16, hr', ru_reg, ru_any, ru_seq, ru_cnd, ru_ret, ru_keep, putBs, thenQ, run_nil, run_cons, Fam.step, stepQ, needQ, condB, ug, runX, eff, nextD, fpR, fpQ, fpV, disjB, hits, evO, opv, qv, pickV_bb, pickV_t, binV, ldV, iadV, callV, V.cells, solid, hasRef, hasRefL, flat, upd_some, lkp_cons, lkp_nil, ↓reduceIte, Nat.reduceEqDiff, Nat.reduceAdd, Nat.reduceLT, Nat.reduceLeDiff, List.map_cons, List.map_nil, List.all_cons, List.all_nil, List.length_cons, List.length_nil, List.drop_succ_cons, List.drop_zero, List.take_succ_cons, List.take_nil, List.headD_cons, List.cons_append, List.nil_append, List.append_nil, List.getElem?_nil, Option.getD_none, List.replicate_zero, List.isEmpty_nil, endQ, rvs, rv1, resV, vw_i, vw_b, vw_sl, vw_ag, zipA, Nat.zero_add, Bool.and_self, Bool.and_true, Bool.false_and, Bool.or_false, Bool.not_true, Bool.not_false, Bool.false_eq_true, Bool.true_eq_false, true_and, and_true, and_self, false_and, forall_const, implies_true, reduceCtorEq, List.any_nil, List.contains_nil, beq_false, imp_self, List.length_map, List.getD_eq_getElem?_getD, List.getElem?_map, domeE, eDome]
end Go.C02
set_option linter.unusedSimpArgs false
set_option linter.unusedVariables false
namespace Go.C02
open Go.Fam Go.Proofs
/-! What Least says of other domes; false strips. -/
/-! false strips -/
def without (l : List Strip) (k : Nat) : List Strip := l.take k ++ l.drop (k + 1)
end Go.C02
/- Resolved code, printed by program (wip/tools/mkrc.py). -/
set_option maxRecDepth 8000
namespace Go.C02.N
open Go.Fam Go.Proofs
/- ferrule/ferrulelaw02.ClothFalse: params [26, 54, 3], free 0, slots 166 -/
/- ferrule/ferruleref02.Copy: params [26], free 0, slots 47 -/
def rc22 : RC :=
  (.seq (.reg false [⟨(some 1), none, [0], none, .q (.box (.t 0))⟩,
    ⟨(some 2), none, [], none, .w (.alc [(.z 4), (.z 1), (.i 0), (.z 2), (.z 1), (.i 0)])⟩])
  (.keep [1, 2] (.seq (.reg false [⟨(some 5), none, [1], none, .q (.ld true 6 (.t 1))⟩,
    ⟨(some 3), none, [], none, .w (.alc [(.z 4), (.z 1), (.i 0), (.z 2), (.z 1), (.i 0)])⟩,
    ⟨none, none, [3, 5], none, .w (.st 6 (.t 3) (.t 5))⟩])
  (.keep [1, 2, 3] (.seq (.reg false [⟨(some 6), none, [], none, .w (.bso 4 0 [(.i 0), (.i 0), (.z 3), (.i 0)] [])⟩,
    ⟨(some 7), none, [1], none, .q (.fad 0 (.t 1))⟩,
    ⟨(some 8), none, [7], none, .q (.ld false 1 (.t 7))⟩,
    ⟨(some 9), none, [6, 8], none, .w (.app 4 (.t 6) (.t 8))⟩,
    ⟨(some 10), none, [3], none, .q (.fad 0 (.t 3))⟩,
    ⟨none, none, [10, 9], none, .w (.st 1 (.t 10) (.t 9))⟩])
  (.keep [1, 2, 3] (.seq (.seq (.reg false [⟨(some 4), none, [], none, .q (.mv (.k (.i 0)))⟩])
  (.keep [1, 2, 3, 4] (.block 0 (.loop [1, 2, 3, 4] none (.seq (.seq (.reg false [⟨(some 11), none, [4], none, .q (.mv (.t 4))⟩,
    ⟨(some 12), none, [3], none, .q (.fad 0 (.t 3))⟩,
    ⟨(some 13), none, [12], none, .q (.ld false 1 (.t 12))⟩,
    ⟨(some 14), none, [13], none, .q (.len (.t 13))⟩,
    ⟨(some 15), none, [11, 14], none, .q (.bin .lss (.t 11) (.t 14))⟩])
  (.keep [1, 2, 3, 4, 15] (.cond (.t 15)
    .skip
    (.exit 0))))
  (.keep [1, 2, 3, 4] (.seq (.block 1 (.any false 2 [⟨⟨(some 18), none, [3], none, .q (.fad 0 (.t 3))⟩, [], []⟩,
    ⟨⟨(some 19), none, [18], none, .q (.ld false 1 (.t 18))⟩, [], [0]⟩,
    ⟨⟨(some 20), none, [4], none, .q (.mv (.t 4))⟩, [], []⟩,
    ⟨⟨(some 21), none, [], (some 0), .w (.bso 3 0 [(.i 0), (.i 0), (.i 0)] [])⟩, [0, 1, 2], []⟩,
    ⟨⟨(some 22), none, [1], none, .q (.fad 0 (.t 1))⟩, [3], []⟩,
    ⟨⟨(some 23), none, [22], none, .q (.ld false 1 (.t 22))⟩, [3], [4]⟩,
    ⟨⟨(some 24), none, [4], none, .q (.mv (.t 4))⟩, [3], []⟩,
    ⟨⟨(some 25), none, [23, 24], none, .q (.iad 4 (.t 23) (.t 24))⟩, [3], [5, 4, 6]⟩,
    ⟨⟨(some 26), none, [25], none, .q (.fad 2 (.t 25))⟩, [3], [7, 5, 4, 6]⟩,
    ⟨⟨(some 27), none, [26], none, .q (.ld false 1 (.t 26))⟩, [3], [8, 7, 5, 4, 6]⟩,
    ⟨⟨(some 28), none, [21, 27], (some 1), .w (.app 3 (.t 21) (.t 27))⟩, [0, 1, 2], [3, 9, 8, 7, 5, 4, 6]⟩,
    ⟨⟨(some 29), none, [19, 20], none, .q (.iad 4 (.t 19) (.t 20))⟩, [], [1, 0, 2, 3, 4, 5, 6, 7, 8, 9, 10]⟩,
    ⟨⟨(some 30), none, [29], none, .q (.fad 2 (.t 29))⟩, [], [11, 1, 0, 2, 3, 4, 5, 6, 7, 8, 9, 10]⟩,
    ⟨⟨none, none, [30, 28], none, .w (.st 1 (.t 30) (.t 28))⟩, [], [12, 11, 1, 0, 2, 3, 4, 5, 6, 7, 8, 9, 10]⟩]))
  (.keep [1, 2, 3, 4] (.reg false [⟨(some 16), none, [4], none, .q (.mv (.t 4))⟩,
    ⟨(some 17), none, [16], none, .q (.bin .add (.t 16) (.k (.i 1)))⟩,
    ⟨(some 4), none, [17], none, .q (.mv (.t 17))⟩])))))))))
  (.keep [1, 2, 3] (.seq (.any false 6 [⟨⟨(some 31), none, [], (some 0), .w (.bso 1 0 [(.i 0)] [])⟩, [], []⟩,
    ⟨⟨(some 32), none, [1], none, .q (.fad 1 (.t 1))⟩, [0], []⟩,
    ⟨⟨(some 33), none, [32], none, .q (.ld false 1 (.t 32))⟩, [0], [1]⟩,
    ⟨⟨(some 34), none, [31, 33], (some 1), .w (.app 1 (.t 31) (.t 33))⟩, [], [0, 2, 1]⟩,
    ⟨⟨(some 35), none, [], (some 2), .w (.bso 2 0 [(.i 0), (.i 0)] [])⟩, [0, 1, 2, 3], []⟩,
    ⟨⟨(some 36), none, [1], none, .q (.fad 3 (.t 1))⟩, [0, 3, 4], []⟩,
    ⟨⟨(some 37), none, [36], none, .q (.ld false 1 (.t 36))⟩, [0, 3, 4], [5]⟩,
    ⟨⟨(some 38), none, [35, 37], (some 3), .w (.app 2 (.t 35) (.t 37))⟩, [], [4, 6, 5, 3, 0, 2, 1]⟩,
    ⟨⟨(some 39), none, [], (some 4), .w (.bso 1 0 [(.i 0)] [])⟩, [0, 1, 2, 3, 4, 5, 6, 7], []⟩,
    ⟨⟨(some 40), none, [1], none, .q (.fad 4 (.t 1))⟩, [0, 3, 4, 7, 8], []⟩,
    ⟨⟨(some 41), none, [40], none, .q (.ld false 1 (.t 40))⟩, [0, 3, 4, 7, 8], [9]⟩,
    ⟨⟨(some 42), none, [39, 41], (some 5), .w (.app 1 (.t 39) (.t 41))⟩, [], [8, 10, 9, 7, 4, 6, 5, 3, 0, 2, 1]⟩,
    ⟨⟨(some 43), none, [3], none, .q (.fad 1 (.t 3))⟩, [4, 7, 8, 11], [0, 1, 2, 3]⟩,
    ⟨⟨none, none, [43, 34], none, .w (.st 1 (.t 43) (.t 34))⟩, [], [12, 0, 1, 2, 3, 11, 8, 10, 9, 7, 4, 6, 5]⟩,
    ⟨⟨(some 44), none, [3], none, .q (.fad 3 (.t 3))⟩, [], [0, 1, 2, 3, 4, 5, 6, 7, 12, 13, 11, 8, 10, 9]⟩,
    ⟨⟨none, none, [44, 38], none, .w (.st 1 (.t 44) (.t 38))⟩, [], [14, 0, 1, 2, 3, 4, 5, 6, 7, 12, 13, 11, 8, 10, 9]⟩,
    ⟨⟨(some 45), none, [3], none, .q (.fad 4 (.t 3))⟩, [], [0, 1, 2, 3, 4, 5, 6, 7, 8, 9, 10, 11, 12, 13, 14, 15]⟩,
    ⟨⟨none, none, [45, 42], none, .w (.st 1 (.t 45) (.t 42))⟩, [], [16, 0, 1, 2, 3, 4, 5, 6, 7, 8, 9, 10, 11, 12, 13, 14, 15]⟩])
  (.keep [2, 3] (.seq (.reg false [⟨(some 46), none, [3], none, .q (.ld true 6 (.t 3))⟩,
    ⟨none, none, [2, 46], none, .w (.st 6 (.t 2) (.t 46))⟩])
  .ret)))))))))))
def pu22 : List Nat := [1]
def rs22 : List RV := [.c 2 true 6]
theorem cc22 : comp Try.prog pu22 (Try.f22.ntmps, 0) 0 1 rc22 (Try.f22.body.getD .skip) = some rc22 := by kernel_rfl
theorem cb22 : Try.f22.body = some (Try.f22.body.getD .skip) := by kernel_rfl
theorem cs22 : resRV Try.prog Try.f22.results.toList = some rs22 := by kernel_rfl
theorem cn22 : 1 ≤ Try.f22.ntmps := by decide
/- ferrule/ferrulelaw02.ClothMore: params [26, 52, 54], free 0, slots 217 -/
/- ferrule/ferrulelaw02.ClothOrder: params [26, 3, 54], free 0, slots 240 -/
end Go.C02.N
set_option linter.unusedSimpArgs false
set_option linter.unusedVariables false
namespace Go.C02
open Go.Fam Go.Proofs
/-! Domes that own their memory: one bolt's strips are changed. -/
end Go.C02
set_option linter.unusedSimpArgs false
set_option linter.unusedVariables false
namespace Go.C02
open Go.Fam Go.Proofs
/-! The least cloth. -/
end Go.C02
set_option linter.unusedSimpArgs false
set_option linter.unusedVariables false
namespace Go.C02
open Go.Fam Go.Proofs Go.ChangeAt
variable {H : Type} {enc : TypeId × Value → H} {W : World}
end Go.C02
set_option linter.unusedSimpArgs false
set_option linter.unusedVariables false
namespace Go.C02
open Go.Fam Go.Proofs Go.ChangeAt
variable {H : Type} {enc : TypeId × Value → H} {W : World}
theorem rdWider : Rd enc Try.prog W 61 (fun p : Int × Int => [.i p.1, .i p.2]) (fun p => inI p.1 ∧ inI p.2) :=
  (RdP.rd (fs := Try.prog.fieldsOf 61) (n := 2) (ps := [(3, 0), (3, 1)]) (by kernel_rfl) (by kernel_rfl) (by kernel_rfl)
    (rdP_cons (k := 1) (by kernel_rfl) rdInt (rdP_cons (k := 1) (by kernel_rfl) rdInt (rdP_nil (by decide))))).map (fun p => (p.1, p.2.1)) (fun _ => rfl) fun _ h => ⟨h.1, h.2.1⟩
theorem aWider : RdV enc Try.prog W 61 (fun p : Int × Int => .ag [.i p.1, .i p.2]) (fun p => inI p.1 ∧ inI p.2) := rdWider.agg (fs := Try.prog.fieldsOf 61) (by kernel_rfl)
end Go.C02
