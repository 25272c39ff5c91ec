import Derived.Test.YtgcinomjcgebhaaC02M
import Derived.Test.YtgcinomjcgebhaaFamC
set_option linter.all false
set_option linter.unusedSimpArgs false
set_option linter.unusedVariables false
namespace Go.C02
open Go.Fam Go.Proofs
theorem gN69 (l s : Int) : GN 69 [.i l, .i s] = (tame 1000000 l ∧ tame 1000000 s, .i (pull l s)) := rfl
def canAt (t : Tent) (b : Int) : List Int := (t.can[b.toNat]?).getD []
structure Ok68 (t : Tent) (w : Int) : Prop where
  w : 0 ≤ w - 2 * t.dome.loss ∧ w - 2 * t.dome.loss ≤ 2000
  loss : 0 ≤ t.dome.loss ∧ t.dome.loss ≤ 20
  ng : t.dome.gores.length ≤ 16
  gores : ∀ g ∈ t.dome.gores, 0 ≤ g ∧ g < t.can.length
  nc : t.can.length ≤ 4
  can : ∀ l ∈ t.can, l.length ≤ 61 ∧ ∀ s ∈ l, 0 ≤ s ∧ s ≤ 60
theorem pull_range {l s : Int} (hl : 0 ≤ l ∧ l ≤ 2000) (hs : 0 ≤ s ∧ s ≤ 60) : 0 ≤ pull l s ∧ pull l s ≤ 2120 := by
  have h1 : 0 ≤ l * (1000 + s) := Int.mul_nonneg hl.1 (by omega)
  have h2 : l * (1000 + s) ≤ 2000 * 1060 := Int.mul_le_mul hl.2 (by omega) (by omega) (by decide)
  unfold pull
  rw [Int.tdiv_eq_ediv_of_nonneg h1]
  omega
/-- what one bolt's gores add -/
def part (t : Tent) (w b s : Int) : Int := (t.dome.gores.count b : Int) * pull (w - 2 * t.dome.loss) s
/-- the bolt of an entry -/
def gk (t : Tent) (j : Nat) : Int := ((cmKs t.dome.gores)[j]?.getD []).headD 0
def psum (t : Tent) (w : Int) (c : Int → Int) (pre : List Nat) : Int := (pre.map fun j => part t w (gk t j) (c (gk t j))).sum
structure Inv68 (t : Tent) (w : Int) (pre : List Nat) (xs : List Int) : Prop where
  len : xs.length ≤ 61 ^ pre.length
  rng : ∀ x ∈ xs, 0 ≤ x ∧ x ≤ 33920 * (pre.length : Int)
  mem : ∀ x, x ∈ xs ↔ ∃ c : Int → Int, (∀ j ∈ pre, c (gk t j) ∈ canAt t (gk t j)) ∧ x = psum t w c pre
def ys68 (t : Tent) (w b : Int) (xs : List Int) (pre2 : List Nat) : List Int :=
  pre2.flatMap fun j => (canAt t b).map fun s => ((cmKs xs)[j]?.getD []).headD 0 + part t w b s
def R68 (t : Tent) (w : Int) (r : V) (hp : List Blk) : Prop := ∃ xs : List Int, r = .mp 0 0 ∧ hp = [cm xs] ∧ Inv68 t w (List.range (cmKs t.dome.gores).length) xs
theorem inv68_nil (t : Tent) (w : Int) : Inv68 t w [] [0] :=
  ⟨by simp, by simp, fun x => by simp [psum]⟩
theorem psum_congr {t : Tent} {w : Int} {c c' : Int → Int} : ∀ {pre : List Nat}, (∀ j ∈ pre, c (gk t j) = c' (gk t j)) → psum t w c pre = psum t w c' pre
  | [], _ => rfl
  | j :: pre, h => by
    have h1 := psum_congr (t := t) (w := w) (pre := pre) fun i hi => h i (by simp [hi])
    have h2 := h j (by simp)
    simp only [psum, List.map_cons, List.sum_cons] at h1 ⊢
    rw [h1, h2]
theorem psum_snoc (t : Tent) (w : Int) (c : Int → Int) (pre : List Nat) (j : Nat) : psum t w c (pre ++ [j]) = psum t w c pre + part t w (gk t j) (c (gk t j)) := by simp [psum]
theorem gk_inj {t : Tent} {i j : Nat} (hi : i < (cmKs t.dome.gores).length) (hj : j < (cmKs t.dome.gores).length) (h : gk t i = gk t j) : i = j := by
  obtain ⟨x, _, hx, _⟩ := cmKs_get hi
  obtain ⟨y, _, hy, _⟩ := cmKs_get hj
  simp only [gk, hx, hy, Option.getD_some, List.headD_cons] at h
  subst h
  have h1 := (cmKs_nodup t.dome.gores).idxOf_getElem i hi
  have h2 := (cmKs_nodup t.dome.gores).idxOf_getElem j hj
  rw [List.getElem?_eq_getElem hi] at hx
  rw [List.getElem?_eq_getElem hj] at hy
  rw [Option.some.inj hx] at h1
  rw [Option.some.inj hy] at h2
  rw [← h1, h2]
theorem perm_sum {l l' : List Int} (h : l.Perm l') : l.sum = l'.sum := by
  induction h with
  | nil => rfl
  | cons x _ ih => rw [List.sum_cons, List.sum_cons, ih]
  | swap x y l => simp only [List.sum_cons]; omega
  | trans _ _ h1 h2 => rw [h1, h2]
theorem nodup_map_on {α β : Type} {f : α → β} {l : List α} (h : ∀ a ∈ l, ∀ b ∈ l, f a = f b → a = b) (hn : l.Nodup) : (l.map f).Nodup := by
  unfold List.Nodup at *
  rw [List.pairwise_map]
  exact hn.imp_of_mem fun ha hb hab e => hab (h _ ha _ hb e)
theorem part_range {t : Tent} {w : Int} (h : Ok68 t w) {b s : Int} (hs : 0 ≤ s ∧ s ≤ 60) : 0 ≤ part t w b s ∧ part t w b s ≤ 33920 := by
  have h1 := pull_range h.w hs
  have h2 : t.dome.gores.count b ≤ 16 := Nat.le_trans List.count_le_length h.ng
  unfold part
  refine ⟨Int.mul_nonneg (by omega) h1.1, ?_⟩
  have := Int.mul_le_mul (show (t.dome.gores.count b : Int) ≤ 16 by omega) h1.2 h1.1 (by decide)
  omega
theorem canAt_range {t : Tent} {w : Int} (h : Ok68 t w) {b s : Int} (hs : s ∈ canAt t b) : 0 ≤ s ∧ s ≤ 60 := by
  unfold canAt at hs
  cases hc : t.can[b.toNat]? with
  | none => rw [hc] at hs; simp at hs
  | some l => rw [hc] at hs; exact (h.can l (List.mem_of_getElem? hc)).2 s hs
theorem canAt_len {t : Tent} {w : Int} (h : Ok68 t w) (b : Int) : (canAt t b).length ≤ 61 := by
  unfold canAt
  cases hc : t.can[b.toNat]? with
  | none => simp
  | some l => exact (h.can l (List.mem_of_getElem? hc)).1
theorem ys68_len {t : Tent} {w : Int} (h : Ok68 t w) (b : Int) (xs : List Int) : ∀ pre2 : List Nat, (ys68 t w b xs pre2).length ≤ pre2.length * 61
  | [] => by simp [ys68]
  | j :: l => by
    have h1 := ys68_len h b xs l
    have h2 := canAt_len h b
    simp only [ys68, List.flatMap_cons, List.length_append, List.length_map, List.length_cons] at *
    omega
theorem ys68_snoc (t : Tent) (w b : Int) (xs : List Int) (pre2 : List Nat) (j : Nat) : ys68 t w b xs (pre2 ++ [j]) = ys68 t w b xs pre2 ++ (canAt t b).map fun s => ((cmKs xs)[j]?.getD []).headD 0 + part t w b s := by simp [ys68]
theorem mem_ys68 {t : Tent} {w b : Int} {xs : List Int} {pre2 : List Nat} (hp : pre2.Perm (List.range (cmKs xs).length)) (y : Int) : y ∈ ys68 t w b xs pre2 ↔ ∃ x ∈ xs, ∃ s ∈ canAt t b, y = x + part t w b s := by
  simp only [ys68, List.mem_flatMap, List.mem_map]
  constructor
  · rintro ⟨j, hj, s, hs, rfl⟩
    have hj := List.mem_range.1 (hp.mem_iff.1 hj)
    obtain ⟨x, hx, e, _⟩ := cmKs_get hj
    exact ⟨x, hx, s, hs, by simp [e]⟩
  · rintro ⟨x, hx, s, hs, rfl⟩
    have hm := (mem_cmKs xs [x]).2 ⟨x, hx, rfl⟩
    refine ⟨(cmKs xs).idxOf [x], hp.mem_iff.2 (List.mem_range.2 (List.idxOf_lt_length_iff.2 hm)), s, hs, ?_⟩
    rw [idxOf_get hm]; rfl
theorem inv68_snoc {t : Tent} {w : Int} (h : Ok68 t w) {pre : List Nat} {xs : List Int} {j : Nat} (hC : Inv68 t w pre xs) (hlt : ∀ i ∈ pre, i < (cmKs t.dome.gores).length) (hj : j < (cmKs t.dome.gores).length) (hjp : j ∉ pre)
    {pre2 : List Nat} (hp : pre2.Perm (List.range (cmKs xs).length)) : Inv68 t w (pre ++ [j]) (ys68 t w (gk t j) xs pre2) := by
  refine ⟨?_, fun y hy => ?_, fun y => ?_⟩
  · have h1 := ys68_len h (gk t j) xs pre2
    have h2 : pre2.length ≤ xs.length := by rw [hp.length_eq, List.length_range]; exact cmKs_len xs
    have h3 := hC.len
    rw [List.length_append, List.length_singleton, Nat.pow_succ]
    calc _ ≤ pre2.length * 61 := h1
      _ ≤ 61 ^ pre.length * 61 := Nat.mul_le_mul (Nat.le_trans h2 h3) (Nat.le_refl _)
  · obtain ⟨x, hx, s, hs, rfl⟩ := (mem_ys68 hp y).1 hy
    have h1 := hC.rng x hx
    have h2 := part_range h (b := gk t j) (canAt_range h hs)
    simp only [List.length_append, List.length_singleton]
    omega
  · rw [mem_ys68 hp]
    have hne : ∀ i ∈ pre, gk t i ≠ gk t j := fun i hi e => hjp (gk_inj (hlt i hi) hj e ▸ hi)
    constructor
    · rintro ⟨x, hx, s, hs, rfl⟩
      obtain ⟨c, hc, rfl⟩ := (hC.mem x).1 hx
      refine ⟨fun b => if b = gk t j then s else c b, fun i hi => ?_, ?_⟩
      · rcases List.mem_append.1 hi with hi | hi
        · simp only [if_neg (hne i hi)]; exact hc i hi
        · simp at hi; subst hi; simpa using hs
      · rw [psum_snoc, if_pos rfl]
        congr 1
        exact psum_congr fun i hi => by simp only [if_neg (hne i hi)]
    · rintro ⟨c, hc, rfl⟩
      exact ⟨psum t w c pre, (hC.mem _).2 ⟨c, fun i hi => hc i (by simp [hi]), rfl⟩, c (gk t j), hc j (by simp), psum_snoc t w c pre j⟩
theorem inv68_perm {t : Tent} {w : Int} {pre pre' : List Nat} {xs : List Int} (hC : Inv68 t w pre xs) (hp : pre.Perm pre') : Inv68 t w pre' xs := by
  refine ⟨hp.length_eq ▸ hC.len, hp.length_eq ▸ hC.rng, fun x => (hC.mem x).trans ?_⟩
  have e : ∀ c, psum t w c pre = psum t w c pre' := fun c => perm_sum (hp.map _)
  simp only [e, hp.mem_iff]
theorem few_bolts {t : Tent} {w : Int} (h : Ok68 t w) : (cmKs t.dome.gores).length ≤ 4 := by
  have := nodup_len (n := 4) (pre := (cmKs t.dome.gores).map fun k => (k.headD 0).toNat) ?_ ?_
  · simpa using this
  · apply nodup_map_on ?_ (cmKs_nodup _)
    intro a ha b hb e
    obtain ⟨x, hx, rfl⟩ := (mem_cmKs _ _).1 ha
    obtain ⟨y, hy, rfl⟩ := (mem_cmKs _ _).1 hb
    have := h.gores x hx
    have := h.gores y hy
    simp at e
    rw [show x = y by omega]
  · intro i hi
    obtain ⟨k, hk, rfl⟩ := List.mem_map.1 hi
    obtain ⟨x, hx, rfl⟩ := (mem_cmKs _ _).1 hk
    have := h.gores x hx
    have := h.nc
    simp; omega
theorem P68 (t : Tent) (w : Int) (h : Ok68 t w) : RelCall Try.prog 68 [.pa (eTent t), .i w] (R68 t w) := by
  refine relo_body okN hmix Try.func68 cb68 cc68 cs68 cn68 ?_
  simp only [rc68, rs68, ru_reg, ru_seq, ru_block, ru_keep, thenQ, run_nil, run_cons, Fam.step, stepQ, stepW, needW, nv, evO, opv, qv, pickV, ldV, lenV, upd_some, lkp_cons, lkp_nil, ↓reduceIte, Nat.reduceEqDiff, Nat.reduceAdd, Nat.reduceLeDiff, List.map_cons, List.map_nil, List.length_cons, List.length_nil, List.drop_succ_cons, List.drop_zero, List.headD_cons, List.cons_append, List.nil_append, rv1, resV, zipA, Nat.zero_add, Bool.false_eq_true, true_and, and_self, reduceCtorEq, List.length_map, eDome, eTent]
  refine ru_count t.dome.gores.length (fun i => ⟨lkp [(0, .pa (eTent t)), (1, .i w), (5, .mp 0 0), (20, .sl 1 (t.dome.gores.map eI)), (21, .i t.dome.gores.length), (22, .i i)], [cm (t.dome.gores.take i)]⟩) ?_ ?_ ?_
  · simp only [Int.natCast_zero, eTent, cm_nil, kp, lkp_cons, lkp_nil, ↓reduceIte, Nat.reduceEqDiff, List.map_cons, List.map_nil, List.take_zero, List.cons_append, List.nil_append, reduceCtorEq, eDome, eTent]
  · intro i hi
    obtain ⟨g, hg⟩ : ∃ g, t.dome.gores[i]? = some g := ⟨_, List.getElem?_eq_getElem hi⟩
    have hng := h.ng
    have hlt : (i : Int) < t.dome.gores.length := by omega
    have h3 : inI ((i : Int) + 1) := by unfold inI; omega
    have hc : (t.dome.gores.take i).count g ≤ i := Nat.le_trans List.count_le_length (List.length_take_le _ _)
    have h4 : inI (((t.dome.gores.take i).count g : Int) + 1) := by unfold inI; omega
    simp only [hlt, hg, h3, cm, cm_get, h4, cm_put, ← cmKs_snoc, Int.natCast_add, Int.natCast_one, take_succ_of hg, ru_skip, ru_reg, ru_seq, ru_cond, ru_block, ru_exit, ru_keep, putB, lkpV, keyL, keyFits, thenQ, blockQ, run_nil, run_cons, Fam.step, stepQ, stepW, needW, putB, nv, sv, evO, opv, qv, pickV, binV, ldV, iadV, kp, upd_some, upd_none, lkp_cons, lkp_nil, ↓reduceIte, Nat.reduceEqDiff, Nat.reduceAdd, Nat.reduceLeDiff, List.map_cons, List.map_nil, List.length_cons, List.length_nil, List.headD_cons, List.cons_append, List.nil_append, List.getElem?_cons_zero, List.getElem?_cons_succ, Option.getD_some, List.set_cons_zero, List.set_cons_succ, Int.natCast_nonneg, Nat.zero_add, Bool.false_eq_true, Bool.true_eq_false, decide_true, true_and, and_self, forall_const, false_implies, reduceCtorEq, Option.map_some, List.length_map, Int.toNat_natCast, List.getD_eq_getElem?_getD, List.getElem?_map, eDome, eI, eTent]
  · simp only [List.take_length, cm, ru_skip, ru_reg, ru_seq, ru_cond, ru_block, ru_exit, ru_keep, putB, lkpV, keyL, keyFits, thenQ, blockQ, run_nil, run_cons, Fam.step, stepQ, stepW, needW, putB, nv, sv, evO, opv, qv, pickV, binV, ldV, iadV, upd_some, upd_none, lkp_cons, lkp_nil, ↓reduceIte, Nat.reduceEqDiff, Nat.reduceAdd, List.map_cons, List.map_nil, List.length_cons, List.length_nil, List.cons_append, List.nil_append, List.getElem?_cons_zero, List.getElem?_cons_succ, List.set_cons_zero, List.set_cons_succ, Int.lt_irrefl, Int.natCast_nonneg, Nat.zero_add, Bool.false_eq_true, decide_false, true_and, and_true, and_self, and_false, forall_const, false_implies, reduceCtorEq, imp_self, List.length_map, Int.toNat_natCast, List.getD_eq_getElem?_getD, List.getElem?_map, eDome, eTent]
    refine ru_rangeE (cmKs t.dome.gores).length (fun pre xs => ⟨lkp [(0, .pa (eTent t)), (1, .i w), (8, .mp 1 0), (34, .it 2 0)], [cm t.dome.gores, cm xs, .iter 0 (cmKs t.dome.gores).length (leftN (cmKs t.dome.gores).length pre) pre.getLast?]⟩) (Inv68 t w) [0] ?_ ?_ ?_
    · simp only [eTent, cm, leftN_nil, List.getLast?_nil, cutL_noref _ _ _ (noref_cm _), cutH, kp, cutV, cutB, lkp_cons, lkp_nil, ↓reduceIte, Nat.reduceEqDiff, Nat.reduceLT, List.map_cons, List.map_nil, List.take_succ_cons, List.take_nil, List.cons_append, List.nil_append, reduceCtorEq, eDome, eTent]
      rfl
    · exact inv68_nil t w
    · intro pre xs hnd hlt hC
      simp only [eTent, cm, ru_skip, ru_reg, ru_seq, ru_cond, ru_block, ru_exit, ru_ret, ru_keep, ru_drp, ru_swp, ru_nxt, ↓cut_lkp, ↓ren_lkp, swH, sw, renV, renB, cutH, entV, keyV, endK, thenQ, blockQ, run_nil, run_cons, Fam.step, stepQ, stepW, needW, nv, evO, opv, qv, pickV, kp, cutV, cutB, upd_some, lkp_cons, lkp_nil, ↓reduceIte, Nat.reduceEqDiff, Nat.reduceAdd, Nat.reduceLT, List.map_cons, List.map_nil, List.length_cons, List.length_nil, List.take_succ_cons, List.take_zero, List.cons_append, List.nil_append, List.getElem?_cons_zero, List.getElem?_cons_succ, Option.getD_some, List.set_cons_zero, List.set_cons_succ, rvs, rv1, Nat.zero_add, Bool.false_eq_true, Bool.true_eq_false, true_and, and_true, and_self, forall_const, false_implies, reduceCtorEq, List.getD_eq_getElem?_getD, eDome, eTent]
      refine ⟨fun hnil => ?_, fun j hj => ?_⟩
      · refine ⟨xs, rfl, ?_, inv68_perm hC (perm_leftN hnd hlt hnil)⟩
        simp only [renL_noref _ _ (noref_cm _), cutL_noref _ _ _ (noref_cm _), cm]
      obtain ⟨hjn, hjp⟩ := mem_leftN.1 hj
      obtain ⟨b, hb, hk1, hk2⟩ := cmKs_get hjn
      obtain ⟨hb0, hbl⟩ := h.gores b hb
      have hgk : gk t j = b := by simp [gk, hk1]
      simp only [hk1, hk2, leftN_erase hj, List.headD_cons, Option.getD_some]
      refine ru_range (cmKs xs).length (fun pre2 => ⟨lkp [(0, .pa (eTent t)), (1, .i w), (9, .i b), (10, .i (t.dome.gores.count b)), (11, .mp 3 0), (34, .it 2 0), (42, .it 4 0)],
        [cm t.dome.gores, cm xs, .iter 0 (cmKs t.dome.gores).length (leftN (cmKs t.dome.gores).length (pre ++ [j])) (some j), cm (ys68 t w b xs pre2), .iter 1 (cmKs xs).length (leftN (cmKs xs).length pre2) pre2.getLast?]⟩) (fun _ => True) ?_ trivial ?_
      · simp only [eTent, cm, leftN_nil, List.getLast?_nil, kp, lkp_cons, lkp_nil, ↓reduceIte, Nat.reduceEqDiff, List.map_cons, List.map_nil, List.cons_append, List.nil_append, reduceCtorEq, eDome, eTent]
        rfl
      · intro pre2 hnd2 hlt2 _
        simp only [eTent, cm, ru_skip, ru_reg, ru_seq, ru_cond, ru_block, ru_exit, ru_keep, ru_swp, ru_nxt, ↓ren_lkp, swH, sw, renV, renB, entV, keyV, thenQ, blockQ, run_nil, run_cons, Fam.step, stepQ, evO, opv, qv, pickV, ldV, iadV, lenV, kp, cutV, cutB, upd_some, lkp_cons, lkp_nil, ↓reduceIte, Nat.reduceEqDiff, Nat.reduceAdd, Nat.reduceLT, Nat.reduceLeDiff, List.map_cons, List.map_nil, List.length_cons, List.length_nil, List.drop_succ_cons, List.drop_zero, List.take_succ_cons, List.take_zero, List.headD_cons, List.cons_append, List.nil_append, List.getElem?_cons_zero, List.getElem?_cons_succ, Option.getD_some, List.set_cons_zero, List.set_cons_succ, Nat.zero_add, Bool.false_eq_true, Bool.true_eq_false, true_and, and_true, and_self, forall_const, false_implies, reduceCtorEq, List.length_map, List.getD_eq_getElem?_getD, List.getElem?_map, eDome, eTent]
        refine ⟨fun hnil2 => ?_, fun j2 hj2 => ?_⟩
        · refine ⟨j, ys68 t w b xs pre2, hj, hgk ▸ inv68_snoc h hC hlt hjn hjp (perm_leftN hnd2 hlt2 hnil2), ?_⟩
          simp only [renL_noref _ _ (noref_cm _), cutL_noref _ _ _ (noref_cm _), List.getLast?_concat]
        · obtain ⟨hjn2, hjp2⟩ := mem_leftN.1 hj2
          obtain ⟨x, hx, hk3, hk4⟩ := cmKs_get hjn2
          have hcan : t.can[b.toNat]? = some (canAt t b) := by rw [canAt, List.getElem?_eq_getElem (by omega)]; rfl
          have hx2 := hC.rng x hx
          have hpl : pre.length < 4 := by
            have := few_bolts h
            have := nodup_len (pre := pre ++ [j]) (n := (cmKs t.dome.gores).length) (by
              rw [List.nodup_append]
              exact ⟨hnd, by simp, fun a ha b hb => by simp at hb; subst hb; rintro rfl; exact hjp ha⟩) (by
              intro i hi
              rcases List.mem_append.1 hi with hi | hi
              · exact hlt i hi
              · simp at hi; omega)
            simp at this; omega
          have hys := ys68_len h b xs pre2
          have hp2 : pre2.length ≤ 226981 := by
            have := nodup_len hnd2 hlt2
            have := cmKs_len xs
            have := hC.len
            have : 61 ^ pre.length ≤ 61 ^ 3 := Nat.pow_le_pow_right (by decide) (by omega)
            omega
          have hcl := canAt_len h b
          simp only [hk3, leftN_erase hj2, hb0, hbl, hcan, Nat.reduceLeDiff, List.length_cons, List.length_nil, List.headD_cons, Option.getD_some, Nat.zero_add, true_and, and_self, Option.map_some, List.length_map, eCan]
          refine ru_count (canAt t b).length (fun k => ⟨lkp [(0, .pa (eTent t)), (1, .i w), (9, .i b), (10, .i (t.dome.gores.count b)), (11, .mp 3 0), (12, .i x), (34, .it 2 0), (42, .it 4 0), (53, .sl 1 ((canAt t b).map eI)), (54, .i (canAt t b).length), (55, .i k)],
            [cm t.dome.gores, cm xs, .iter 0 (cmKs t.dome.gores).length (leftN (cmKs t.dome.gores).length (pre ++ [j])) (some j), cm (ys68 t w b xs pre2 ++ ((canAt t b).take k).map fun s => x + part t w b s), .iter 1 (cmKs xs).length (leftN (cmKs xs).length (pre2 ++ [j2])) (some j2)]⟩) ?_ ?_ ?_
          · simp only [Int.natCast_zero, eTent, cm, kp, lkp_cons, lkp_nil, ↓reduceIte, Nat.reduceEqDiff, List.map_cons, List.map_nil, List.take_zero, List.cons_append, List.nil_append, List.append_nil, reduceCtorEq, eDome, eTent]
          · intro k hk
            obtain ⟨s, hs⟩ : ∃ s, (canAt t b)[k]? = some s := ⟨_, List.getElem?_eq_getElem hk⟩
            have hsm := List.mem_of_getElem? hs
            have hsr := canAt_range h hsm
            have hlt3 : (k : Int) < (canAt t b).length := by omega
            have i1 : inI ((k : Int) + 1) := by unfold inI; omega
            have hl := h.loss
            have i2 : inI (2 * t.dome.loss) := by unfold inI; omega
            have i3 : inI (w - 2 * t.dome.loss) := by have := h.w; unfold inI; omega
            have i4 : tame 1000000 (w - 2 * t.dome.loss) ∧ tame 1000000 s := by have := h.w; unfold tame; omega
            have i5 : inI ((t.dome.gores.count b : Int) * pull (w - 2 * t.dome.loss) s) := by have := part_range h (b := b) hsr; unfold part at this; unfold inI; omega
            have i6 : inI (x + (t.dome.gores.count b : Int) * pull (w - 2 * t.dome.loss) s) := by have := part_range h (b := b) hsr; unfold part at this; unfold inI; omega
            have i7 : ∀ y, inI (((ys68 t w b xs pre2 ++ ((canAt t b).take k).map fun s => x + part t w b s).count y : Int) + 1) := by
              intro y
              have h1 := List.count_le_length (a := y) (l := ys68 t w b xs pre2 ++ ((canAt t b).take k).map fun s => x + part t w b s)
              have h2 := List.length_take_le k (canAt t b)
              rw [List.length_append, List.length_map] at h1
              unfold inI; omega
            simp only [hlt3, hs, i1, i2, i3, i4, i5, i6, i7, eTent, cm, gN69, cm_get, cm_put, ← cmKs_snoc, take_succ_of hs, Int.natCast_add, Int.natCast_one, ru_skip, ru_reg, ru_seq, ru_cond, ru_block, ru_exit, ru_keep, putB, lkpV, keyL, keyFits, thenQ, blockQ, run_nil, run_cons, Fam.step, stepQ, stepW, needW, putB, nv, sv, evO, opv, qv, pickV, binV, ldV, iadV, callV, hasRef, hasRefL, flat, kp, upd_some, upd_none, lkp_cons, lkp_nil, ↓reduceIte, Nat.reduceEqDiff, Nat.reduceAdd, Nat.reduceLT, Nat.reduceLeDiff, List.map_cons, List.map_nil, List.length_cons, List.length_nil, List.drop_succ_cons, List.drop_zero, List.headD_cons, List.cons_append, List.nil_append, List.append_nil, List.getElem?_cons_zero, List.getElem?_cons_succ, Option.getD_some, List.set_cons_zero, List.set_cons_succ, vw_i, Int.natCast_nonneg, Nat.zero_add, Bool.or_false, Bool.false_eq_true, Bool.true_eq_false, decide_true, true_and, and_true, and_self, forall_const, false_implies, implies_true, reduceCtorEq, Option.map_some, List.length_map, Int.toNat_natCast, List.getD_eq_getElem?_getD, List.getElem?_map, eDome, eI, eTent]
            simp only [List.map_append, part, List.append_assoc, List.map_cons, List.map_nil]
          · simp only [eTent, cm, List.take_length, ru_skip, ru_reg, ru_seq, ru_cond, ru_block, ru_exit, ru_keep, putB, lkpV, keyL, keyFits, thenQ, blockQ, run_nil, run_cons, Fam.step, stepQ, stepW, needW, putB, nv, sv, evO, opv, qv, pickV, binV, ldV, iadV, callV, hasRef, hasRefL, upd_some, upd_none, lkp_cons, lkp_nil, ↓reduceIte, Nat.reduceEqDiff, Nat.reduceAdd, Nat.reduceLT, Nat.reduceLeDiff, List.map_cons, List.map_nil, List.length_cons, List.length_nil, List.drop_succ_cons, List.drop_zero, List.headD_cons, List.cons_append, List.nil_append, List.append_nil, vw_i, Int.lt_irrefl, Int.natCast_nonneg, Nat.zero_add, Bool.or_false, Bool.false_or, Bool.false_eq_true, decide_false, true_and, and_true, and_self, and_false, forall_const, false_implies, reduceCtorEq, imp_self, List.length_map, Int.toNat_natCast, List.getD_eq_getElem?_getD, List.getElem?_map, eDome, eTent]
            refine ⟨j2, hj2, ?_⟩
            simp only [ys68_snoc, hk3, List.getLast?_concat, List.headD_cons, Option.getD_some]
end Go.C02
