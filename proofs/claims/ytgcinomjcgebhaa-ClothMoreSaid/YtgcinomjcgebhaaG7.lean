import Derived.Test.YtgcinomjcgebhaaG6
import Derived.Test.YtgcinomjcgebhaaG2
import Derived.Test.YtgcinomjcgebhaaChecked
import Derived.Test.YtgcinomjcgebhaaG3
set_option linter.all false
set_option linter.unusedSimpArgs false
set_option linter.unusedVariables false
namespace Go.C02
open Go.Fam Go.Proofs
/-! All truths that begin with some numbers. -/
def tr : List (List Int) → List Int → List (List Int)
  | [], f => [f]
  | c :: cs, f => c.flatMap fun x => tr cs (f ++ [x])
def truthsOf (d : Dome) (f : List Int) : List (List Int) := tr ((cansOf d).drop f.length) f
theorem tr_len : ∀ (cs : List (List Int)) (f : List Int), (∀ c ∈ cs, c.length ≤ 61) → (tr cs f).length ≤ 61 ^ cs.length
  | [], _, _ => by simp [tr]
  | c :: cs, f, h => by
    simp only [tr, List.length_flatMap, List.length_cons, Nat.pow_succ]
    have h1 := h c (by simp)
    have : ∀ l : List Int, (l.map fun x => (tr cs (f ++ [x])).length).sum ≤ l.length * 61 ^ cs.length := by
      intro l
      induction l with
      | nil => simp
      | cons x l ih =>
        have := tr_len cs (f ++ [x]) fun c hc => h c (by simp [hc])
        simp only [List.map_cons, List.sum_cons, List.length_cons, Nat.succ_mul]
        omega
    have := this c
    have := Nat.mul_le_mul_right (61 ^ cs.length) h1
    rw [Nat.mul_comm (61 ^ cs.length)]
    omega
theorem cans_len {d : Dome} (hv : Valid d) : ∀ c ∈ cansOf d, c.length ≤ 61 := by
  intro c hc
  obtain ⟨b, hb, rfl⟩ := List.mem_map.1 hc
  exact numbersOf_len (hv.bolts b hb)
theorem truths_len {d : Dome} (hv : Valid d) (f : List Int) : (truthsOf d f).length ≤ 20000000 := by
  have h1 := tr_len ((cansOf d).drop f.length) f fun c hc => cans_len hv c (List.mem_of_mem_drop hc)
  have h2 : ((cansOf d).drop f.length).length ≤ 4 := by
    have := hv.nb
    simp only [List.length_drop, cansOf, List.length_map]
    omega
  have h3 : 61 ^ ((cansOf d).drop f.length).length ≤ 61 ^ 4 := Nat.pow_le_pow_right (by decide) h2
  unfold truthsOf
  have : 61 ^ 4 ≤ 20000000 := by decide
  omega
def eTr (l : List (List Int)) : V := .sl 1 (l.map eCan)
theorem PureCall.toOwn {P : Program} {f : Nat} {vs : List V} {r : V} (h : PureCall P f vs r) : OwnCall P f vs r [] := fun S w cargs hS hsz hr =>
  (h S w cargs hS hsz hr).mono fun e w' ⟨c, he, hev, hrep⟩ => ⟨c, Sfr S w w', noO, he, hev,
    ⟨fun n hn => hn.elim (fun hn => Nat.lt_of_lt_of_le (hS n hn) hev.size) (fun hn => hn.2), fun _ _ _ h => (nomatch h), fun _ _ _ _ _ h _ => (nomatch h), fun _ _ _ h => (nomatch h)⟩, hrep⟩
def r65 : List V → Prop × V := fnG (fun b => [.ag (eBolt b)]) dB ValidB numbersOf eIs
def r43 : List V → Prop × V := fnG eDN dDN (fun a => a.1.bolts.length < 1000000) (fun a => fewest a.1 a.2) eNE
noncomputable def GV : Gam := (GU.ext 65 r65).ext 43 r43
theorem okV : GOk Try.prog GV := by
  have k1 := okU.ext (f := 65) (r := r65) (fun a w => Try.call65 a w) (fnG_ok fun a h => P65 a h)
  exact k1.ext (f := 43) (r := r43) (fun a w => Try.call43 a w) (fnG_ok fun a h => P43 a.1 a.2 h)
def ok55 (a : Dome × List Int) : Prop := Valid a.1 ∧ a.2.length ≤ a.1.bolts.length
def r55o (k : Nat) : List V → Prop × V := fnG eDL dDL (fun a => ok55 a ∧ a.1.bolts.length - a.2.length ≤ k) (fun a => a) (fun a => .tp [eTr (truthsOf a.1 a.2), .tp []])
noncomputable def G55 (k : Nat) : Gam := GV.ext 1000055 (r55o k)
theorem drop_succ_of {α : Type} {l : List α} {i : Nat} {x : α} (h : l[i]? = some x) : l.drop i = x :: l.drop (i + 1) := by
  obtain ⟨hi, rfl⟩ := List.getElem?_eq_some_iff.1 h
  exact List.drop_eq_getElem_cons hi
theorem truths_full {d : Dome} {f : List Int} (h : f.length = d.bolts.length) : truthsOf d f = [f] := by
  unfold truthsOf
  rw [List.drop_eq_nil_of_le (by simp [cansOf, h])]
  rfl
def trTo (d : Dome) (f : List Int) (c : List Int) (i : Nat) : List (List Int) := (c.take i).flatMap fun x => truthsOf d (f ++ [x])
theorem truths_step {d : Dome} {f : List Int} {b : Bolt} (h : d.bolts[f.length]? = some b) : truthsOf d f = trTo d f (numbersOf b) (numbersOf b).length := by
  have h1 : (cansOf d)[f.length]? = some (numbersOf b) := by simp [cansOf, h]
  unfold truthsOf
  rw [drop_succ_of h1]
  simp only [tr, trTo, List.take_length, truthsOf, List.length_append, List.length_cons, List.length_nil, Nat.zero_add]
theorem trTo_succ {d : Dome} {f c : List Int} {i : Nat} {x : Int} (h : c[i]? = some x) : trTo d f c (i + 1) = trTo d f c i ++ truthsOf d (f ++ [x]) := by
  simp [trTo, take_succ_of h]
theorem flatMap_len_le {α β : Type} (g : α → List β) {M : Nat} : ∀ (l : List α), (∀ x ∈ l, (g x).length ≤ M) → (l.flatMap g).length ≤ l.length * M
  | [], _ => by simp
  | x :: l, h => by
    have := flatMap_len_le g l fun y hy => h y (by simp [hy])
    have := h x (by simp)
    simp only [List.flatMap_cons, List.length_append, List.length_cons, Nat.succ_mul]
    omega
theorem gU65 (a b : Int) (l : List Strip) (w : Int) (k : Nat) : G55 k 65 [.ag [.i a, .i b, .sl 3 (l.map eStrip), .i w]] = (ValidB ⟨⟨a, b⟩, l, w⟩, eIs (numbersOf ⟨⟨a, b⟩, l, w⟩)) :=
  (show G55 k 65 _ = r65 [.ag (eBolt ⟨⟨a, b⟩, l, w⟩)] from rfl).trans (fnG_at (e := fun b => [.ag (eBolt b)]) _ (by simp [dB, dBolt_e]))
theorem g55 (k : Nat) (b : List Bolt) (g : List Int) (l : Int) (r : List Span) (w : List Int) (s : Int) (x : List Int) : G55 k 1000055 [.ag [.sl 4 (b.map eBolt), .sl 1 (g.map eI), .i l, .sl 2 (r.map eSpan), .sl 1 (w.map eI), .i s], .sl 1 (x.map eI)] =
    (ok55 (⟨b, g, l, r, w, s⟩, x) ∧ b.length - x.length ≤ k, .tp [eTr (truthsOf ⟨b, g, l, r, w, s⟩ x), .tp []]) :=
  (show G55 k 1000055 _ = r55o k (eDL (⟨b, g, l, r, w, s⟩, x)) from rfl).trans (fnG_at _ (dDL_e _))
theorem flat_app {α : Type} (e : α → List V) (a b : List α) : ((a ++ b).map e).flatten = (a.map e).flatten ++ (b.map e).flatten := by simp
theorem chunk_Is (f : List Int) (x : Int) : chunk 1 ((f.map eI).flatten ++ [.i x]) 0 (f.length + 1) = (f ++ [x]).map eI := by
  have := chunk_I (f ++ [x])
  simpa [flat_snoc, eI] using this
set_option maxHeartbeats 2000000 in
theorem P55 : ∀ (k : Nat) (d : Dome) (f : List Int), ok55 (d, f) → d.bolts.length - f.length ≤ k → PureCall Try.prog 55 (eDL (d, f)) (eTr (truthsOf d f)) := by
  intro k
  induction k with
  | zero =>
    intro d f h hk
    obtain ⟨hv, hf⟩ := h
    have hl : f.length = d.bolts.length := by simp only at hf; omega
    refine pure_body okV hmix Try.func55 cb55 cc55 cs55 cn55 ?_
    simp only [rc55, rs55, eDL, eTr, truths_full hl, hl, ru_reg, ru_seq, ru_cnd, ru_ret, ru_keep, chunk1, thenQ, run_nil, run_cons, Fam.step, stepQ, evO, opv, qv, binV, ldV, lenV, foldParts, putAt, partsOk, partsOne, V.cells, solid, cellOk, hasRef, hasRefL, upd_some, lkp_cons, lkp_nil, ↓reduceIte, Nat.reduceEqDiff, Nat.reduceAdd, Nat.reduceMul, Nat.reduceLeDiff, List.map_cons, List.map_nil, List.all_cons, List.all_nil, List.length_cons, List.length_nil, List.drop_zero, List.take_succ_cons, List.take_zero, List.headD_cons, List.cons_append, List.nil_append, List.replicate_zero, List.replicate_succ, endQ, rvs, rv1, resV, vw_i, vw_sl, vw_ag, zipA, Nat.zero_add, Bool.and_self, Bool.or_false, Bool.false_eq_true, decide_true, and_self, reduceCtorEq, not_false_eq_true, ne_eq, List.length_map, eDome, eCan]
  | succ k ih =>
    intro d f h hk
    have hok : GOk Try.prog (G55 k) := okV.extO (f := 55) (r := r55o k) (fun a w => Try.call55 a w) (fnO_ok (hp := fun _ => []) (fun _ => rfl) fun a h => PureCall.toOwn (ih a.1 a.2 h.1 h.2))
    obtain ⟨hv, hf⟩ := h
    have hv : Valid d := hv
    have hf : f.length ≤ d.bolts.length := hf
    refine pure_body hok hmix Try.func55 cb55 cc55 cs55 cn55 ?_
    by_cases hl : f.length = d.bolts.length
    · simp only [rc55, rs55, eDL, eTr, truths_full hl, hl, ru_reg, ru_seq, ru_cnd, ru_ret, ru_keep, chunk1, thenQ, run_nil, run_cons, Fam.step, stepQ, evO, opv, qv, binV, ldV, lenV, foldParts, putAt, partsOk, partsOne, V.cells, solid, cellOk, hasRef, hasRefL, upd_some, lkp_cons, lkp_nil, ↓reduceIte, Nat.reduceEqDiff, Nat.reduceAdd, Nat.reduceMul, Nat.reduceLeDiff, List.map_cons, List.map_nil, List.all_cons, List.all_nil, List.length_cons, List.length_nil, List.drop_zero, List.take_succ_cons, List.take_zero, List.headD_cons, List.cons_append, List.nil_append, List.replicate_zero, List.replicate_succ, endQ, rvs, rv1, resV, vw_i, vw_sl, vw_ag, zipA, Nat.zero_add, Bool.and_self, Bool.or_false, Bool.false_eq_true, decide_true, and_self, reduceCtorEq, not_false_eq_true, ne_eq, List.length_map, eDome, eCan]
    have hnb := hv.nb
    obtain ⟨b, hb⟩ : ∃ b, d.bolts[f.length]? = some b := ⟨_, List.getElem?_eq_getElem (by omega)⟩
    have hvb := hv.bolts b (List.mem_of_getElem? hb)
    have hnl := numbersOf_len hvb
    have hli : ¬ (f.length : Int) = d.bolts.length := by omega
    have hlt : (f.length : Int) < d.bolts.length := by omega
    simp only [rc55, rs55, eDL, eTr, hli, hlt, hb, gU65, hvb, eIs, ru_skip, ru_reg, ru_seq, ru_cnd, ru_block, ru_keep, ru_own, thenQ, run_nil, run_cons, Fam.step, stepQ, evO, opv, qv, binV, ldV, iadV, lenV, callV, V.cells, solid, hasRef, hasRefL, flat, upd_some, lkp_cons, lkp_nil, ↓reduceIte, Nat.reduceEqDiff, Nat.reduceAdd, Nat.reduceLT, Nat.reduceLeDiff, List.map_cons, List.map_nil, List.length_cons, List.length_nil, List.drop_zero, List.take_succ_cons, List.take_nil, List.headD_cons, List.nil_append, List.append_nil, Option.getD_some, vw_i, vw_sl, vw_ag, zipA, Int.natCast_nonneg, Nat.zero_add, Bool.or_false, Bool.false_eq_true, decide_false, true_and, and_self, reduceCtorEq, Option.map_some, imp_self, List.length_map, Int.toNat_natCast, List.getD_eq_getElem?_getD, List.getElem?_map, spanE, boltE, eBolt, eDome, eIs]
    refine ru_count (numbersOf b).length (fun i => ⟨lkp [(1, .sl 1 (f.map eI)), (2, .pa (eDome d)), (5, .rf 0 i 0 (trTo d f (numbersOf b) i).length 1), (6, .sl 1 ((numbersOf b).map eI)), (7, .i i)],
      [.cells i ((trTo d f (numbersOf b) i).map eCan).flatten]⟩) ?_ ?_ ?_
    · simp only [Int.natCast_zero, trTo, List.flatMap_nil, List.flatten_nil, cutH, kp, cutV, cutL, cutB, lkp_cons, lkp_nil, ↓reduceIte, Nat.reduceEqDiff, Nat.reduceLT, List.map_cons, List.map_nil, List.length_nil, List.take_succ_cons, List.take_zero, List.take_nil, eDome]
    · intro i hi
      obtain ⟨x, hx⟩ : ∃ x, (numbersOf b)[i]? = some x := ⟨_, List.getElem?_eq_getElem hi⟩
      have hlt2 : (i : Int) < (numbersOf b).length := by omega
      have h3 : inI ((i : Int) + 1) := by unfold inI; omega
      have h55 : ok55 (d, f ++ [x]) ∧ d.bolts.length - (f ++ [x]).length ≤ k := by
        refine ⟨⟨hv, ?_⟩, ?_⟩ <;> simp only [List.length_append, List.length_cons, List.length_nil] <;> omega
      have f1 : fitsLen (0 + f.length) := by unfold fitsLen; omega
      have f2 : fitsLen (f.length + 1) := by unfold fitsLen; omega
      have f3 : fitsLen ((trTo d f (numbersOf b) i).length + (truthsOf d (f ++ [x])).length) := by
        have a1 : (trTo d f (numbersOf b) i).length ≤ ((numbersOf b).take i).length * 20000000 := flatMap_len_le (fun x => truthsOf d (f ++ [x])) ((numbersOf b).take i) fun y _ => truths_len hv (f ++ [y])
        have a2 : ((numbersOf b).take i).length ≤ 61 := Nat.le_trans (List.length_take_le _ _) (by omega)
        have a3 := truths_len hv (f ++ [x])
        have a4 := Nat.mul_le_mul_right 20000000 a2
        unfold fitsLen
        omega
      simp only [hlt2, hx, h3, g55, h55, trTo_succ hx, f2, f3, len_I, len_C, chunk_Is, eTr, Int.natCast_add, Int.natCast_one, Nat.mul_one, List.length_append, flat_app, noref_I, hasRefL_append, List.flatten_nil, List.flatten_cons, Nat.le_refl, vw_I, cutL_append, cutL_noref _ _ _ (noref_C _), ru_skip, ru_reg, ru_any, ru_seq, ru_cnd, ru_block, ru_keep, ru_drp, chunk1, ↓cut_lkp, effO, killL, putBs, optL, rids, ridsL, leafB, kill1, rflat, cutH, thenQ, blockQ, run_nil, run_cons, Fam.step, stepQ, needW, runX, eff, nextD, fpR, fpQ, fpV, disjB, hits, nv, sv, newsV, evO, opv, qv, binV, ldV, iadV, lenV, foldParts, putAt, partsOk, partsOne, V.cells, solid, cellOk, hasRef, hasRefL, kp, cutV, cutL, cutB, upd_some, lkp_cons, lkp_nil, ↓reduceIte, Nat.reduceEqDiff, Nat.reduceAdd, Nat.reduceLT, List.map_cons, List.map_nil, List.all_cons, List.all_nil, List.length_cons, List.length_nil, List.drop_succ_cons, List.drop_nil, List.take_succ_cons, List.take_zero, List.take_nil, List.headD_cons, List.cons_append, List.nil_append, List.append_nil, List.getElem?_cons_zero, List.getElem?_cons_succ, List.getElem?_nil, Option.getD_some, Option.getD_none, List.set_cons_zero, List.set_cons_succ, List.replicate_zero, List.replicate_succ, List.isEmpty_nil, List.isEmpty_cons, vw_i, vw_sl, vw_ag, vw_rf, Int.natCast_nonneg, Nat.zero_add, Nat.add_zero, Bool.and_self, Bool.and_true, Bool.true_and, Bool.false_and, Bool.and_false, Bool.or_false, Bool.false_or, Bool.or_true, Bool.not_true, Bool.not_false, Bool.false_eq_true, decide_true, true_and, and_true, and_self, reduceCtorEq, not_false_eq_true, ne_eq, Option.map_some, List.any_cons, List.any_nil, List.contains_cons, List.contains_nil, Bool.not_not, List.length_map, Int.toNat_natCast, List.getD_eq_getElem?_getD, List.getElem?_map, domeE, eDome, eI]
      exact ⟨by unfold fitsLen; omega, by omega⟩
    · have hgt : ¬ (((numbersOf b).length : Int) < (numbersOf b).length) := by omega
      simp only [hgt, len_C, Nat.mul_one, Nat.le_refl, chunk_C, vw_C, truths_step hb, ru_reg, ru_seq, ru_cnd, ru_exit, ru_ret, ru_keep, thenQ, blockQ, run_nil, run_cons, Fam.step, stepQ, evO, opv, qv, binV, lenV, upd_some, lkp_cons, lkp_nil, ↓reduceIte, Nat.reduceEqDiff, List.map_cons, List.map_nil, List.getElem?_cons_zero, endQ, rvs, rv1, resV, vw_rf, Nat.zero_add, Bool.false_eq_true, decide_false, and_self, List.length_map, eDome]
end Go.C02
set_option linter.unusedSimpArgs false
set_option linter.unusedVariables false
namespace Go.C02
open Go.Fam Go.Proofs
/-! The truths: which they are, and what is known over all of them. -/
theorem mem_tr {t : List Int} : ∀ {cs : List (List Int)} {f : List Int}, t ∈ tr cs f ↔ ∃ u : List Int, t = f ++ u ∧ u.length = cs.length ∧ ∀ (i : Nat) (c : List Int), cs[i]? = some c → ∃ x, u[i]? = some x ∧ x ∈ c
  | [], f => by
    simp only [tr, List.mem_singleton]
    constructor
    · rintro rfl; exact ⟨[], by simp, rfl, fun i c h => by simp at h⟩
    · rintro ⟨u, rfl, h, _⟩
      have : u = [] := List.eq_nil_of_length_eq_zero (by simpa using h)
      simp [this]
  | c :: cs, f => by
    simp only [tr, List.mem_flatMap]
    constructor
    · rintro ⟨x, hx, h⟩
      obtain ⟨u, rfl, hu, hc⟩ := mem_tr.1 h
      refine ⟨x :: u, by simp, by simp [hu], fun i c' hi => ?_⟩
      cases i with
      | zero => simp at hi; subst hi; exact ⟨x, rfl, hx⟩
      | succ i => simpa using hc i c' (by simpa using hi)
    · rintro ⟨u, rfl, hu, hc⟩
      cases u with
      | nil => simp at hu
      | cons x u =>
        obtain ⟨y, hy, hm⟩ := hc 0 c rfl
        simp at hy; subst hy
        refine ⟨x, hm, mem_tr.2 ⟨u, by simp, by simpa using hu, fun i c' hi => ?_⟩⟩
        simpa using hc (i + 1) c' (by simpa using hi)
theorem mem_truths {d : Dome} {t : List Int} : t ∈ truthsOf d [] ↔ isTruth d t = true := by
  unfold truthsOf
  rw [List.length_nil, List.drop_zero, mem_tr]
  simp only [isTruth, Bool.and_eq_true, decide_eq_true_eq, List.all_eq_true, List.mem_range, List.nil_append]
  constructor
  · rintro ⟨u, rfl, hu, hc⟩
    have hl : t.length = d.bolts.length := by simpa [cansOf] using hu
    refine ⟨hl, fun i hi => ?_⟩
    obtain ⟨b, hb⟩ : ∃ b, d.bolts[i]? = some b := ⟨_, List.getElem?_eq_getElem (by omega)⟩
    obtain ⟨x, hx, hm⟩ := hc i (numbersOf b) (by simp [cansOf, hb])
    rw [hx, show boltAt d (i : Nat) = b by simp [boltAt, hb]]
    exact mem_numbersOf.1 hm
  · rintro ⟨hl, hc⟩
    refine ⟨t, rfl, by simp [cansOf, hl], fun i c hi => ?_⟩
    obtain ⟨b, hb, rfl⟩ : ∃ b, d.bolts[i]? = some b ∧ numbersOf b = c := by simpa [cansOf] using hi
    have hi2 := getElemLt hb
    obtain ⟨x, hx⟩ : ∃ x, t[i]? = some x := ⟨_, List.getElem?_eq_getElem (by omega)⟩
    have := hc i (by omega)
    rw [hx, show boltAt d (i : Nat) = b by simp [boltAt, hb]] at this
    exact ⟨x, hx, mem_numbersOf.2 this⟩
theorem tr_empty : ∀ (cs : List (List Int)) (f : List Int), (tr cs f).isEmpty = cs.any List.isEmpty
  | [], _ => rfl
  | c :: cs, f => by
    simp only [tr, List.any_cons]
    cases c with
    | nil => rfl
    | cons x c =>
      simp only [List.isEmpty_cons, Bool.false_or]
      rw [← tr_empty cs (f ++ [x])]
      cases h : tr cs (f ++ [x]) with
      | nil =>
        have h1 : cs.any List.isEmpty = true := by rw [← tr_empty cs (f ++ [x]), h]; rfl
        have : ∀ y ∈ c, tr cs (f ++ [y]) = [] := fun y _ => by
          have := tr_empty cs (f ++ [y])
          rw [h1] at this
          simpa using this
        simp only [List.flatMap_cons, h, List.nil_append, List.isEmpty_nil, List.isEmpty_iff, List.flatMap_eq_nil_iff]
        exact this
      | cons y l => simp [List.flatMap_cons, h]
theorem truths_empty (d : Dome) : (truthsOf d []).isEmpty = (cansOf d).any List.isEmpty := tr_empty _ _
theorem Good.truths {d : Dome} (h : Good d) : truthsOf d [] ≠ [] := by
  have h1 := truths_empty d
  have h2 := h.pitch true
  intro he
  rw [he] at h1
  simp [pitchE, h.c, ← h1] at h2
def minBy (f : List Int → Int) (m : Int) (T : List (List Int)) : Int := T.foldl (fun m t => min m (f t)) m
def maxBy (f : List Int → Int) (m : Int) (T : List (List Int)) : Int := T.foldl (fun m t => max m (f t)) m
theorem minBy_eq {f : List Int → Int} {a : Int} : ∀ (T : List (List Int)) (m : Int), a ≤ m → (∀ t ∈ T, a ≤ f t) → (m = a ∨ ∃ t ∈ T, f t = a) → minBy f m T = a
  | [], m, h1, _, h3 => by
    rcases h3 with h3 | ⟨t, ht, _⟩
    · exact h3
    · cases ht
  | t :: T, m, h1, h2, h3 => by
    have h4 := h2 t (by simp)
    refine minBy_eq T (min m (f t)) (by omega) (fun t ht => h2 t (by simp [ht])) ?_
    rcases h3 with h3 | ⟨t', ht', h3⟩
    · left; omega
    · rcases List.mem_cons.1 ht' with rfl | ht'
      · left; omega
      · exact .inr ⟨t', ht', h3⟩
theorem maxBy_eq {f : List Int → Int} {a : Int} : ∀ (T : List (List Int)) (m : Int), m ≤ a → (∀ t ∈ T, f t ≤ a) → (m = a ∨ ∃ t ∈ T, f t = a) → maxBy f m T = a
  | [], m, h1, _, h3 => by
    rcases h3 with h3 | ⟨t, ht, _⟩
    · exact h3
    · cases ht
  | t :: T, m, h1, h2, h3 => by
    have h4 := h2 t (by simp)
    refine maxBy_eq T (max m (f t)) (by omega) (fun t ht => h2 t (by simp [ht])) ?_
    rcases h3 with h3 | ⟨t', ht', h3⟩
    · left; omega
    · rcases List.mem_cons.1 ht' with rfl | ht'
      · left; omega
      · exact .inr ⟨t', ht', h3⟩
theorem good_mem {d : Dome} (hg : Good d) {i : Nat} (hi : i < d.bolts.length) : numbersOf (boltAt d i) ≠ [] := by
  obtain ⟨b, hb⟩ : ∃ b, d.bolts[i]? = some b := ⟨_, List.getElem?_eq_getElem hi⟩
  rw [show boltAt d (i : Nat) = b by simp [boltAt, hb]]
  exact hg.ne b (List.mem_of_getElem? hb)
theorem low_truth {d : Dome} (hg : Good d) : listTo (lowB d) d.bolts.length ∈ truthsOf d [] := mem_truths.2 (listTo_truth fun i hi => headD_mem (good_mem hg hi))
theorem high_truth {d : Dome} (hg : Good d) : listTo (highB d) d.bolts.length ∈ truthsOf d [] := mem_truths.2 (listTo_truth fun i hi => getLastD_mem (good_mem hg hi))
theorem truth_bounds {d : Dome} (hg : Good d) {w : Int} (hw : 2 * d.loss ≤ w) {t : List Int} (ht : t ∈ truthsOf d []) : (roundOf (tentOf d) w).low ≤ roundBy d w t ∧ roundBy d w t ≤ (roundOf (tentOf d) w).high :=
  sums_bounds hg hw (truth_sums hg.v (mem_truths.1 ht) w)
theorem minBy_round {d : Dome} (hg : Good d) {w : Int} (hw : 2 * d.loss ≤ w) {t : List Int} (ht : t ∈ truthsOf d []) : minBy (roundBy d w) (roundBy d w t) (truthsOf d []) = (roundOf (tentOf d) w).low :=
  minBy_eq _ _ (truth_bounds hg hw ht).1 (fun t ht => (truth_bounds hg hw ht).1) (.inr ⟨_, low_truth hg, round_low hg.v w⟩)
theorem maxBy_round {d : Dome} (hg : Good d) {w : Int} (hw : 2 * d.loss ≤ w) {t : List Int} (ht : t ∈ truthsOf d []) : maxBy (roundBy d w) (roundBy d w t) (truthsOf d []) = (roundOf (tentOf d) w).high :=
  maxBy_eq _ _ (truth_bounds hg hw ht).2 (fun t ht => (truth_bounds hg hw ht).2) (.inr ⟨_, high_truth hg, round_high hg.v w⟩)
/-- in how many truths a row is tight -/
def tightIn (d : Dome) (row w : Int) (t : List Int) : Bool := within (roundBy d w t) (wantAt d row).low (wantAt d row).high
def tightN (d : Dome) (T : List (List Int)) (row w : Int) : Nat := T.countP (tightIn d row w)
theorem tight_all {d : Dome} (hg : Good d) {row w : Int} (hw : 2 * d.loss ≤ w) : tightN d (truthsOf d []) row w = (truthsOf d []).length ↔ fits (tentOf d) row w = true := by
  unfold tightN
  rw [List.countP_eq_length, fits_iff]
  constructor
  · intro h
    have h1 := h _ (low_truth hg)
    have h2 := h _ (high_truth hg)
    simp only [tightIn, within, Bool.and_eq_true, decide_eq_true_eq, round_low hg.v, round_high hg.v] at h1 h2
    exact ⟨h1.1, h2.2⟩
  · rintro ⟨h1, h2⟩ t ht
    have := truth_bounds hg hw ht
    simp only [tightIn, within, Bool.and_eq_true, decide_eq_true_eq]
    exact ⟨Int.le_trans h1 this.1, Int.le_trans this.2 h2⟩
theorem sums_truth {d : Dome} (hg : Good d) {w x : Int} (h : inSums (tentOf d) w x) : ∃ t ∈ truthsOf d [], roundBy d w t = x := by
  obtain ⟨c, hc, rfl⟩ := h
  refine ⟨listTo (fun i => if (i : Int) ∈ d.gores then c i else lowB d i) d.bolts.length, mem_truths.2 (listTo_truth fun i hi => ?_), ?_⟩
  · split
    · rename_i hgo
      have := hc i hgo
      obtain ⟨b, hb⟩ : ∃ b, d.bolts[i]? = some b := ⟨_, List.getElem?_eq_getElem hi⟩
      rw [show boltAt d (i : Nat) = b by simp [boltAt, hb]]
      simpa [canAt, tentOf, cansOf, hb] using this
    · exact headD_mem (good_mem hg hi)
  · unfold roundBy sumBy
    refine congrArg List.sum (List.map_congr_left fun g hgo => ?_)
    have hgg := hg.v.gores g hgo
    rw [listTo_get (by omega), show ((g.toNat : Nat) : Int) = g by omega, if_pos hgo]
    rfl
theorem tight_none {d : Dome} (hg : Good d) {row w : Int} : tightN d (truthsOf d []) row w = 0 ↔ ¬ ∃ x, inSums (tentOf d) w x ∧ within x (wantAt d row).low (wantAt d row).high = true := by
  unfold tightN
  rw [List.countP_eq_zero]
  constructor
  · rintro h ⟨x, hx, hw⟩
    obtain ⟨t, ht, rfl⟩ := sums_truth hg hx
    exact h t ht hw
  · intro h t ht hw
    exact h ⟨_, truth_sums hg.v (mem_truths.1 ht) w, hw⟩
def vT (d : Dome) (is : Bool) : List (List Int) := if pitchE d is = 0 then truthsOf d [] else []
theorem truth_ok {d : Dome} (hv : Valid d) {w : Int} (hw : 0 ≤ w ∧ w ≤ 2000) {t : List Int} (ht : t ∈ truthsOf d []) : ok38 (d, w, t) := truth_ok38 hv (mem_truths.1 ht) hw
theorem tight_tightOf {d : Dome} (hg : Good d) {row w : Int} (hw : 2 * d.loss ≤ w) : tightOf (tentOf d) row w = if tightN d (truthsOf d []) row w = (truthsOf d []).length then 1 else if tightN d (truthsOf d []) row w = 0 then 2 else 3 := by
  by_cases h1 : tightN d (truthsOf d []) row w = (truthsOf d []).length
  · rw [if_pos h1]
    exact tight_one.2 ((tight_all hg hw).1 h1)
  · rw [if_neg h1]
    have hn : tightOf (tentOf d) row w ≠ 1 := fun h => h1 ((tight_all hg hw).2 (tight_one.1 h))
    by_cases h2 : tightN d (truthsOf d []) row w = 0
    · rw [if_pos h2]
      rcases tight_vals (tentOf d) row w with h | h | h
      · exact absurd h hn
      · exact h
      · exfalso
        apply tight_none hg |>.1 h2
        unfold tightOf at h
        split at h
        · omega
        · split at h
          · rename_i hx; exact hx
          · omega
    · rw [if_neg h2]
      rcases tight_vals (tentOf d) row w with h | h | h
      · exact absurd h hn
      · exfalso
        apply h2
        rw [tight_none hg]
        rintro ⟨x, hx, hwx⟩
        have := tight_two h hx
        have e : wantAt (tentOf d).dome row = wantAt d row := rfl
        rw [e, hwx] at this
        cases this
      · exact h
end Go.C02
set_option linter.unusedSimpArgs false
set_option linter.unusedVariables false
namespace Go.C02
open Go.Fam Go.Proofs
/-! The reference: known, Stretches, Round, tight. -/
def r55 : List V → Prop × V := fnG eDL dDL ok55 (fun a => truthsOf a.1 a.2) eTr
noncomputable def GW : Gam := GV.ext 55 r55
theorem okW : GOk Try.prog GW := okV.ext (f := 55) (r := r55) (fun a w => Try.call55 a w) (fnG_ok fun a h => P55 _ a.1 a.2 h (Nat.le_refl _))
section
variable (b : List Bolt) (g : List Int) (l : Int) (r : List Span) (w : List Int) (s n m : Int) (x : List Int)
theorem gW55 : GW 55 [.ag [.sl 4 (b.map eBolt), .sl 1 (g.map eI), .i l, .sl 2 (r.map eSpan), .sl 1 (w.map eI), .i s], .sl 1 (x.map eI)] = (ok55 (⟨b, g, l, r, w, s⟩, x), eTr (truthsOf ⟨b, g, l, r, w, s⟩ x)) :=
  (show GW 55 _ = r55 (eDL (⟨b, g, l, r, w, s⟩, x)) from rfl).trans (fnG_at _ (dDL_e _))
theorem gW55n : GW 55 [.ag [.sl 4 (b.map eBolt), .sl 1 (g.map eI), .i l, .sl 2 (r.map eSpan), .sl 1 (w.map eI), .i s], .sl 1 []] = (ok55 (⟨b, g, l, r, w, s⟩, []), eTr (truthsOf ⟨b, g, l, r, w, s⟩ [])) := gW55 b g l r w s []
theorem gW39 : GW 39 [.ag [.sl 4 (b.map eBolt), .sl 1 (g.map eI), .i l, .sl 2 (r.map eSpan), .sl 1 (w.map eI), .i s]] = (True, .i (check ⟨b, g, l, r, w, s⟩)) := gR39 b g l r w s
theorem gW54 : GW 54 [.i n, .i m, .i l] = (True, .b (within n m l)) := rfl
theorem gW65 (a c : Int) (q : List Strip) : GW 65 [.ag [.i a, .i c, .sl 3 (q.map eStrip), .i n]] = (ValidB ⟨⟨a, c⟩, q, n⟩, eIs (numbersOf ⟨⟨a, c⟩, q, n⟩)) :=
  (show GW 65 _ = r65 [.ag (eBolt ⟨⟨a, c⟩, q, n⟩)] from rfl).trans (fnG_at (e := fun b => [.ag (eBolt b)]) _ (by simp [dB, dBolt_e]))
end
theorem P51 (d : Dome) (bolt row : Int) : PureCall Try.prog 51 [.ag (eDome d), .i bolt, .i row] (.tp [eTr (vT d (isBoltOf d bolt && isRow d row)), .i (pitchE d (isBoltOf d bolt && isRow d row))]) := by
  refine pure_body okW hmix Try.func51 cb51 cc51 cs51 cn51 ?_
  by_cases hc : check d = 0
  · have hv := valid_of hc
    have hnb := hv.nb
    have hnr := hv.nr
    have i1 : inI ((d.bolts.length : Int) - 1) := by unfold inI; omega
    have i2 : inI ((d.rounds.length : Int) - 1) := by unfold inI; omega
    have o55 : ok55 (d, []) := ⟨hv, Nat.zero_le _⟩
    have e1 : within bolt 0 ((d.bolts.length : Int) - 1) = isBoltOf d bolt := rfl
    have e2 : within row 0 ((d.rounds.length : Int) - 1) = isRow d row := rfl
    by_cases hb : isBoltOf d bolt = true
    · by_cases hr : isRow d row = true
      · have hvt : vT d true = truthsOf d [] := by
          unfold vT
          split
          · rfl
          · rename_i hp
            have := truths_empty d
            have h2 : (cansOf d).any List.isEmpty = true := by
              by_cases h : (cansOf d).any List.isEmpty = true
              · exact h
              · exfalso; apply hp; simp [pitchE, hc, h]
            rw [h2] at this
            simpa using this.symm
        have hpe : pitchE d true = if (truthsOf d []).length = 0 then 3 else 0 := by
          have := truths_empty d
          unfold pitchE
          rw [if_neg (by simp [hc]), if_pos rfl, ← this]
          simp
        by_cases hl : (truthsOf d []).length = 0
        · have hn : truthsOf d [] = [] := List.eq_nil_of_length_eq_zero hl
          simp only [rc51, rs51, gW39, gW54, gW55n, hc, i1, i2, e1, e2, hb, hr, o55, hvt, hpe, hn, eTr, Int.natCast_zero, ru_skip, ru_reg, ru_seq, ru_cnd, ru_ret, ru_keep, thenQ, run_nil, run_cons, Fam.step, stepQ, needQ, condB, ug, evO, opv, qv, pickV_bb, binV, ldV, lenV, callV, V.cells, solid, hasRef, hasRefL, flat, upd_some, lkp_cons, lkp_nil, ↓reduceIte, Nat.reduceEqDiff, Nat.reduceAdd, Nat.reduceLT, Nat.reduceLeDiff, List.map_cons, List.map_nil, List.all_cons, List.all_nil, List.length_cons, List.length_nil, List.drop_succ_cons, List.drop_zero, List.take_succ_cons, List.take_nil, List.headD_cons, List.append_nil, List.getElem?_nil, endQ, rvs, rv1, resV, vw_i, vw_z, vw_sl, vw_ag, vw_tp, zipA, beq_self_eq_true, Nat.zero_add, Bool.and_self, Bool.or_false, Bool.not_true, Bool.false_eq_true, decide_true, and_self, forall_const, implies_true, reduceCtorEq, imp_self, List.length_map, domeE, eDome]
        · have hli : ¬ ((truthsOf d []).length : Int) = 0 := by omega
          simp only [rc51, rs51, gW39, gW54, gW55n, hc, i1, i2, e1, e2, hb, hr, o55, hvt, hpe, hl, hli, eTr, ru_skip, ru_reg, ru_seq, ru_cnd, ru_ret, ru_keep, thenQ, run_nil, run_cons, Fam.step, stepQ, needQ, condB, ug, evO, opv, qv, pickV_bb, binV, ldV, lenV, callV, V.cells, solid, hasRef, hasRefL, flat, upd_some, lkp_cons, lkp_nil, ↓reduceIte, Nat.reduceEqDiff, Nat.reduceAdd, Nat.reduceLT, Nat.reduceLeDiff, List.map_cons, List.map_nil, List.all_cons, List.all_nil, List.length_cons, List.length_nil, List.drop_succ_cons, List.drop_zero, List.take_succ_cons, List.take_nil, List.headD_cons, List.append_nil, List.getElem?_nil, endQ, rvs, rv1, resV, vw_i, vw_z, vw_sl, vw_ag, vw_tp, zipA, beq_self_eq_true, Nat.zero_add, Bool.and_self, Bool.or_false, Bool.not_true, Bool.false_eq_true, decide_true, decide_false, and_self, forall_const, implies_true, reduceCtorEq, imp_self, List.length_map, domeE, eDome]
      · have hr : isRow d row = false := by simpa using hr
        have hpe : pitchE d false = 1 := by simp [pitchE, hc]
        have hvt : vT d false = [] := by unfold vT; rw [hpe]; rfl
        simp only [rc51, rs51, gW39, gW54, hc, i1, i2, e1, e2, hb, hr, hpe, hvt, eTr, ru_skip, ru_reg, ru_seq, ru_cnd, ru_ret, ru_keep, thenQ, run_nil, run_cons, Fam.step, stepQ, needQ, condB, ug, evO, opv, qv, pickV_bb, binV, ldV, lenV, callV, V.cells, solid, hasRef, hasRefL, flat, upd_some, lkp_cons, lkp_nil, ↓reduceIte, Nat.reduceEqDiff, Nat.reduceAdd, Nat.reduceLT, Nat.reduceLeDiff, List.map_cons, List.map_nil, List.all_cons, List.all_nil, List.length_cons, List.length_nil, List.drop_succ_cons, List.drop_zero, List.take_succ_cons, List.take_nil, List.headD_cons, List.append_nil, List.getElem?_nil, endQ, rvs, rv1, resV, vw_i, vw_z, vw_sl, vw_ag, vw_tp, zipA, beq_self_eq_true, Nat.zero_add, Bool.and_self, Bool.and_false, Bool.or_false, Bool.not_true, Bool.not_false, Bool.false_eq_true, decide_true, and_self, forall_const, implies_true, reduceCtorEq, List.length_map, domeE, eDome]
    · have hb : isBoltOf d bolt = false := by simpa using hb
      have hpe : pitchE d false = 1 := by simp [pitchE, hc]
      have hvt : vT d false = [] := by unfold vT; rw [hpe]; rfl
      simp only [rc51, rs51, gW39, gW54, hc, i1, i2, e1, e2, hb, hpe, hvt, eTr, ru_skip, ru_reg, ru_seq, ru_cnd, ru_ret, ru_keep, thenQ, run_nil, run_cons, Fam.step, stepQ, needQ, condB, ug, evO, opv, qv, pickV_bb, binV, ldV, lenV, callV, V.cells, solid, hasRef, hasRefL, flat, upd_some, lkp_cons, lkp_nil, ↓reduceIte, Nat.reduceEqDiff, Nat.reduceAdd, Nat.reduceLT, Nat.reduceLeDiff, List.map_cons, List.map_nil, List.all_cons, List.all_nil, List.length_cons, List.length_nil, List.drop_succ_cons, List.drop_zero, List.take_succ_cons, List.take_nil, List.headD_cons, List.append_nil, List.getElem?_nil, endQ, rvs, rv1, resV, vw_i, vw_z, vw_sl, vw_ag, vw_tp, zipA, Nat.zero_add, Bool.and_self, Bool.and_true, Bool.false_and, Bool.or_false, Bool.not_true, Bool.not_false, Bool.false_eq_true, Bool.true_eq_false, decide_true, and_true, and_self, forall_const, implies_true, reduceCtorEq, beq_false, imp_self, List.length_map, domeE, eDome]
  · have hpe : ∀ is, pitchE d is = check d := fun is => by simp [pitchE, hc]
    have hvt : ∀ is, vT d is = [] := fun is => by unfold vT; rw [hpe, if_neg hc]
    simp only [rc51, rs51, gW39, hc, hpe, hvt, eTr, ru_reg, ru_seq, ru_cnd, ru_ret, ru_keep, thenQ, run_nil, run_cons, Fam.step, stepQ, evO, opv, qv, binV, ldV, callV, V.cells, solid, hasRef, hasRefL, flat, upd_some, lkp_cons, lkp_nil, ↓reduceIte, Nat.reduceEqDiff, Nat.reduceAdd, Nat.reduceLT, Nat.reduceLeDiff, List.map_cons, List.map_nil, List.length_cons, List.length_nil, List.take_succ_cons, List.take_nil, List.append_nil, List.getElem?_nil, endQ, rvs, rv1, resV, vw_i, vw_z, vw_sl, vw_ag, vw_tp, zipA, Nat.zero_add, Bool.or_false, Bool.not_false, Bool.false_eq_true, decide_false, and_self, implies_true, reduceCtorEq, domeE, eDome]
def eKn (a : List (List Int) × Int) : V := .tp [eTr a.1, .i a.2]
def r51 : List V → Prop × V := fnG eDNN dDNN (fun _ => True) (fun a => (vT a.1 (isBoltOf a.1 a.2.1 && isRow a.1 a.2.2), pitchE a.1 (isBoltOf a.1 a.2.1 && isRow a.1 a.2.2))) eKn
noncomputable def GX : Gam := GW.ext 51 r51
theorem okX : GOk Try.prog GX := okW.ext (f := 51) (r := r51) (fun a w => Try.call51 a w) (fnG_ok fun a h => P51 a.1 a.2.1 a.2.2)
theorem gX51 (b : List Bolt) (g : List Int) (l : Int) (r : List Span) (w : List Int) (s n m : Int) : GX 51 [.ag [.sl 4 (b.map eBolt), .sl 1 (g.map eI), .i l, .sl 2 (r.map eSpan), .sl 1 (w.map eI), .i s], .i n, .i m] =
    (True, eKn (vT ⟨b, g, l, r, w, s⟩ (isBoltOf ⟨b, g, l, r, w, s⟩ n && isRow ⟨b, g, l, r, w, s⟩ m), pitchE ⟨b, g, l, r, w, s⟩ (isBoltOf ⟨b, g, l, r, w, s⟩ n && isRow ⟨b, g, l, r, w, s⟩ m))) :=
  (show GX 51 _ = r51 (eDNN (⟨b, g, l, r, w, s⟩, n, m)) from rfl).trans (fnG_at _ (dDNN_e _))
theorem gX65 (a c n : Int) (q : List Strip) : GX 65 [.ag [.i a, .i c, .sl 3 (q.map eStrip), .i n]] = (ValidB ⟨⟨a, c⟩, q, n⟩, eIs (numbersOf ⟨⟨a, c⟩, q, n⟩)) := gW65 n a c q
theorem gX38 (b : List Bolt) (g : List Int) (l : Int) (r : List Span) (w : List Int) (s n : Int) (x : List Int) : GX 38 [.ag [.sl 4 (b.map eBolt), .sl 1 (g.map eI), .i l, .sl 2 (r.map eSpan), .sl 1 (w.map eI), .i s], .i n, .sl 1 (x.map eI)] = (ok38 (⟨b, g, l, r, w, s⟩, n, x), .i (roundBy ⟨b, g, l, r, w, s⟩ n x)) := gU38 b g l r w s n x
theorem gX54 (n m l : Int) : GX 54 [.i n, .i m, .i l] = (True, .b (within n m l)) := rfl
theorem bolt0 {d : Dome} (hv : Valid d) : isBoltOf d 0 = true := by
  have := hv.nb
  simp only [isBoltOf, within, Bool.and_eq_true, decide_eq_true_eq]; omega
theorem row0 {d : Dome} (hv : Valid d) : isRow d 0 = true := by
  have := hv.nr
  simp only [isRow, within, Bool.and_eq_true, decide_eq_true_eq]; omega
theorem pitch_bolt0 (d : Dome) (is : Bool) : pitchE d (isBoltOf d 0 && is) = pitchE d is ∧ vT d (isBoltOf d 0 && is) = vT d is := by
  by_cases hc : check d = 0
  · rw [bolt0 (valid_of hc)]; simp
  · have : ∀ is, pitchE d is = check d := fun is => by simp [pitchE, hc]
    unfold vT
    simp [this]
theorem pitch_row0 (d : Dome) (is : Bool) : pitchE d (is && isRow d 0) = pitchE d is ∧ vT d (is && isRow d 0) = vT d is := by
  by_cases hc : check d = 0
  · rw [row0 (valid_of hc)]; simp
  · have : ∀ is, pitchE d is = check d := fun is => by simp [pitchE, hc]
    unfold vT
    simp [this]
theorem P42 (d : Dome) (n : Int) (hb : d.bolts.length < 1000) : PureCall Try.prog 42 [.ag (eDome d), .i n] (eLE (stretchesR d n)) := by
  refine pure_body okX hmix Try.func42 cb42 cc42 cs42 cn42 ?_
  simp only [rc42, rs42, gX51, eKn, eTr, (pitch_row0 d (isBoltOf d n)).1, (pitch_row0 d (isBoltOf d n)).2, eLE, stretchesR, ru_skip, ru_reg, ru_seq, ru_cnd, ite_P, ru_ret, ru_keep, thenQ, run_nil, run_cons, Fam.step, stepQ, evO, opv, qv, binV, ldV, iadV, callV, V.cells, solid, hasRef, hasRefL, flat, flatL, upd_some, lkp_cons, lkp_nil, ↓reduceIte, Nat.reduceEqDiff, Nat.reduceAdd, Nat.reduceLT, Nat.reduceLeDiff, List.map_cons, List.map_nil, List.length_cons, List.length_nil, List.drop_zero, List.take_succ_cons, List.take_nil, List.headD_cons, List.append_nil, List.getElem?_cons_zero, List.getElem?_cons_succ, List.getElem?_nil, Option.getD_some, endQ, rvs, rv1, resV, vw_i, vw_z, vw_sl, vw_ag, vw_tp, zipA, Nat.zero_add, Bool.and_self, Bool.and_true, Bool.or_false, Bool.false_eq_true, decide_eq_false_iff_not, true_and, and_self, reduceCtorEq, Bool.not_eq_true', imp_self, List.length_map, List.getD_eq_getElem?_getD, List.getElem?_map, Classical.not_not, domeE, eDome]
  refine ⟨fun h => ?_, fun h => ?_⟩
  · simp [h]
  · obtain ⟨hg, hr⟩ := pitchE_zero h
    obtain ⟨k1, k2⟩ := within_nat hr
    obtain ⟨b, hb⟩ : ∃ b, d.bolts[n.toNat]? = some b := ⟨_, List.getElem?_eq_getElem (by omega)⟩
    have hba : boltAt d n = b := by simp [boltAt, hb]
    have hvb := hg.v.bolts b (List.mem_of_getElem? hb)
    have k3 : n < d.bolts.length := by omega
    simp only [k1, k3, hb, hba, h, gX65, hvb, eIs, hasRef, hasRefL, flat, ↓reduceIte, Nat.reduceAdd, Nat.reduceLeDiff, List.map_cons, List.map_nil, List.length_cons, List.length_nil, List.take_succ_cons, List.take_nil, Option.getD_some, vw_i, vw_sl, Nat.zero_add, Bool.or_false, Bool.false_eq_true, and_self, Option.map_some, imp_self, spanE, boltE, eBolt, eIs]

theorem minBy_snoc (f : List Int → Int) (m : Int) (T : List (List Int)) (t : List Int) : minBy f m (T ++ [t]) = min (minBy f m T) (f t) := by simp [minBy]
theorem maxBy_snoc (f : List Int → Int) (m : Int) (T : List (List Int)) (t : List Int) : maxBy f m (T ++ [t]) = max (maxBy f m T) (f t) := by simp [maxBy]
set_option maxHeartbeats 1000000 in
theorem P24 (d : Dome) (n : Int) (hb : d.rounds.length < 1000) : PureCall Try.prog 24 [.ag (eDome d), .i n] (eSE (roundR d n)) := by
  refine pure_body okX hmix Try.func24 cb24 cc24 cs24 cn24 ?_
  simp only [rc24, rs24, gX51, eKn, eTr, (pitch_bolt0 d (isRow d n)).1, (pitch_bolt0 d (isRow d n)).2, eSE, roundR, ru_skip, ru_reg, ru_any, ru_seq, ru_cnd, ite_P, ru_block, ru_ret, ru_keep, putBs, putB, thenQ, run_nil, run_cons, Fam.step, stepQ, stepW, needW, runX, eff, nextD, fpR, fpQ, fpV, disjB, hits, putB, nv, sv, evO, opv, qv, binV, ldV, iadV, callV, foldParts, putAt, partsOk, V.cells, solid, cellOk, hasRef, hasRefL, flat, flatL, upd_some, upd_none, lkp_cons, lkp_nil, ↓reduceIte, Nat.reduceEqDiff, Nat.reduceAdd, Nat.reduceLT, Nat.reduceLeDiff, Int.toNat_zero, Int.reduceLE, List.map_cons, List.map_nil, List.all_cons, List.all_nil, List.length_cons, List.length_nil, List.drop_succ_cons, List.drop_zero, List.drop_nil, List.take_succ_cons, List.take_zero, List.take_nil, List.headD_cons, List.cons_append, List.nil_append, List.append_nil, List.getElem?_cons_zero, List.getElem?_cons_succ, List.getElem?_nil, Option.getD_some, Option.getD_none, List.set_cons_zero, List.set_cons_succ, List.replicate_zero, List.isEmpty_nil, endQ, rvs, rv1, resV, vw_i, vw_sl, vw_ag, vw_tp, zipA, Nat.zero_add, Bool.and_self, Bool.and_true, Bool.false_and, Bool.or_false, Bool.false_or, Bool.not_true, Bool.not_false, Bool.false_eq_true, decide_eq_false_iff_not, true_and, and_true, and_self, reduceCtorEq, List.any_nil, List.contains_nil, Bool.not_eq_true', imp_self, List.length_map, List.getD_eq_getElem?_getD, List.getElem?_map, Classical.not_not, domeE, eSpan, eDome]
  refine ⟨fun h => ?_, fun h => ?_⟩
  · simp [h]
  · obtain ⟨hg, hr⟩ := pitchE_zero h
    obtain ⟨k1, k2, k3, k4, k5, k6, k7⟩ := row_of hg.v hr
    have hl := hg.v.loss
    have hvt : vT d (isRow d n) = truthsOf d [] := by unfold vT; rw [if_pos h]
    obtain ⟨t0, T', hT⟩ : ∃ t0 T', truthsOf d [] = t0 :: T' := by
      cases hT : truthsOf d [] with
      | nil => exact absurd hT hg.truths
      | cons t T => exact ⟨t, T, rfl⟩
    have hw : 0 ≤ widthAt d n ∧ widthAt d n ≤ 2000 := by omega
    have ht0 : t0 ∈ truthsOf d [] := by rw [hT]; simp
    have o0 := truth_ok hg.v hw ht0
    have h0 : (truthsOf d [])[0]? = some t0 := by rw [hT]; rfl
    have hlen := truths_len hg.v []
    have hpos : (0 : Int) < (truthsOf d []).length := by rw [hT]; simp
    simp only [hvt, k1, k3, k4, h0, hpos, gX38, o0, eCan, cellOk, hasRef, flat, Nat.reduceAdd, Nat.reduceLeDiff, List.all_cons, List.all_nil, List.length_cons, List.length_nil, List.drop_succ_cons, List.drop_zero, List.drop_nil, List.take_succ_cons, List.take_zero, List.headD_cons, List.cons_append, List.nil_append, List.append_nil, Option.getD_some, vw_i, vw_sl, Nat.zero_add, Bool.and_self, Bool.or_false, Bool.false_eq_true, true_and, and_self, implies_true, Option.map_some, domeE, eI, eCan]
    refine ru_count (truthsOf d []).length (fun i => ⟨lkp [(1, .i n), (2, .pa (eDome d)), (4, .ad 0 0 0), (6, .sl 1 ((truthsOf d []).map eCan)), (9, .ad 1 0 0), (10, .i i)],
      [.cells 0 [.i 0, .i 0], .cells 0 [.i (minBy (roundBy d (widthAt d n)) (roundBy d (widthAt d n) t0) ((truthsOf d []).take i)), .i (maxBy (roundBy d (widthAt d n)) (roundBy d (widthAt d n) t0) ((truthsOf d []).take i))]]⟩) ?_ ?_ ?_
    · simp only [Int.natCast_zero, minBy, maxBy, List.foldl_nil, List.foldl_nil, kp, lkp_cons, lkp_nil, ↓reduceIte, Nat.reduceEqDiff, List.map_cons, List.map_nil, List.take_zero, eDome]
    · intro i hi
      obtain ⟨t, ht⟩ : ∃ t, (truthsOf d [])[i]? = some t := ⟨_, List.getElem?_eq_getElem hi⟩
      have oi := truth_ok hg.v hw (List.mem_of_getElem? ht)
      have hlt : (i : Int) < (truthsOf d []).length := by omega
      have h3 : inI ((i : Int) + 1) := by unfold inI; omega
      simp only [hlt, k1, k3, k4, ht, gX38, oi, h3, Int.natCast_add, Int.natCast_one, take_succ_of ht, minBy_snoc, maxBy_snoc, eCan, ru_skip, ru_reg, ru_any, ru_seq, ru_cnd, ru_block, ru_keep, putBs, putB, thenQ, blockQ, run_nil, run_cons, Fam.step, stepQ, stepW, needW, runX, eff, nextD, fpR, fpQ, fpV, disjB, hits, putB, nv, sv, evO, opv, qv, binV, ldV, iadV, lenV, curG, callV, foldParts, putAt, partsOk, V.cells, solid, cellOk, hasRef, hasRefL, flat, kp, upd_some, upd_none, lkp_cons, lkp_nil, ↓reduceIte, Nat.reduceEqDiff, Nat.reduceAdd, Nat.reduceLT, Nat.reduceLeDiff, List.map_cons, List.map_nil, List.all_cons, List.all_nil, List.length_cons, List.length_nil, List.drop_succ_cons, List.drop_zero, List.drop_nil, List.take_succ_cons, List.take_zero, List.take_nil, List.headD_cons, List.cons_append, List.nil_append, List.append_nil, List.getElem?_cons_zero, List.getElem?_cons_succ, List.getElem?_nil, Option.getD_some, Option.getD_none, List.set_cons_zero, List.set_cons_succ, List.replicate_zero, List.isEmpty_nil, vw_i, vw_sl, vw_ag, Int.natCast_nonneg, beq_self_eq_true, Nat.zero_add, Nat.add_zero, Bool.and_self, Bool.and_true, Bool.false_and, Bool.or_false, Bool.not_true, Bool.not_false, Bool.false_eq_true, decide_true, and_self, implies_true, Option.map_some, List.any_nil, List.contains_nil, List.length_map, Int.toNat_natCast, List.getD_eq_getElem?_getD, List.getElem?_map, domeE, eDome, eI, eCan]
      all_goals skip
    · have hgt : ¬ (((truthsOf d []).length : Int) < (truthsOf d []).length) := by omega
      simp only [hgt, List.take_length, minBy_round hg k6 ht0, maxBy_round hg k6 ht0, h, ru_reg, ru_seq, ru_cnd, ru_exit, ru_ret, ru_keep, putB, thenQ, blockQ, run_nil, run_cons, Fam.step, stepQ, stepW, needW, putB, nv, sv, evO, opv, qv, binV, ldV, lenV, putAt, V.cells, solid, cellOk, upd_some, upd_none, lkp_cons, lkp_nil, ↓reduceIte, Nat.reduceEqDiff, Nat.reduceAdd, Nat.reduceLeDiff, List.map_cons, List.map_nil, List.all_cons, List.all_nil, List.length_cons, List.length_nil, List.drop_succ_cons, List.drop_zero, List.drop_nil, List.take_succ_cons, List.take_zero, List.take_nil, List.nil_append, List.append_nil, List.getElem?_cons_zero, List.getElem?_cons_succ, List.set_cons_zero, endQ, rvs, rv1, resV, vw_i, vw_ag, vw_tp, Nat.zero_add, Bool.and_self, Bool.false_eq_true, decide_false, and_self, List.length_map, eDome]
      all_goals skip
def eDTNN (a : Dome × List (List Int) × Int × Int) : List V := [.ag (eDome a.1), .sl 1 (a.2.1.map eCan), .i a.2.2.1, .i a.2.2.2]
def dDTNN : List V → Dome × List (List Int) × Int × Int | [.ag cs, .sl _ T, .i n, .i m] => (dDome cs, T.map dCan, n, m) | _ => (D0, [], 0, 0)
theorem dDTNN_e (a : Dome × List (List Int) × Int × Int) : dDTNN (eDTNN a) = a := by simp [dDTNN, eDTNN, dDome_e, Function.comp_def, dCan_e]
structure Ok52 (d : Dome) (T : List (List Int)) (row w : Int) : Prop where
  v : Valid d
  r : 0 ≤ row ∧ row < d.rounds.length
  w : 0 ≤ w ∧ w ≤ 2000
  m : ∀ t ∈ T, t ∈ truthsOf d []
  n : T.length ≤ 20000000
theorem tightN_succ {d : Dome} {T : List (List Int)} {row w : Int} {i : Nat} {t : List Int} (h : T[i]? = some t) : tightN d (T.take (i + 1)) row w = tightN d (T.take i) row w + (if tightIn d row w t then 1 else 0) := by
  simp only [tightN, take_succ_of h, List.countP_append, List.countP_cons, List.countP_nil, Nat.zero_add]
theorem P52 (d : Dome) (T : List (List Int)) (row w : Int) (h : Ok52 d T row w) : PureCall Try.prog 52 [.ag (eDome d), .sl 1 (T.map eCan), .i row, .i w] (.i (tightN d T row w)) := by
  refine pure_body okX hmix Try.func52 cb52 cc52 cs52 cn52 ?_
  have hv := h.v
  have h1 := h.r.1
  have h2 := h.r.2
  have hn := h.n
  have e2 : d.rounds[row.toNat]? = some (wantAt d row) := by rw [wantAt, List.getElem?_eq_getElem (by omega)]; rfl
  simp only [rc52, rs52, ru_reg, ru_seq, ru_block, ru_keep, thenQ, run_nil, run_cons, Fam.step, stepQ, evO, opv, qv, V.cells, solid, hasRef, hasRefL, upd_some, lkp_cons, lkp_nil, ↓reduceIte, Nat.reduceEqDiff, Nat.reduceAdd, List.map_cons, List.map_nil, vw_i, vw_sl, vw_ag, zipA, Nat.zero_add, Bool.or_false, true_and, and_self, reduceCtorEq, eDome]
  refine ru_count T.length (fun i => ⟨lkp [(1, .sl 1 (T.map eCan)), (2, .i row), (3, .i w), (4, .pa (eDome d)), (9, .i (tightN d (T.take i) row w)), (10, .i i)], []⟩) ?_ ?_ ?_
  · simp only [Int.natCast_zero, tightN, List.countP_nil, kp, lkp_cons, lkp_nil, ↓reduceIte, Nat.reduceEqDiff, List.map_cons, List.map_nil, List.take_zero, eDome]
  · intro i hi
    obtain ⟨t, ht⟩ : ∃ t, T[i]? = some t := ⟨_, List.getElem?_eq_getElem hi⟩
    have oi := truth_ok hv h.w (h.m t (List.mem_of_getElem? ht))
    have hlt : (i : Int) < T.length := by omega
    have h3 : inI ((i : Int) + 1) := by unfold inI; omega
    have hc : tightN d (T.take i) row w ≤ i := Nat.le_trans List.countP_le_length (List.length_take_le _ _)
    have h4 : inI ((tightN d (T.take i) row w : Int) + 1) := by unfold inI; omega
    have e : within (roundBy d w t) (wantAt d row).low (wantAt d row).high = tightIn d row w t := rfl
    simp only [hlt, ht, gX38, gX54, oi, h3, h1, h2, e2, Int.natCast_add, Int.natCast_one, tightN_succ ht, eCan, e, ru_skip, ru_reg, ru_any, ru_seq, ru_cnd, ite_P, ru_block, ru_keep, putBs, thenQ, blockQ, run_nil, run_cons, Fam.step, stepQ, runX, eff, nextD, fpR, fpQ, fpV, disjB, hits, evO, opv, qv, binV, ldV, iadV, lenV, callV, hasRef, hasRefL, flat, kp, upd_some, lkp_cons, lkp_nil, ↓reduceIte, Nat.reduceEqDiff, Nat.reduceAdd, Nat.reduceLT, Nat.reduceLeDiff, List.map_cons, List.map_nil, List.all_nil, List.length_cons, List.length_nil, List.drop_succ_cons, List.drop_zero, List.take_succ_cons, List.take_nil, List.headD_cons, List.cons_append, List.nil_append, List.append_nil, List.getElem?_nil, Option.getD_some, Option.getD_none, List.replicate_zero, List.isEmpty_nil, vw_i, vw_sl, vw_ag, Int.natCast_nonneg, Nat.zero_add, Bool.and_self, Bool.and_true, Bool.false_and, Bool.or_false, Bool.not_true, Bool.not_false, Bool.false_eq_true, decide_true, true_and, and_self, implies_true, Option.map_some, List.any_nil, List.contains_nil, List.length_map, Int.toNat_natCast, List.getD_eq_getElem?_getD, List.getElem?_map, Bool.not_eq_true, domeE, eSpan, eDome, eCan]
    refine ⟨fun hw => ?_, fun hw => ?_⟩
    · simp only [hw, h4, Int.natCast_one, ↓reduceIte, and_self]
    · simp only [hw, Int.natCast_zero, Int.add_zero, ↓reduceIte, Bool.false_eq_true]
  · have hgt : ¬ ((T.length : Int) < T.length) := by omega
    simp only [hgt, List.take_length, ru_reg, ru_seq, ru_cnd, ru_exit, ru_ret, ru_keep, thenQ, blockQ, run_nil, run_cons, Fam.step, stepQ, evO, opv, qv, binV, lenV, upd_some, lkp_cons, lkp_nil, ↓reduceIte, Nat.reduceEqDiff, List.map_cons, List.map_nil, endQ, rvs, rv1, resV, vw_i, Bool.false_eq_true, decide_false, and_self, List.length_map, eDome]
end Go.C02
set_option linter.unusedSimpArgs false
set_option linter.unusedVariables false
namespace Go.C02
open Go.Fam Go.Proofs
/-! The reference: Tight, Loose, cut, Cut. -/
def r52 : List V → Prop × V := fnG eDTNN dDTNN (fun a => Ok52 a.1 a.2.1 a.2.2.1 a.2.2.2) (fun a => (tightN a.1 a.2.1 a.2.2.1 a.2.2.2 : Int)) .i
noncomputable def GY : Gam := ((GX.ext 42 r36).ext 24 r23).ext 52 r52
theorem okY : GOk Try.prog GY := by
  have k1 := okX.ext (f := 42) (r := r36) (fun a w => Try.call42 a w) (fnG_ok fun a h => P42 a.1 a.2 h)
  have k2 := k1.ext (f := 24) (r := r23) (fun a w => Try.call24 a w) (fnG_ok fun a h => P24 a.1 a.2 h)
  exact k2.ext (f := 52) (r := r52) (fun a w => Try.call52 a w) (fnG_ok fun a h => P52 a.1 a.2.1 a.2.2.1 a.2.2.2 h)
section
variable (b : List Bolt) (g : List Int) (l : Int) (r : List Span) (w : List Int) (s n m : Int) (T : List (List Int))
theorem gY52 : GY 52 [.ag [.sl 4 (b.map eBolt), .sl 1 (g.map eI), .i l, .sl 2 (r.map eSpan), .sl 1 (w.map eI), .i s], .sl 1 (T.map eCan), .i n, .i m] = (Ok52 ⟨b, g, l, r, w, s⟩ T n m, .i (tightN ⟨b, g, l, r, w, s⟩ T n m)) :=
  (show GY 52 _ = r52 (eDTNN (⟨b, g, l, r, w, s⟩, T, n, m)) from rfl).trans (fnG_at _ (dDTNN_e _))
theorem gY51 : GY 51 [.ag [.sl 4 (b.map eBolt), .sl 1 (g.map eI), .i l, .sl 2 (r.map eSpan), .sl 1 (w.map eI), .i s], .i n, .i m] =
    (True, eKn (vT ⟨b, g, l, r, w, s⟩ (isBoltOf ⟨b, g, l, r, w, s⟩ n && isRow ⟨b, g, l, r, w, s⟩ m), pitchE ⟨b, g, l, r, w, s⟩ (isBoltOf ⟨b, g, l, r, w, s⟩ n && isRow ⟨b, g, l, r, w, s⟩ m))) := gX51 b g l r w s n m
end
theorem Good.ok52 {d : Dome} (hg : Good d) {row w : Int} (hr : 0 ≤ row ∧ row < d.rounds.length) (hw : 0 ≤ w ∧ w ≤ 2000) : Ok52 d (truthsOf d []) row w := ⟨hg.v, hr, hw, fun _ h => h, truths_len hg.v []⟩
theorem P25 (d : Dome) (n : Int) (hb : d.rounds.length < 1000) : PureCall Try.prog 25 [.ag (eDome d), .i n] (eNE (tightR d n)) := by
  refine pure_body okY hmix Try.func25 cb25 cc25 cs25 cn25 ?_
  simp only [rc25, rs25, gY51, eKn, eTr, (pitch_bolt0 d (isRow d n)).1, (pitch_bolt0 d (isRow d n)).2, eNE, tightR, ru_skip, ru_reg, ru_any, ru_seq, ru_cnd, ite_P, ru_block, ru_ret, ru_keep, putBs, thenQ, blockQ, run_nil, run_cons, Fam.step, stepQ, runX, eff, nextD, fpR, fpQ, fpV, disjB, hits, evO, opv, qv, binV, ldV, iadV, lenV, callV, V.cells, solid, hasRef, hasRefL, flat, flatL, upd_some, lkp_cons, lkp_nil, ↓reduceIte, Nat.reduceEqDiff, Nat.reduceAdd, Nat.reduceLT, Nat.reduceLeDiff, List.map_cons, List.map_nil, List.all_nil, List.length_cons, List.length_nil, List.drop_succ_cons, List.drop_zero, List.take_succ_cons, List.take_nil, List.headD_cons, List.cons_append, List.nil_append, List.append_nil, List.getElem?_cons_zero, List.getElem?_cons_succ, List.getElem?_nil, Option.getD_some, Option.getD_none, List.replicate_zero, List.isEmpty_nil, endQ, rvs, rv1, resV, vw_i, vw_sl, vw_ag, vw_tp, zipA, Nat.zero_add, Bool.and_self, Bool.and_true, Bool.false_and, Bool.or_false, Bool.false_or, Bool.not_true, Bool.not_false, Bool.false_eq_true, decide_eq_false_iff_not, true_and, and_self, reduceCtorEq, List.any_nil, List.contains_nil, Bool.not_eq_true', imp_self, List.length_map, List.getD_eq_getElem?_getD, List.getElem?_map, Bool.not_eq_true, Classical.not_not, domeE, eDome]
  refine ⟨fun h => by simp [h], fun h => ?_⟩
  obtain ⟨hg, hr⟩ := pitchE_zero h
  obtain ⟨k1, k2, k3, k4, k5, k6, k7⟩ := row_of hg.v hr
  have hl := hg.v.loss
  have hvt : vT d (isRow d n) = truthsOf d [] := by unfold vT; rw [if_pos h]
  have hw : 0 ≤ widthAt d n ∧ widthAt d n ≤ 2000 := by omega
  have o := hg.ok52 ⟨k1, k2⟩ hw
  have ht := tight_tightOf hg (row := n) k6
  have hc : tightN d (truthsOf d []) n (widthAt d n) ≤ (truthsOf d []).length := List.countP_le_length
  rw [ht]
  by_cases h1 : tightN d (truthsOf d []) n (widthAt d n) = (truthsOf d []).length
  · simp only [hvt, k1, k3, k4, h, gY52, o, h1, hasRef, flat, ↓reduceIte, Nat.reduceLeDiff, List.length_cons, List.length_nil, List.headD_cons, Option.getD_some, vw_i, Nat.zero_add, Bool.false_eq_true, Bool.true_eq_false, decide_true, decide_eq_true_eq, decide_eq_false_iff_not, true_and, and_self, forall_const, false_implies, implies_true, Option.map_some, domeE, eI]
  · have h1' : ¬ (tightN d (truthsOf d []) n (widthAt d n) : Int) = (truthsOf d []).length := by omega
    by_cases h2 : tightN d (truthsOf d []) n (widthAt d n) = 0
    · simp only [hvt, k1, k3, k4, h, gY52, o, h2, Int.natCast_zero, hasRef, flat, ↓reduceIte, Nat.reduceLeDiff, List.length_cons, List.length_nil, List.headD_cons, Option.getD_some, vw_i, Nat.zero_add, Bool.false_eq_true, Bool.true_eq_false, decide_true, decide_eq_true_eq, decide_eq_false_iff_not, true_and, and_true, and_self, forall_const, false_implies, implies_true, Option.map_some, domeE, eI]
      rw [h2] at h1 h1'
      simp only [h1, ↓reduceIte, and_true, implies_true]
      simp [Ne.symm, h1]
    · have h2' : ¬ (tightN d (truthsOf d []) n (widthAt d n) : Int) = 0 := by omega
      simp only [hvt, k1, k3, k4, h, gY52, o, h1, h1', h2, h2', hasRef, flat, ↓reduceIte, Nat.reduceLeDiff, List.length_cons, List.length_nil, List.headD_cons, Option.getD_some, vw_i, Nat.zero_add, Bool.false_eq_true, decide_false, and_self, forall_const, false_implies, implies_true, Option.map_some, domeE, eI]
noncomputable def GZ : Gam := GY.ext 25 r17
theorem okZ : GOk Try.prog GZ := okY.ext (f := 25) (r := r17) (fun a w => Try.call25 a w) (fnG_ok fun a h => P25 a.1 a.2 h)
section
variable (b : List Bolt) (g : List Int) (l : Int) (r : List Span) (w : List Int) (s n m : Int) (T : List (List Int))
theorem gZ25 : GZ 25 [.ag [.sl 4 (b.map eBolt), .sl 1 (g.map eI), .i l, .sl 2 (r.map eSpan), .sl 1 (w.map eI), .i s], .i n] = (r.length < 1000, eNE (tightR ⟨b, g, l, r, w, s⟩ n)) :=
  (show GZ 25 _ = r17 (eDN (⟨b, g, l, r, w, s⟩, n)) from rfl).trans (fnG_at _ (dDN_e _))
theorem gZ51 : GZ 51 [.ag [.sl 4 (b.map eBolt), .sl 1 (g.map eI), .i l, .sl 2 (r.map eSpan), .sl 1 (w.map eI), .i s], .i n, .i m] =
    (True, eKn (vT ⟨b, g, l, r, w, s⟩ (isBoltOf ⟨b, g, l, r, w, s⟩ n && isRow ⟨b, g, l, r, w, s⟩ m), pitchE ⟨b, g, l, r, w, s⟩ (isBoltOf ⟨b, g, l, r, w, s⟩ n && isRow ⟨b, g, l, r, w, s⟩ m))) := gX51 b g l r w s n m
theorem gZ52 : GZ 52 [.ag [.sl 4 (b.map eBolt), .sl 1 (g.map eI), .i l, .sl 2 (r.map eSpan), .sl 1 (w.map eI), .i s], .sl 1 (T.map eCan), .i n, .i m] = (Ok52 ⟨b, g, l, r, w, s⟩ T n m, .i (tightN ⟨b, g, l, r, w, s⟩ T n m)) := gY52 b g l r w s n m T
end
theorem P27 (d : Dome) : PureCall Try.prog 27 [.ag (eDome d)] (eLE (looseR d)) := by
  refine pure_body okZ hmix Try.func27 cb27 cc27 cs27 cn27 ?_
  have e0 : pitchE d (isBoltOf d 0 && isRow d 0) = pitchE d true := by
    have h1 := (pitch_bolt0 d (isRow d 0)).1
    have h2 := (pitch_row0 d true).1
    rw [Bool.true_and] at h2
    rw [h1, h2]
  simp only [rc27, rs27, gZ51, eKn, eTr, e0, eLE, looseR, ru_skip, ru_reg, ru_seq, ru_cnd, ite_P, ru_block, ru_ret, ru_keep, ru_own, thenQ, run_nil, run_cons, Fam.step, stepQ, evO, opv, qv, binV, ldV, callV, V.cells, solid, hasRef, hasRefL, flat, flatL, upd_some, lkp_cons, lkp_nil, ↓reduceIte, Nat.reduceEqDiff, Nat.reduceAdd, Nat.reduceLT, Nat.reduceLeDiff, List.map_cons, List.map_nil, List.length_cons, List.length_nil, List.take_succ_cons, List.take_nil, List.nil_append, List.append_nil, List.getElem?_cons_zero, List.getElem?_cons_succ, List.getElem?_nil, Option.getD_some, endQ, rvs, rv1, resV, vw_i, vw_z, vw_sl, vw_ag, vw_tp, zipA, Nat.zero_add, Bool.and_self, Bool.and_true, Bool.or_false, Bool.false_eq_true, decide_eq_false_iff_not, true_and, and_self, Bool.not_eq_true', imp_self, Classical.not_not, domeE, eDome]
  refine ⟨fun h => by simp [h], fun h => ?_⟩
  obtain ⟨hg, _⟩ := pitchE_zero h
  have hnr := hg.v.nr
  have hnw := hg.v.nw
  simp only [h, ↓reduceIte]
  refine ru_count d.widths.length (fun i => ⟨lkp [(1, .pa (eDome d)), (6, .rf 0 (looseTo d i).length 0 (looseTo d i).length 1), (7, .i i)], [.cells (looseTo d i).length ((looseTo d i).map eI).flatten]⟩) ?_ ?_ ?_
  · simp only [Int.natCast_zero, looseTo, List.filter_nil, List.flatten_nil, kp, lkp_cons, lkp_nil, ↓reduceIte, Nat.reduceEqDiff, List.map_cons, List.map_nil, List.length_nil, List.take_zero, ne_eq, eDome]
  · intro i hi
    have hrow : isRow d i = true := by simp only [isRow, within, Bool.and_eq_true, decide_eq_true_eq]; omega
    have ht : tightR d i = (tightOf (tentOf d) i (widthAt d i), 0) := by unfold tightR; rw [hrow, if_pos h]
    have hlt : (i : Int) < d.rounds.length := by omega
    have hlr : d.rounds.length < 1000 := by omega
    have h3 : inI ((i : Int) + 1) := by unfold inI; omega
    have hget : (ints 0 ((d.widths.length : Int) - 1))[i]? = some (i : Int) := by rw [ints_get (by omega)]; simp
    have hs : looseTo d (i + 1) = looseTo d i ++ (if decide (tightOf (tentOf d) i (widthAt d i) ≠ 1) then [(i : Int)] else []) := filter_snoc _ hget
    have hll : (looseTo d i).length ≤ i := Nat.le_trans (List.length_filter_le _ _) (List.length_take_le _ _)
    simp only [hlt, h3, gZ25, hlr, ht, eNE, hs, Int.natCast_add, Int.natCast_one, ru_skip, ru_reg, ru_seq, ru_cnd, ite_P, ru_block, ru_keep, chunk1, putB, thenQ, blockQ, run_nil, run_cons, Fam.step, stepQ, stepW, needW, putB, nv, sv, newsV, evO, opv, qv, binV, ldV, lenV, callV, foldParts, putAt, partsOk, partsOne, V.cells, solid, cellOk, hasRef, hasRefL, flat, flatL, kp, upd_some, lkp_cons, lkp_nil, ↓reduceIte, Nat.reduceEqDiff, Nat.reduceAdd, Nat.reduceMul, Nat.reduceLT, Nat.reduceLeDiff, List.map_cons, List.map_nil, List.all_cons, List.all_nil, List.length_cons, List.length_nil, List.drop_succ_cons, List.drop_zero, List.take_succ_cons, List.take_zero, List.take_nil, List.headD_cons, List.cons_append, List.nil_append, List.append_nil, List.getElem?_cons_zero, List.getElem?_cons_succ, Option.getD_some, List.set_cons_zero, List.replicate_zero, List.replicate_succ, vw_i, vw_sl, vw_ag, Nat.zero_add, Bool.and_self, Bool.or_false, Bool.false_eq_true, decide_true, decide_eq_true_eq, decide_eq_false_iff_not, true_and, and_self, implies_true, reduceCtorEq, not_false_eq_true, ne_eq, Bool.not_eq_true', List.length_map, Classical.not_not, domeE, eDome]
    refine ⟨fun he => ?_, fun he => ?_⟩
    · simp only [he, len_I, List.length_append, List.map_append, List.flatten_append, List.flatten_cons, List.flatten_nil, Nat.mul_one, ↓reduceIte, List.map_cons, List.map_nil, List.length_cons, List.length_nil, List.append_nil, Nat.zero_add, true_and, and_true, not_false_eq_true, eI]
      unfold fitsLen; omega
    · simp only [he, ↓reduceIte, List.append_nil, not_true_eq_false]
  · have hgt : ¬ ((d.widths.length : Int) < d.rounds.length) := by omega
    simp only [hgt, len_I, Nat.mul_one, Nat.le_refl, chunk_I, vw_I, ru_reg, ru_seq, ru_cnd, ru_exit, ru_ret, ru_keep, thenQ, blockQ, run_nil, run_cons, Fam.step, stepQ, evO, opv, qv, binV, ldV, lenV, upd_some, lkp_cons, lkp_nil, ↓reduceIte, Nat.reduceEqDiff, Nat.reduceAdd, Nat.reduceLeDiff, List.map_cons, List.map_nil, List.length_cons, List.length_nil, List.drop_succ_cons, List.drop_zero, List.headD_cons, List.getElem?_cons_zero, endQ, rvs, rv1, resV, vw_i, vw_tp, vw_rf, Nat.zero_add, Bool.false_eq_true, decide_false, and_self, List.length_map, eDome]
def eDTN (a : Dome × List (List Int) × Int) : List V := [.ag (eDome a.1), .sl 1 (a.2.1.map eCan), .i a.2.2]
def dDTN : List V → Dome × List (List Int) × Int | [.ag cs, .sl _ T, .i n] => (dDome cs, T.map dCan, n) | _ => (D0, [], 0)
theorem dDTN_e (a : Dome × List (List Int) × Int) : dDTN (eDTN a) = a := by simp [dDTN, eDTN, dDome_e, Function.comp_def, dCan_e]
def ok53 (a : Dome × List (List Int) × Int) : Prop := Good a.1 ∧ a.2.1 = truthsOf a.1 [] ∧ 0 ≤ a.2.2 ∧ a.2.2 < a.1.rounds.length
theorem P53 (d : Dome) (T : List (List Int)) (row : Int) (h : ok53 (d, T, row)) : PureCall Try.prog 53 [.ag (eDome d), .sl 1 (T.map eCan), .i row] (eSB (cutOf (tentOf d) row)) := by
  refine pure_body okZ hmix Try.func53 cb53 cc53 cs53 cn53 ?_
  have hg : Good d := h.1
  have hT : T = truthsOf d [] := h.2.1
  have h1 : 0 ≤ row := h.2.2.1
  have h2 : row < d.rounds.length := h.2.2.2
  clear h
  subst hT
  have hl := hg.v.loss
  have i1 : inI (2 * d.loss) := by unfold inI; omega
  simp only [rc53, rs53, i1, eSB, ru_reg, ru_seq, ru_block, ru_keep, putB, thenQ, run_nil, run_cons, Fam.step, stepQ, stepW, needW, putB, nv, sv, evO, opv, qv, binV, ldV, foldParts, putAt, partsOk, V.cells, solid, cellOk, hasRef, hasRefL, upd_some, upd_none, lkp_cons, lkp_nil, ↓reduceIte, Nat.reduceEqDiff, Nat.reduceAdd, Nat.reduceLeDiff, List.map_cons, List.map_nil, List.all_cons, List.all_nil, List.length_cons, List.length_nil, List.drop_succ_cons, List.drop_zero, List.drop_nil, List.take_zero, List.headD_cons, List.cons_append, List.nil_append, List.append_nil, List.getElem?_cons_zero, List.getElem?_cons_succ, List.set_cons_zero, List.set_cons_succ, vw_i, vw_sl, vw_ag, zipA, Nat.zero_add, Bool.and_self, Bool.or_false, Bool.false_eq_true, true_and, and_self, reduceCtorEq, eSpan, eDome]
  refine ru_count (2001 - 2 * d.loss).toNat (fun k => ⟨lkp [(1, .sl 1 ((truthsOf d []).map eCan)), (2, .i row), (3, .pa (eDome d)), (6, .ad 0 0 0), (8, .ad 1 0 0), (9, .b (!(goodsTo (tentOf d) row k).isEmpty)), (10, .i (2 * d.loss + k))],
    [.cells 0 [.i 0, .i 0], .cells 0 [.i ((goodsTo (tentOf d) row k).headD 0), .i ((goodsTo (tentOf d) row k).getLastD 0)]]⟩) ?_ ?_ ?_
  · simp only [Int.natCast_zero, Int.add_zero, goodsTo, List.filter_nil, List.isEmpty_nil, List.headD_nil, List.getLastD_nil, kp, lkp_cons, lkp_nil, ↓reduceIte, Nat.reduceEqDiff, List.map_cons, List.map_nil, List.take_zero, List.headD_nil, List.isEmpty_nil, Bool.not_true, eDome]
  · intro k hk
    have hget : (ints (2 * (tentOf d).dome.loss) 2000)[k]? = some (2 * d.loss + k) := ints_get (by show k < (2000 + 1 - 2 * d.loss).toNat; omega)
    have hs : goodsTo (tentOf d) row (k + 1) = goodsTo (tentOf d) row k ++ (if fits (tentOf d) row (2 * d.loss + k) then [2 * d.loss + k] else []) := filter_snoc _ hget
    have hlt : 2 * d.loss + (k : Int) ≤ 2000 := by omega
    have i2 : inI (2 * d.loss + (k : Int) + 1) := by unfold inI; omega
    have o := hg.ok52 ⟨h1, h2⟩ (w := 2 * d.loss + k) (by omega)
    have hc : tightN d (truthsOf d []) row (2 * d.loss + k) ≤ (truthsOf d []).length := List.countP_le_length
    have ha := tight_all hg (row := row) (w := 2 * d.loss + k) (by omega)
    by_cases hf : fits (tentOf d) row (2 * d.loss + k) = true
    · have hnl : ¬ (tightN d (truthsOf d []) row (2 * d.loss + k) : Int) < (truthsOf d []).length := by have := ha.2 hf; omega
      simp only [hlt, gZ52, o, hs, hf, hnl, Int.natCast_add, Int.natCast_one, Int.add_assoc, ru_skip, ru_reg, ru_seq, ru_cnd, ite_P, ru_block, ru_keep, putB, thenQ, blockQ, run_nil, run_cons, Fam.step, stepQ, stepW, needW, putB, nv, sv, evO, opv, qv, binV, ldV, lenV, curG, callV, putAt, V.cells, solid, cellOk, hasRef, hasRefL, flat, kp, upd_some, upd_none, lkp_cons, lkp_nil, ↓reduceIte, Nat.reduceEqDiff, Nat.reduceAdd, Nat.reduceLT, Nat.reduceLeDiff, List.map_cons, List.map_nil, List.all_cons, List.all_nil, List.length_cons, List.length_nil, List.drop_succ_cons, List.drop_zero, List.drop_nil, List.take_succ_cons, List.take_zero, List.take_nil, List.cons_append, List.nil_append, List.append_nil, List.getElem?_cons_zero, List.getElem?_cons_succ, List.set_cons_zero, List.set_cons_succ, vw_i, vw_sl, vw_ag, beq_self_eq_true, Nat.zero_add, Nat.add_zero, Bool.and_self, Bool.or_false, Bool.false_eq_true, decide_true, decide_false, true_and, and_self, implies_true, Bool.not_not, List.length_map, Bool.not_eq_true, domeE, eDome]
      rw [Int.add_assoc] at i2
      refine ⟨fun he => ?_, fun he => ?_⟩
      · simp only [i2, he, headD_snoc, getLastD_snoc, isEmpty_snoc, ↓reduceIte, Bool.not_false, and_self]
      · simp only [i2, he, headD_snoc, getLastD_snoc, isEmpty_snoc, ↓reduceIte, Bool.not_false, Bool.false_eq_true, and_self]
    · have hnl : (tightN d (truthsOf d []) row (2 * d.loss + k) : Int) < (truthsOf d []).length := by
        have : tightN d (truthsOf d []) row (2 * d.loss + k) ≠ (truthsOf d []).length := fun h => hf (ha.1 h)
        omega
      simp only [hlt, gZ52, o, hs, hf, hnl, Int.natCast_add, Int.natCast_one, Int.add_assoc, ru_skip, ru_reg, ru_seq, ru_cnd, ru_block, ru_exit, ru_keep, thenQ, blockQ, run_nil, run_cons, Fam.step, stepQ, evO, opv, qv, binV, ldV, lenV, callV, hasRef, hasRefL, flat, kp, upd_some, lkp_cons, lkp_nil, ↓reduceIte, Nat.reduceEqDiff, Nat.reduceAdd, Nat.reduceLT, Nat.reduceLeDiff, List.map_cons, List.map_nil, List.length_cons, List.length_nil, List.take_succ_cons, List.take_nil, List.append_nil, vw_i, vw_sl, vw_ag, Nat.zero_add, Bool.or_false, Bool.false_eq_true, decide_true, true_and, and_true, and_self, implies_true, List.length_map, domeE, eDome]
      rw [Int.add_assoc] at i2
      simp only [i2]
  · have hgt : ¬ (2 * d.loss + ((2001 - 2 * d.loss).toNat : Int) ≤ 2000) := by omega
    have ha : goodsTo (tentOf d) row (2001 - 2 * d.loss).toNat = goods (tentOf d) row := by
      unfold goodsTo goods
      rw [List.take_of_length_le]
      rw [ints_len]
      show (2000 + 1 - 2 * d.loss).toNat ≤ _
      omega
    simp only [hgt, ha, cutOf, cutSp, ru_reg, ru_seq, ru_cnd, ru_exit, ru_ret, ru_keep, putB, thenQ, blockQ, run_nil, run_cons, Fam.step, stepQ, stepW, needW, putB, nv, sv, evO, opv, qv, binV, ldV, putAt, V.cells, solid, cellOk, upd_some, upd_none, lkp_cons, lkp_nil, ↓reduceIte, Nat.reduceEqDiff, Nat.reduceAdd, Nat.reduceLeDiff, List.map_cons, List.map_nil, List.all_cons, List.all_nil, List.length_cons, List.length_nil, List.drop_succ_cons, List.drop_zero, List.drop_nil, List.take_succ_cons, List.take_zero, List.take_nil, List.nil_append, List.append_nil, List.getElem?_cons_zero, List.getElem?_cons_succ, List.set_cons_zero, endQ, rvs, rv1, resV, vw_i, vw_b, vw_ag, vw_tp, Nat.zero_add, Bool.and_self, Bool.false_eq_true, decide_false, and_self, eDome]
end Go.C02
set_option linter.unusedSimpArgs false
set_option linter.unusedVariables false
namespace Go.C02
open Go.Fam Go.Proofs
/-! The reference: Cut, Least, IsCurve. -/
def r53 : List V → Prop × V := fnG eDTN dDTN ok53 (fun a => cutOf (tentOf a.1) a.2.2) eSB
noncomputable def GA1 : Gam := (GZ.ext 27 r26).ext 53 r53
theorem okA1 : GOk Try.prog GA1 := by
  have k1 := okZ.ext (f := 27) (r := r26) (fun a w => Try.call27 a w) (fnG_ok fun a _ => P27 a)
  exact k1.ext (f := 53) (r := r53) (fun a w => Try.call53 a w) (fnG_ok fun a h => P53 a.1 a.2.1 a.2.2 h)
section
variable (b : List Bolt) (g : List Int) (l : Int) (r : List Span) (w : List Int) (s n m : Int) (T : List (List Int))
theorem gA1_53 : GA1 53 [.ag [.sl 4 (b.map eBolt), .sl 1 (g.map eI), .i l, .sl 2 (r.map eSpan), .sl 1 (w.map eI), .i s], .sl 1 (T.map eCan), .i n] = (ok53 (⟨b, g, l, r, w, s⟩, T, n), eSB (cutOf (tentOf ⟨b, g, l, r, w, s⟩) n)) :=
  (show GA1 53 _ = r53 (eDTN (⟨b, g, l, r, w, s⟩, T, n)) from rfl).trans (fnG_at _ (dDTN_e _))
theorem gA1_51 : GA1 51 [.ag [.sl 4 (b.map eBolt), .sl 1 (g.map eI), .i l, .sl 2 (r.map eSpan), .sl 1 (w.map eI), .i s], .i n, .i m] =
    (True, eKn (vT ⟨b, g, l, r, w, s⟩ (isBoltOf ⟨b, g, l, r, w, s⟩ n && isRow ⟨b, g, l, r, w, s⟩ m), pitchE ⟨b, g, l, r, w, s⟩ (isBoltOf ⟨b, g, l, r, w, s⟩ n && isRow ⟨b, g, l, r, w, s⟩ m))) := gX51 b g l r w s n m
theorem gA1_52 : GA1 52 [.ag [.sl 4 (b.map eBolt), .sl 1 (g.map eI), .i l, .sl 2 (r.map eSpan), .sl 1 (w.map eI), .i s], .sl 1 (T.map eCan), .i n, .i m] = (Ok52 ⟨b, g, l, r, w, s⟩ T n m, .i (tightN ⟨b, g, l, r, w, s⟩ T n m)) := gY52 b g l r w s n m T
theorem gA1_54 : GA1 54 [.i n, .i m, .i l] = (True, .b (within n m l)) := rfl
theorem gA1_55n : GA1 55 [.ag [.sl 4 (b.map eBolt), .sl 1 (g.map eI), .i l, .sl 2 (r.map eSpan), .sl 1 (w.map eI), .i s], .sl 1 []] = (ok55 (⟨b, g, l, r, w, s⟩, []), eTr (truthsOf ⟨b, g, l, r, w, s⟩ [])) := gW55 b g l r w s []
end
theorem P30 (d : Dome) (n : Int) (hb : d.rounds.length < 1000) : PureCall Try.prog 30 [.ag (eDome d), .i n] (eSE (cutR d n)) := by
  refine pure_body okA1 hmix Try.func30 cb30 cc30 cs30 cn30 ?_
  simp only [rc30, rs30, gA1_51, eKn, eTr, (pitch_bolt0 d (isRow d n)).1, (pitch_bolt0 d (isRow d n)).2, eSE, cutR, ru_skip, ru_reg, ru_seq, ru_cnd, ite_P, ru_ret, ru_keep, putB, thenQ, run_nil, run_cons, Fam.step, stepQ, stepW, needW, putB, nv, sv, evO, opv, qv, binV, ldV, callV, foldParts, putAt, partsOk, V.cells, solid, cellOk, hasRef, hasRefL, flat, flatL, upd_some, upd_none, lkp_cons, lkp_nil, ↓reduceIte, Nat.reduceEqDiff, Nat.reduceAdd, Nat.reduceLT, Nat.reduceLeDiff, List.map_cons, List.map_nil, List.all_cons, List.all_nil, List.length_cons, List.length_nil, List.drop_succ_cons, List.drop_zero, List.drop_nil, List.take_succ_cons, List.take_zero, List.take_nil, List.cons_append, List.nil_append, List.append_nil, List.getElem?_cons_zero, List.getElem?_cons_succ, Option.getD_some, List.set_cons_zero, List.set_cons_succ, endQ, rvs, rv1, resV, vw_i, vw_sl, vw_ag, vw_tp, zipA, Nat.zero_add, Bool.and_self, Bool.and_true, Bool.or_false, Bool.false_eq_true, decide_eq_false_iff_not, true_and, and_true, and_self, false_implies, reduceCtorEq, Bool.not_eq_true', imp_self, Bool.not_eq_true, Classical.not_not, domeE, eSpan, eDome]
  refine ⟨fun h => by simp [h], fun h => ?_⟩
  obtain ⟨hg, hr⟩ := pitchE_zero h
  obtain ⟨k1, k2, k3, k4, k5, k6, k7⟩ := row_of hg.v hr
  have hvt : vT d (isRow d n) = truthsOf d [] := by unfold vT; rw [if_pos h]
  have o : ok53 (d, truthsOf d [], n) := ⟨hg, rfl, k1, k2⟩
  simp only [h, hvt, gA1_53, o, eSB, cutOf, cellOk, ↓reduceIte, Nat.reduceAdd, Nat.reduceLT, Nat.reduceLeDiff, List.map_cons, List.map_nil, List.all_cons, List.all_nil, List.length_cons, List.length_nil, List.drop_succ_cons, List.drop_nil, List.take_succ_cons, List.take_nil, List.append_nil, List.getElem?_cons_zero, List.getElem?_cons_succ, Option.getD_some, vw_i, Nat.zero_add, Bool.and_self, true_and, and_self, Bool.not_not, domeE, eSpan]
  refine ⟨fun he => ?_, fun he => ?_⟩
  · simp only [he, ↓reduceIte]
  · simp only [he, ↓reduceIte, Bool.false_eq_true]
theorem tab_len (d : Dome) (r : Nat) : (tab d (r + 1)).length = 2001 := by simp [tab, rowTab, ints_len]
/-- the table's row while it is filled -/
def fill (d : Dome) (r k : Nat) (m : Int) : List Int := (tab d (r + 1)).take k ++ m :: List.replicate (2000 - k) 0
def fill0 (d : Dome) (r k : Nat) : List Int := (tab d (r + 1)).take k ++ List.replicate (2001 - k) 0
theorem fill0_len {d : Dome} {r k : Nat} (h : k ≤ 2001) : (fill0 d r k).length = 2001 := by
  simp only [fill0, List.length_append, List.length_take, List.length_replicate, tab_len]; omega
theorem fill_len {d : Dome} {r k : Nat} {m : Int} (h : k ≤ 2000) : (fill d r k m).length = 2001 := by
  simp only [fill, List.length_append, List.length_take, List.length_replicate, List.length_cons, tab_len]; omega
theorem fill_get {d : Dome} {r k : Nat} {m : Int} (h : k ≤ 2000) : (fill d r k m)[k]? = some m := by
  have : ((tab d (r + 1)).take k).length = k := by simp [tab_len]; omega
  rw [fill, List.getElem?_append_right (by omega), this, Nat.sub_self]
  rfl
theorem set_at {α : Type} {a b : List α} {x y : α} {k : Nat} (h : a.length = k) : (a ++ x :: b).set k y = a ++ y :: b := by
  subst h
  rw [List.set_append_right _ _ (Nat.le_refl _), Nat.sub_self]
  rfl
theorem fill0_set {d : Dome} {r k : Nat} {m : Int} (h : k ≤ 2000) : (fill0 d r k).set k m = fill d r k m := by
  have : ((tab d (r + 1)).take k).length = k := by simp [tab_len]; omega
  unfold fill0 fill
  rw [show 2001 - k = (2000 - k) + 1 by omega, List.replicate_succ]
  exact set_at this
theorem fill_set {d : Dome} {r k : Nat} {m m' : Int} (h : k ≤ 2000) : (fill d r k m).set k m' = fill d r k m' := by
  have : ((tab d (r + 1)).take k).length = k := by simp [tab_len]; omega
  exact set_at this
theorem tab_get {d : Dome} {r k : Nat} (h : k ≤ 2000) : (tab d (r + 1))[k]? = some (entry d r (tab d r) k) := by
  have : (ints 0 2000)[k]? = some ((k : Nat) : Int) := by rw [ints_get (by omega)]; simp
  simp [tab, rowTab, this]
theorem fill_done {d : Dome} {r k : Nat} {m : Int} (h : k ≤ 2000) (e : m = entry d r (tab d r) k) : fill d r k m = fill0 d r (k + 1) := by
  subst e
  unfold fill fill0
  rw [take_succ_of (tab_get h), show 2001 - (k + 1) = 2000 - k by omega]
  simp
theorem fill0_all (d : Dome) (r : Nat) : fill0 d r 2001 = tab d (r + 1) := by
  unfold fill0
  rw [← tab_len d r, List.take_length]
  simp
end Go.C02
set_option linter.unusedSimpArgs false
set_option linter.unusedVariables false
namespace Go.C02
open Go.Fam Go.Proofs
/-! The reference: Least. -/
theorem entry_low {d : Dome} {r : Nat} {old : List Int} {w : Int} (hw : 0 ≤ w) (ho : ∀ x ∈ old, 0 ≤ x) : 0 ≤ entry d r old w := by
  unfold entry
  split
  · split
    · exact hw
    · rcases minTo_or (fun o => (old[o.toNat]?.getD 0) + w) (ints (max 0 (w - d.slope)) (min 2000 (w + d.slope))) bigN with h | ⟨x, hx, h⟩
      · rw [h]; decide
      · rw [h]
        cases hg : old[x.toNat]? with
        | none => simp; omega
        | some y =>
          have := ho y (List.mem_of_getElem? hg)
          simp; omega
  · decide
theorem tab_range (d : Dome) : ∀ (r : Nat), ∀ x ∈ tab d r, 0 ≤ x ∧ x ≤ bigN
  | 0, x, h => by simp [tab] at h
  | r + 1, x, h => by
    simp only [tab, rowTab, List.mem_map, mem_ints] at h
    obtain ⟨w, hw, rfl⟩ := h
    exact ⟨entry_low hw.1 fun y hy => (tab_range d r y hy).1, entry_le hw.2⟩
theorem tab_at {d : Dome} {r : Nat} {o : Int} (h0 : 0 ≤ o) (h1 : o ≤ 2000) : (tab d (r + 1))[o.toNat]? = some (val d (r + 1) o) := by
  have hl : o.toNat < (tab d (r + 1)).length := by rw [tab_len]; omega
  unfold val
  rw [List.getElem?_eq_getElem hl]
  rfl
theorem val_range {d : Dome} {r : Nat} {o : Int} (h0 : 0 ≤ o) (h1 : o ≤ 2000) : 0 ≤ val d (r + 1) o ∧ val d (r + 1) o ≤ bigN := tab_range d (r + 1) _ (List.mem_of_getElem? (tab_at h0 h1))
def sumV (d : Dome) : Nat → V
  | 0 => .z 1
  | r + 1 => .sl 1 ((tab d (r + 1)).map eI)
theorem mk2001 (d : Dome) (r : Nat) : (List.replicate (Int.toNat 2001) [V.i 0]).flatten = ((fill0 d r 0).map eI).flatten := by
  unfold fill0
  rw [List.take_zero, List.nil_append, List.map_replicate]
  rfl
theorem minTo_snoc (f : Int → Int) (l : List Int) (m x : Int) : minTo f (l ++ [x]) m = min (minTo f l m) (f x) := by rw [minTo_append]; rfl
def oldA (d : Dome) (w : Int) : Int := max 0 (w - d.slope)
def oldB (d : Dome) (w : Int) : Int := min 2000 (w + d.slope)
/-- one entry while it is found -/
def part1 (d : Dome) (r : Nat) (w : Int) (j : Nat) : Int := minTo (fun o => val d r o + w) ((ints (oldA d w) (oldB d w)).take j) bigN
set_option maxHeartbeats 4000000 in
theorem flatI_get (l : List Int) (k : Nat) : ((l.map eI).flatten)[k]? = (l[k]?).map .i := by
  have : ∀ l : List Int, (l.map eI).flatten = l.map .i := fun l => by induction l <;> simp_all [eI]
  rw [this, List.getElem?_map]
theorem tab_chunk (d : Dome) (r : Nat) : chunk 1 ((tab d (r + 1)).map eI).flatten 0 2001 = (tab d (r + 1)).map eI := by
  have := chunk_I (tab d (r + 1))
  rwa [tab_len] at this
theorem dropI_head (l : List Int) (k : Nat) : (List.drop k (l.map eI).flatten).headD V.u = ((l[k]?).map V.i).getD V.u := by
  rw [List.headD_eq_head?_getD, List.head?_drop, flatI_get]
set_option maxRecDepth 20000 in
set_option maxHeartbeats 4000000 in
theorem P32 (d : Dome) : PureCall Try.prog 32 [.ag (eDome d)] (eNE (leastR d)) := by
  refine pure_body okA1 hmix Try.func32 cb32 cc32 cs32 cn32 ?_
  have e0 : pitchE d (isBoltOf d 0 && isRow d 0) = pitchE d true := by
    have h1 := (pitch_bolt0 d (isRow d 0)).1
    have h2 := (pitch_row0 d true).1
    rw [Bool.true_and] at h2
    rw [h1, h2]
  simp only [rc32, rs32, gA1_51, eKn, eTr, e0, eNE, leastR, ru_skip, ru_reg, ru_seq, ru_cnd, ite_P, ru_block, ru_ret, ru_keep, thenQ, run_nil, run_cons, Fam.step, stepQ, evO, opv, qv, binV, ldV, callV, V.cells, solid, hasRef, hasRefL, flat, flatL, upd_some, lkp_cons, lkp_nil, ↓reduceIte, Nat.reduceEqDiff, Nat.reduceAdd, Nat.reduceLT, Nat.reduceLeDiff, List.map_cons, List.map_nil, List.length_cons, List.length_nil, List.take_succ_cons, List.take_nil, List.append_nil, List.getElem?_cons_zero, List.getElem?_cons_succ, List.getElem?_nil, Option.getD_some, endQ, rvs, rv1, resV, vw_i, vw_sl, vw_ag, vw_tp, zipA, Nat.zero_add, Bool.and_self, Bool.and_true, Bool.or_false, Bool.false_eq_true, decide_eq_false_iff_not, true_and, and_self, Bool.not_eq_true', imp_self, Classical.not_not, domeE, eDome]
  refine ⟨fun h => by simp [curveR, h], fun h => ?_⟩
  obtain ⟨hg, _⟩ := pitchE_zero h
  have hv := hg.v
  have hnr := hv.nr
  have hl := hv.loss
  have hs := hv.slope
  have hvt : vT d (isBoltOf d 0 && isRow d 0) = truthsOf d [] := by unfold vT; rw [e0, if_pos h]
  simp only [hvt]
  refine ru_countC d.rounds.length (fun r => ⟨lkp [(1, .pa (eDome d)), (4, .sl 1 ((truthsOf d []).map eCan)), (6, sumV d r), (7, .i r)], []⟩) (fun r => hasCuts d r = true) ?_ ?_ ?_ ?_
  · simp only [Int.natCast_zero, sumV, cutH, kp, cutV, lkp_cons, lkp_nil, ↓reduceIte, Nat.reduceEqDiff, List.map_cons, List.map_nil, List.take_nil, eDome]
  · rfl
  · intro r hr hC
    have hlt : (r : Int) < d.rounds.length := by omega
    have o53 : ok53 (d, truthsOf d [], (r : Int)) := ⟨hg, rfl, by show (0 : Int) ≤ r; omega, hlt⟩
    have h3 : inI ((r : Int) + 1) := by unfold inI; omega
    simp only [hlt, gA1_53, o53, eSB, cutOf, ↓mk2001 d r, ru_skip, ru_reg, ru_seq, ru_cnd, ite_P, ru_block, ru_ret, ru_keep, cutH, putB, thenQ, blockQ, run_nil, run_cons, Fam.step, stepQ, stepW, needW, putB, nv, sv, evO, opv, qv, binV, ldV, lenV, callV, putAt, V.cells, solid, cellOk, hasRef, hasRefL, flat, flatL, kp, upd_some, upd_none, lkp_cons, lkp_nil, ↓reduceIte, Nat.reduceEqDiff, Nat.reduceAdd, Nat.reduceLT, Nat.reduceLeDiff, Int.reduceToNat, Int.reduceLE, List.map_cons, List.map_nil, List.all_cons, List.all_nil, List.length_cons, List.length_nil, List.drop_succ_cons, List.drop_zero, List.drop_nil, List.take_succ_cons, List.take_zero, List.take_nil, List.headD_cons, List.cons_append, List.nil_append, List.append_nil, List.getElem?_cons_zero, List.getElem?_cons_succ, Option.getD_some, List.set_cons_zero, endQ, rvs, rv1, resV, vw_i, vw_sl, vw_ag, vw_tp, Nat.zero_add, Bool.and_self, Bool.or_false, Bool.false_eq_true, decide_true, true_and, and_self, implies_true, Bool.not_not, List.length_map, Bool.not_eq_true, domeE, eSpan, eDome]
    refine ⟨fun he => ?_, fun he => ?_⟩
    · have hn : hasCuts d d.rounds.length = false := all_range_false hr (by rw [he]; rfl)
      simp [curveR, h, hn]
    · refine ru_count 2001 (fun w => ⟨lkp [(1, .pa (eDome d)), (4, .sl 1 ((truthsOf d []).map eCan)), (6, sumV d r), (7, .i r), (8, .ad 0 0 0), (10, .rf 1 0 0 2001 1), (11, .i w)],
        [.cells 0 (eSpan (spanAt d r)), .cells 0 ((fill0 d r w).map eI).flatten]⟩) ?_ ?_ ?_
      · simp only [Int.natCast_zero, cutSp, spanAt, lowAt, highAt, kp, lkp_cons, lkp_nil, ↓reduceIte, Nat.reduceEqDiff, List.map_cons, List.map_nil, eSpan, eDome]
      · intro w hw
        have hlw : (w : Int) ≤ 2000 := by omega
        have hlw2 : (w : Int) < ((2001 : Nat) : Int) := by omega
        have hw0 : w < (fill0 d r w).length := by rw [fill0_len (by omega)]; omega
        have len0 : ((fill0 d r w).map eI).flatten.length = 2001 := by rw [len_I, fill0_len (by omega)]
        have len1 : ∀ m, ((fill d r w m).map eI).flatten.length = 2001 := fun m => by rw [len_I, fill_len (by omega)]
        have p1 := put_I (l := fill0 d r w) (k := w) (x := 1073741824) hw0
        rw [fill0_set (by omega)] at p1
        have p2 : ∀ m m', List.take w ((fill d r w m).map eI).flatten ++ [V.i m'] ++ List.drop (w + 1) ((fill d r w m).map eI).flatten = ((fill d r w m').map eI).flatten := fun m m' => by
          have := put_I (l := fill d r w m) (k := w) (x := m') (by rw [fill_len (by omega)]; omega)
          rwa [fill_set (by omega)] at this
        have i1 : inI ((w : Int) - d.slope) := by unfold inI; omega
        have i3 : inI ((w : Int) + 1) := by unfold inI; omega
        have f1 : w + 1 ≤ 2001 := by omega
        by_cases hin : within w (lowAt d r) (highAt d r) = true
        · rcases Nat.eq_zero_or_pos r with h0 | h0
          · subst h0
            have hfd : fill d 0 w w = fill0 d 0 (w + 1) := fill_done (by omega) (by unfold entry; rw [if_pos hin, if_pos rfl])
            have hin0 : within w (lowAt d 0) (highAt d 0) = true := hin
            simp only [hlw, hlw2, len0, len1, p1, p2, hin0, gA1_54, i1, f1, eSpan, spanAt, Int.natCast_zero, Nat.mul_one, ru_skip, ru_reg, ru_seq, ru_cnd, ru_block, ru_keep, putB, thenQ, run_nil, run_cons, Fam.step, stepQ, stepW, needW, putB, nv, sv, evO, opv, qv, binV, ldV, iadV, curG, callV, putAt, V.cells, solid, cellOk, hasRef, hasRefL, flat, kp, upd_some, upd_none, lkp_cons, lkp_nil, ↓reduceIte, Nat.reduceEqDiff, Nat.reduceAdd, Nat.reduceLT, Nat.reduceLeDiff, List.map_cons, List.map_nil, List.all_cons, List.all_nil, List.length_cons, List.length_nil, List.drop_succ_cons, List.drop_zero, List.headD_cons, List.append_nil, List.getElem?_cons_zero, List.getElem?_cons_succ, List.set_cons_zero, List.set_cons_succ, vw_i, Int.natCast_nonneg, beq_self_eq_true, Nat.zero_add, Nat.add_zero, Bool.and_self, Bool.or_false, Bool.not_true, Bool.false_eq_true, decide_true, true_and, and_self, implies_true, Int.toNat_natCast, eSpan, eDome]
            refine ru_count 0 (fun _ => ⟨lkp [(1, .pa (eDome d)), (4, .sl 1 ((truthsOf d []).map eCan)), (6, sumV d 0), (7, .i 0), (8, .ad 0 0 0), (10, .rf 1 0 0 2001 1), (11, .i w), (12, .i (max 0 ((w : Int) - d.slope)))],
              [.cells 0 [.i (lowAt d 0), .i (highAt d 0)], .cells 0 ((fill d 0 w w).map eI).flatten]⟩) ?_ ?_ ?_
            · simp only [kp, lkp_cons, lkp_nil, ↓reduceIte, Nat.reduceEqDiff, List.map_cons, List.map_nil, eDome]
            · intro i hi; omega
            · simp only [i3, hfd, Int.natCast_add, Int.natCast_one, ru_reg, ru_seq, ru_cnd, ru_exit, ru_keep, thenQ, blockQ, run_nil, run_cons, Fam.step, stepQ, needQ, condB, ug, evO, opv, qv, pickV_bb, binV, ldV, upd_some, lkp_cons, lkp_nil, ↓reduceIte, Nat.reduceEqDiff, Nat.reduceLeDiff, List.map_cons, List.map_nil, List.all_cons, List.all_nil, List.length_cons, List.length_nil, List.drop_succ_cons, List.drop_zero, List.headD_cons, Int.lt_irrefl, Nat.zero_add, Bool.and_self, Bool.and_true, Bool.false_eq_true, decide_false, and_true, and_self, false_and, forall_const, implies_true, beq_true, imp_self, eDome]
          · have hrn : ¬ (r : Int) = 0 := by omega
            have hrp : (0 : Int) < r := by omega
            obtain ⟨q, hq⟩ : ∃ q, r = q + 1 := ⟨r - 1, by omega⟩
            have hsv : sumV d r = .sl 1 ((tab d r).map eI) := by rw [hq]; rfl
            have htl : (tab d r).length = 2001 := by rw [hq]; exact tab_len d q
            have i4 : inI ((w : Int) + d.slope) := by unfold inI; omega
            have hfd : fill d r w (part1 d r w (oldB d w + 1 - oldA d w).toNat) = fill0 d r (w + 1) := fill_done (by omega) (by
              unfold entry part1
              rw [if_pos hin, if_neg (by omega), List.take_of_length_le (by rw [ints_len]; exact Nat.le_refl _)]
              rfl)
            simp only [hlw, hlw2, len0, p1, hin, gA1_54, i1, f1, eSpan, spanAt, hrn, Nat.mul_one, ru_skip, ru_reg, ru_seq, ru_cnd, ru_block, ru_keep, putB, thenQ, run_nil, run_cons, Fam.step, stepQ, stepW, needW, putB, nv, sv, evO, opv, qv, binV, ldV, iadV, curG, callV, putAt, V.cells, solid, cellOk, hasRef, hasRefL, flat, kp, upd_some, upd_none, lkp_cons, lkp_nil, ↓reduceIte, Nat.reduceEqDiff, Nat.reduceAdd, Nat.reduceLT, Nat.reduceLeDiff, List.map_cons, List.map_nil, List.all_cons, List.all_nil, List.length_cons, List.length_nil, List.drop_succ_cons, List.drop_zero, List.headD_cons, List.append_nil, List.getElem?_cons_zero, List.getElem?_cons_succ, List.set_cons_zero, List.set_cons_succ, vw_i, Int.natCast_nonneg, beq_self_eq_true, Nat.zero_add, Nat.add_zero, Bool.and_self, Bool.or_false, Bool.not_true, Bool.false_eq_true, decide_true, decide_false, true_and, and_self, implies_true, Int.toNat_natCast, eSpan, eDome]
            refine ru_count (oldB d w + 1 - oldA d w).toNat (fun j => ⟨lkp [(1, .pa (eDome d)), (4, .sl 1 ((truthsOf d []).map eCan)), (6, sumV d r), (7, .i r), (8, .ad 0 0 0), (10, .rf 1 0 0 2001 1), (11, .i w), (12, .i (oldA d w + j))],
              [.cells 0 [.i (lowAt d r), .i (highAt d r)], .cells 0 ((fill d r w (part1 d r w j)).map eI).flatten]⟩) ?_ ?_ ?_
            · simp only [part1, minTo, bigN, oldA, Int.natCast_zero, Int.add_zero, kp, lkp_cons, lkp_nil, ↓reduceIte, Nat.reduceEqDiff, List.map_cons, List.map_nil, List.take_zero, eDome]
            · intro j hj
              have hA : 0 ≤ oldA d w := by unfold oldA; omega
              have hB : oldB d w ≤ 2000 := by unfold oldB; omega
              have hlo : oldA d w + (j : Int) ≤ min 2000 ((w : Int) + d.slope) := by show oldA d w + (j : Int) ≤ oldB d w; omega
              have h0 : 0 ≤ oldA d w + (j : Int) := by omega
              have h1 : oldA d w + (j : Int) < ((2001 : Nat) : Int) := by omega
              have hx : (tab d r)[(oldA d w + (j : Int)).toNat]? = some (val d r (oldA d w + j)) := by rw [hq]; exact tab_at h0 (by omega)
              have hvr : 0 ≤ val d r (oldA d w + j) ∧ val d r (oldA d w + j) ≤ 1073741824 := by rw [hq]; exact val_range h0 (by omega)
              have i5 : inI (val d r (oldA d w + j) + w) := by unfold inI; omega
              have i6 : inI (oldA d w + ((j : Int) + 1)) := by unfold inI; omega
              have hget : (ints (oldA d w) (oldB d w))[j]? = some (oldA d w + j) := ints_get (by omega)
              have hp : part1 d r w (j + 1) = min (part1 d r w j) (val d r (oldA d w + j) + w) := by unfold part1; rw [take_succ_of hget, minTo_snoc]
              simp only [hrp, i4, hlo, hlw2, f1, len1, dropI_head, fill_get (show w ≤ 2000 by omega), hsv, htl, h0, h1, hx, i5, i6, hp, p2, Nat.mul_one, Int.natCast_add, Int.natCast_one, Int.add_assoc, ru_skip, ru_reg, ru_any, ru_seq, ru_cnd, ru_block, ru_keep, putBs, optL, thenQ, blockQ, run_nil, run_cons, Fam.step, stepQ, needQ, needW, condB, ug, runX, eff, nextD, fpR, fpQ, fpV, disjB, hits, nv, sv, evO, opv, qv, pickV_bb, binV, ldV, iadV, putAt, V.cells, solid, cellOk, kp, upd_some, upd_none, lkp_cons, lkp_nil, ↓reduceIte, Nat.reduceEqDiff, Nat.reduceLeDiff, List.map_cons, List.map_nil, List.all_cons, List.all_nil, List.length_cons, List.length_nil, List.drop_succ_cons, List.drop_zero, List.headD_cons, List.cons_append, List.nil_append, List.append_nil, List.getElem?_cons_zero, List.getElem?_cons_succ, List.getElem?_nil, Option.getD_some, Option.getD_none, List.set_cons_zero, List.set_cons_succ, List.replicate_zero, List.isEmpty_nil, List.isEmpty_cons, Int.natCast_nonneg, beq_self_eq_true, Nat.zero_add, Bool.and_self, Bool.and_true, Bool.true_and, Bool.false_and, Bool.or_false, Bool.false_or, Bool.not_true, Bool.not_false, Bool.false_eq_true, Bool.true_eq_false, decide_true, and_self, forall_const, implies_true, Option.map_some, List.any_cons, List.any_nil, List.contains_cons, List.contains_nil, List.length_map, Int.toNat_natCast, List.getD_eq_getElem?_getD, List.getElem?_map, eDome, eI]
            · have hnl : ¬ (oldA d w + ((oldB d w + 1 - oldA d w).toNat : Int) ≤ min 2000 ((w : Int) + d.slope)) := by
                show ¬ (_ ≤ oldB d w)
                unfold oldA oldB; omega
              simp only [hrp, i4, hnl, i3, hfd, Int.natCast_add, Int.natCast_one, ru_reg, ru_seq, ru_cnd, ru_exit, ru_keep, thenQ, blockQ, run_nil, run_cons, Fam.step, stepQ, needQ, condB, ug, evO, opv, qv, pickV_bb, binV, ldV, upd_some, lkp_cons, lkp_nil, ↓reduceIte, Nat.reduceEqDiff, Nat.reduceLeDiff, List.map_cons, List.map_nil, List.all_cons, List.all_nil, List.length_cons, List.length_nil, List.drop_succ_cons, List.drop_zero, List.headD_cons, beq_self_eq_true, Nat.zero_add, Bool.and_self, Bool.false_eq_true, Bool.true_eq_false, decide_true, decide_false, and_self, forall_const, implies_true, eDome]
        · have hin : within w (lowAt d r) (highAt d r) = false := by simpa using hin
          have hfd : fill d r w 1073741824 = fill0 d r (w + 1) := fill_done (by omega) (by unfold entry; rw [hin]; rfl)
          simp only [hlw, hlw2, len0, p1, hin, gA1_54, i3, f1, eSpan, spanAt, Nat.mul_one, Int.natCast_add, Int.natCast_one, hfd, ru_skip, ru_reg, ru_seq, ru_cnd, ru_block, ru_exit, ru_keep, putB, thenQ, blockQ, run_nil, run_cons, Fam.step, stepQ, stepW, needW, putB, nv, sv, evO, opv, qv, binV, ldV, iadV, curG, callV, putAt, V.cells, solid, cellOk, hasRef, hasRefL, flat, kp, upd_some, upd_none, lkp_cons, lkp_nil, ↓reduceIte, Nat.reduceEqDiff, Nat.reduceAdd, Nat.reduceLT, Nat.reduceLeDiff, List.map_cons, List.map_nil, List.all_cons, List.all_nil, List.length_cons, List.length_nil, List.drop_succ_cons, List.drop_zero, List.headD_cons, List.append_nil, List.getElem?_cons_zero, List.getElem?_cons_succ, List.set_cons_zero, List.set_cons_succ, vw_i, Int.natCast_nonneg, beq_self_eq_true, Nat.zero_add, Nat.add_zero, Bool.and_self, Bool.or_false, Bool.not_false, Bool.false_eq_true, decide_true, and_self, implies_true, Int.toNat_natCast, eSpan, eDome]
      · have hnl : ¬ (((2001 : Nat) : Int) ≤ 2000) := by omega
        have hsv : sumV d (r + 1) = .sl 1 ((tab d (r + 1)).map eI) := rfl
        simp only [hnl, fill0_all, len_I, tab_len, Nat.mul_one, Nat.le_refl, vw_I, h3, hsv, hpF, upB, upL_noref _ _ (noref_I _), tab_chunk, Int.natCast_add, Int.natCast_one, ru_reg, ru_seq, ru_cnd, ru_exit, ru_keep, ru_drp, ↓cut_lkp, cutH, thenQ, blockQ, run_nil, run_cons, Fam.step, stepQ, evO, opv, qv, binV, cutV, upd_some, lkp_cons, lkp_nil, ↓reduceIte, Nat.reduceEqDiff, Nat.reduceLT, List.map_cons, List.map_nil, List.drop_zero, List.take_zero, List.nil_append, List.getElem?_cons_zero, List.getElem?_cons_succ, vw_rf, Nat.zero_add, Bool.false_eq_true, decide_false, true_and, and_true, and_self, eSpan, eDome]
        exact all_range_succ hC (by rw [he]; rfl)
  · intro hC
    have hgt : ¬ ((d.rounds.length : Int) < d.rounds.length) := by omega
    obtain ⟨n, hn⟩ : ∃ n, d.rounds.length = n + 1 := ⟨d.rounds.length - 1, by omega⟩
    have hsv : sumV d d.rounds.length = .sl 1 ((tab d (n + 1)).map eI) := by rw [hn]; rfl
    simp only [hgt, ru_reg, ru_seq, ru_cnd, ru_block, ru_exit, ru_keep, thenQ, blockQ, run_nil, run_cons, Fam.step, stepQ, evO, opv, qv, binV, ldV, lenV, upd_some, lkp_cons, lkp_nil, ↓reduceIte, Nat.reduceEqDiff, Nat.reduceAdd, Nat.reduceLeDiff, List.map_cons, List.map_nil, List.length_cons, List.length_nil, List.drop_succ_cons, List.drop_zero, List.headD_cons, Nat.zero_add, Bool.false_eq_true, decide_false, true_and, List.length_map, eDome]
    rw [hsv]
    refine ru_count 2001 (fun k => ⟨lkp [(6, .sl 1 ((tab d (n + 1)).map eI)), (13, .i (minTo (val d (n + 1)) ((ints 0 2000).take k) bigN)), (14, .i k)], []⟩) ?_ ?_ ?_
    · simp only [Int.natCast_zero, minTo, bigN, kp, lkp_cons, lkp_nil, ↓reduceIte, Nat.reduceEqDiff, List.map_cons, List.map_nil, List.take_zero]
    · intro k hk
      have hlt : (k : Int) ≤ 2000 := by omega
      have hlt2 : (k : Int) < (tab d (n + 1)).length := by rw [tab_len]; omega
      have hx := tab_at (d := d) (r := n) (o := k) (by omega) hlt
      rw [Int.toNat_natCast] at hx
      have hget : (ints 0 2000)[k]? = some ((k : Nat) : Int) := by rw [ints_get (by omega)]; simp
      have h3 : inI ((k : Int) + 1) := by unfold inI; omega
      simp only [hlt, hlt2, hx, h3, take_succ_of hget, minTo_snoc, Int.natCast_add, Int.natCast_one, ru_skip, ru_reg, ru_seq, ru_cnd, ru_block, ru_keep, thenQ, blockQ, run_nil, run_cons, Fam.step, stepQ, evO, opv, qv, binV, ldV, iadV, kp, upd_some, lkp_cons, lkp_nil, ↓reduceIte, Nat.reduceEqDiff, Nat.reduceLeDiff, List.map_cons, List.map_nil, List.length_cons, List.length_nil, List.headD_cons, Option.getD_some, Int.natCast_nonneg, Nat.zero_add, Bool.false_eq_true, decide_true, and_self, Option.map_some, List.length_map, Int.toNat_natCast, List.getD_eq_getElem?_getD, List.getElem?_map, eI]
    · have hle : ¬ ((2001 : Nat) : Int) ≤ 2000 := by omega
      have ht : (ints 0 2000).take 2001 = ints 0 2000 := List.take_of_length_le (by rw [ints_len]; decide)
      have heq : minTo (val d (n + 1)) (ints 0 2000) 1073741824 = if fitsAll d (n + 1) (n + 1) then sumTo (fun r => needTo d r (n + 1)) (n + 1) else 1073741824 := leastTab_eq hv (n := n + 1) (by omega) (by omega)
      have hb : (n : Int) + 1 ≤ 12 := by omega
      by_cases hf : fitsAll d (n + 1) (n + 1) = true
      · have hcu : curveR d = (outsTo d (n + 1) (n + 1), 0) := by unfold curveR; rw [if_pos h, hC, hn, hf]; rfl
        have hsum : (outsTo d (n + 1) (n + 1)).sum = sumTo (fun r => needTo d r (n + 1)) (n + 1) := sumTo_list _ _
        have h4 := sumTo_le (c := fun r => needTo d r (n + 1)) (M := 2000) (k := n + 1) fun r hr => ((need_feas hs.1 hf).range hl.1 hr).2
        have hlt : ¬ 1073741824 ≤ sumTo (fun r => needTo d r (n + 1)) (n + 1) := by omega
        simp only [hle, ht, bigN, heq, hf, hcu, hsum, hlt, ru_skip, ru_reg, ru_seq, ru_cnd, ru_exit, ru_ret, ru_keep, thenQ, blockQ, run_nil, run_cons, Fam.step, stepQ, evO, opv, qv, binV, ldV, upd_some, lkp_cons, lkp_nil, ↓reduceIte, Nat.reduceEqDiff, List.map_cons, List.map_nil, List.getElem?_nil, endQ, rvs, rv1, resV, vw_i, vw_tp, Bool.false_eq_true, decide_false, and_self]
      · have hcu : curveR d = ([], 3) := by unfold curveR; rw [if_pos h, hC, hn]; simp [hf]
        simp only [hle, ht, heq, hf, hcu, bigN, List.sum_nil, Int.le_refl, ru_reg, ru_seq, ru_cnd, ru_exit, ru_ret, ru_keep, thenQ, blockQ, run_nil, run_cons, Fam.step, stepQ, evO, opv, qv, binV, ldV, upd_some, lkp_cons, lkp_nil, ↓reduceIte, Nat.reduceEqDiff, List.map_cons, List.map_nil, List.getElem?_nil, endQ, rvs, rv1, resV, vw_i, vw_tp, Bool.false_eq_true, decide_true, decide_false, and_self]
end Go.C02
set_option linter.unusedSimpArgs false
set_option linter.unusedVariables false
namespace Go.C02
open Go.Fam Go.Proofs
/-! IsCurve, same. -/
def curveOk (d : Dome) (T : List (List Int)) (l : List Int) (r : Nat) : Bool :=
  within (l[r]?.getD 0) (2 * d.loss) 2000 && decide (T.length ≤ tightN d T r (l[r]?.getD 0)) && (decide (r = 0) || within ((l[r]?.getD 0) - (l[r - 1]?.getD 0)) (-d.slope) d.slope)
def isCurve (d : Dome) (l : List Int) : Bool := decide (l.length = d.rounds.length) && (List.range l.length).all (curveOk d (truthsOf d []) l)
set_option maxRecDepth 20000 in
set_option maxHeartbeats 4000000 in
theorem P34 (d : Dome) (l : List Int) (hv : Valid d) : PureCall Try.prog 34 [.ag (eDome d), .sl 1 (l.map eI)] (.b (isCurve d l)) := by
  refine pure_body okA1 hmix Try.func34 cb34 cc34 cs34 cn34 ?_
  have hnr := hv.nr
  have hl := hv.loss
  have hs := hv.slope
  have i1 : inI (2 * d.loss) := by unfold inI; omega
  have i2 : inI (-d.slope) := by unfold inI; omega
  by_cases hlen : l.length = d.rounds.length
  · have hli : (l.length : Int) = d.rounds.length := by omega
    have o55 : ok55 (d, []) := ⟨hv, Nat.zero_le _⟩
    simp only [rc34, rs34, hli, gA1_55n, o55, eTr, ru_skip, ru_reg, ru_seq, ru_cnd, ru_block, ru_keep, thenQ, run_nil, run_cons, Fam.step, stepQ, evO, opv, qv, binV, ldV, lenV, callV, V.cells, solid, hasRef, hasRefL, flat, upd_some, lkp_cons, lkp_nil, ↓reduceIte, Nat.reduceEqDiff, Nat.reduceAdd, Nat.reduceLT, Nat.reduceLeDiff, List.map_cons, List.map_nil, List.length_cons, List.length_nil, List.drop_succ_cons, List.drop_zero, List.take_succ_cons, List.take_nil, List.headD_cons, List.append_nil, vw_i, vw_z, vw_sl, vw_ag, zipA, Nat.zero_add, Bool.or_false, Bool.not_true, Bool.false_eq_true, decide_true, true_and, and_self, reduceCtorEq, imp_self, List.length_map, domeE, eDome]
    refine ru_countC l.length (fun i => ⟨lkp [(1, .sl 1 (l.map eI)), (2, .pa (eDome d)), (5, .sl 1 ((truthsOf d []).map eCan)), (6, .i i)], []⟩) (fun i => (List.range i).all (curveOk d (truthsOf d []) l) = true) ?_ ?_ ?_ ?_
    · simp only [Int.natCast_zero, kp, lkp_cons, lkp_nil, ↓reduceIte, Nat.reduceEqDiff, List.map_cons, List.map_nil, eDome]
    · rfl
    · intro i hi hC
      have hlt : (i : Int) < d.rounds.length := by omega
      have i3 : inI ((i : Int) + 1) := by unfold inI; omega
      obtain ⟨x, hx⟩ : ∃ x, l[i]? = some x := ⟨_, List.getElem?_eq_getElem hi⟩
      by_cases hw : within x (2 * d.loss) 2000 = true
      · have hw' := hw
        simp only [within, Bool.and_eq_true, decide_eq_true_eq] at hw'
        have o52 : Ok52 d (truthsOf d []) i x := ⟨hv, by omega, by omega, fun _ h => h, truths_len hv []⟩
        by_cases ht : (truthsOf d []).length ≤ tightN d (truthsOf d []) i x
        · have ht' : ¬ (tightN d (truthsOf d []) i x : Int) < (truthsOf d []).length := by omega
          rcases Nat.eq_zero_or_pos i with h0 | h0
          · subst h0
            have ht2 : (truthsOf d []).length ≤ tightN d (truthsOf d []) 0 x := ht
            have hCs : curveOk d (truthsOf d []) l 0 = true := by simp [curveOk, hx, hw, ht2]
            have ht0 : ¬ (tightN d (truthsOf d []) 0 x : Int) < (truthsOf d []).length := ht'
            have o520 : Ok52 d (truthsOf d []) 0 x := o52
            have hlt0 : (0 : Int) < d.rounds.length := hlt
            simp only [hli, hlt0, hx, i1, gA1_54, hw, gA1_52, o520, ht0, Int.natCast_zero, Int.natCast_one, ru_skip, ru_reg, ru_any, ru_seq, ru_cnd, ru_block, ru_keep, putBs, thenQ, blockQ, run_nil, run_cons, Fam.step, stepQ, needQ, condB, ug, runX, eff, nextD, fpR, fpQ, fpV, disjB, hits, evO, opv, qv, pickV_bb, binV, ldV, iadV, lenV, callV, hasRef, hasRefL, flat, kp, upd_some, lkp_cons, lkp_nil, ↓reduceIte, Nat.reduceEqDiff, Nat.reduceAdd, Nat.reduceLT, Nat.reduceLeDiff, Int.reduceNeg, Int.reduceToNat, Int.toNat_zero, Int.reduceLE, Int.reduceAdd, Int.reduceSub, List.map_cons, List.map_nil, List.all_cons, List.all_nil, List.length_cons, List.length_nil, List.drop_succ_cons, List.drop_zero, List.take_succ_cons, List.take_nil, List.headD_cons, List.cons_append, List.nil_append, List.append_nil, List.getElem?_nil, Option.getD_some, Option.getD_none, List.replicate_zero, List.isEmpty_nil, vw_i, vw_sl, vw_ag, Int.lt_irrefl, beq_self_eq_true, Nat.zero_add, Bool.and_self, Bool.and_true, Bool.false_and, Bool.or_false, Bool.not_true, Bool.not_false, Bool.false_eq_true, decide_true, decide_false, true_and, and_true, and_self, false_and, and_false, forall_const, implies_true, Option.map_some, List.any_nil, List.contains_nil, beq_true, imp_self, List.length_map, List.getD_eq_getElem?_getD, List.getElem?_map, domeE, eDome, eI]
            exact ⟨by unfold inI; omega, all_range_succ hC hCs⟩
          · obtain ⟨y, hy⟩ : ∃ y, l[i - 1]? = some y := ⟨_, List.getElem?_eq_getElem (by omega)⟩
            have hCp := List.all_eq_true.1 hC (i - 1) (by rw [List.mem_range]; omega)
            simp only [curveOk, hy, Option.getD_some, Bool.and_eq_true, within, decide_eq_true_eq] at hCp
            have hyr := hCp.1.1
            have hnz : ¬ i = 0 := by omega
            have hpos : (0 : Int) < i := by omega
            have i4 : inI ((i : Int) - 1) := by unfold inI; omega
            have j1 : (0 : Int) ≤ (i : Int) - 1 := by omega
            have j2 : (i : Int) - 1 < d.rounds.length := by omega
            have j3 : l[((i : Int) - 1).toNat]? = some y := by rw [show ((i : Int) - 1).toNat = i - 1 by omega]; exact hy
            have i5 : inI (x - y) := by unfold inI; omega
            by_cases hsl : within (x - y) (-d.slope) d.slope = true
            · have hCs : curveOk d (truthsOf d []) l i = true := by simp [curveOk, hx, hy, hw, ht, hsl]
              simp only [hli, hlt, hx, i1, i2, gA1_54, hw, gA1_52, o52, ht', hpos, i4, j1, j2, j3, i5, hsl, i3, Int.natCast_add, Int.natCast_one, ru_skip, ru_reg, ru_any, ru_seq, ru_cnd, ru_block, ru_keep, putBs, thenQ, blockQ, run_nil, run_cons, Fam.step, stepQ, needQ, condB, ug, runX, eff, nextD, fpR, fpQ, fpV, disjB, hits, evO, opv, qv, pickV_bb, binV, ldV, iadV, lenV, callV, hasRef, hasRefL, flat, kp, upd_some, lkp_cons, lkp_nil, ↓reduceIte, Nat.reduceEqDiff, Nat.reduceAdd, Nat.reduceLT, Nat.reduceLeDiff, List.map_cons, List.map_nil, List.all_cons, List.all_nil, List.length_cons, List.length_nil, List.drop_succ_cons, List.drop_zero, List.take_succ_cons, List.take_nil, List.headD_cons, List.cons_append, List.nil_append, List.append_nil, List.getElem?_nil, Option.getD_some, Option.getD_none, List.replicate_zero, List.isEmpty_nil, vw_i, vw_sl, vw_ag, Int.natCast_nonneg, beq_self_eq_true, Nat.zero_add, Bool.and_self, Bool.and_true, Bool.false_and, Bool.or_false, Bool.not_true, Bool.not_false, Bool.false_eq_true, Bool.true_eq_false, decide_true, decide_false, true_and, and_true, and_self, forall_const, implies_true, Option.map_some, List.any_nil, List.contains_nil, List.length_map, Int.toNat_natCast, List.getD_eq_getElem?_getD, List.getElem?_map, domeE, eDome, eI]
              exact all_range_succ hC hCs
            · have hsl : within (x - y) (-d.slope) d.slope = false := by simpa using hsl
              have hn : isCurve d l = false := by
                have : (List.range l.length).all (curveOk d (truthsOf d []) l) = false := all_range_false hi (by simp [curveOk, hx, hy, hsl, hnz])
                simp [isCurve, this]
              simp only [hli, hlt, hx, i1, i2, gA1_54, hw, gA1_52, o52, ht', hpos, i4, j1, j2, j3, i5, hsl, hn, ru_skip, ru_reg, ru_any, ru_seq, ru_cnd, ru_block, ru_ret, ru_keep, putBs, thenQ, blockQ, run_nil, run_cons, Fam.step, stepQ, needQ, condB, ug, runX, eff, nextD, fpR, fpQ, fpV, disjB, hits, evO, opv, qv, pickV_bb, binV, ldV, iadV, lenV, callV, hasRef, hasRefL, flat, kp, upd_some, lkp_cons, lkp_nil, ↓reduceIte, Nat.reduceEqDiff, Nat.reduceAdd, Nat.reduceLT, Nat.reduceLeDiff, List.map_cons, List.map_nil, List.all_cons, List.all_nil, List.length_cons, List.length_nil, List.drop_succ_cons, List.drop_zero, List.take_succ_cons, List.take_nil, List.headD_cons, List.cons_append, List.nil_append, List.append_nil, List.getElem?_nil, Option.getD_some, Option.getD_none, List.replicate_zero, List.isEmpty_nil, endQ, rvs, rv1, resV, vw_i, vw_b, vw_sl, vw_ag, Int.natCast_nonneg, beq_self_eq_true, Nat.zero_add, Bool.and_self, Bool.and_true, Bool.false_and, Bool.or_false, Bool.not_true, Bool.not_false, Bool.false_eq_true, Bool.true_eq_false, decide_true, decide_false, and_self, forall_const, implies_true, Option.map_some, List.any_nil, List.contains_nil, List.length_map, Int.toNat_natCast, List.getD_eq_getElem?_getD, List.getElem?_map, domeE, eDome, eI]
        · have ht' : (tightN d (truthsOf d []) i x : Int) < (truthsOf d []).length := by omega
          have hn : isCurve d l = false := by
            have : (List.range l.length).all (curveOk d (truthsOf d []) l) = false := all_range_false hi (by simp [curveOk, hx, ht])
            simp [isCurve, this]
          simp only [hli, hlt, hx, i1, gA1_54, hw, gA1_52, o52, ht', hn, ru_skip, ru_reg, ru_any, ru_seq, ru_cnd, ru_block, ru_ret, ru_keep, putBs, thenQ, blockQ, run_nil, run_cons, Fam.step, stepQ, needQ, condB, ug, runX, eff, nextD, fpR, fpQ, fpV, disjB, hits, evO, opv, qv, pickV_bb, binV, ldV, iadV, lenV, callV, hasRef, hasRefL, flat, kp, upd_some, lkp_cons, lkp_nil, ↓reduceIte, Nat.reduceEqDiff, Nat.reduceAdd, Nat.reduceLT, Nat.reduceLeDiff, List.map_cons, List.map_nil, List.all_cons, List.all_nil, List.length_cons, List.length_nil, List.drop_succ_cons, List.drop_zero, List.take_succ_cons, List.take_nil, List.headD_cons, List.cons_append, List.nil_append, List.append_nil, List.getElem?_nil, Option.getD_some, Option.getD_none, List.replicate_zero, List.isEmpty_nil, endQ, rvs, rv1, resV, vw_i, vw_b, vw_sl, vw_ag, Int.natCast_nonneg, beq_self_eq_true, Nat.zero_add, Bool.and_self, Bool.and_true, Bool.false_and, Bool.or_false, Bool.not_true, Bool.not_false, Bool.false_eq_true, decide_true, and_self, forall_const, implies_true, Option.map_some, List.any_nil, List.contains_nil, List.length_map, Int.toNat_natCast, List.getD_eq_getElem?_getD, List.getElem?_map, domeE, eDome, eI]
      · have hw : within x (2 * d.loss) 2000 = false := by simpa using hw
        have hn : isCurve d l = false := by
          have : (List.range l.length).all (curveOk d (truthsOf d []) l) = false := all_range_false hi (by simp [curveOk, hx, hw])
          simp [isCurve, this]
        simp only [hli, hlt, hx, i1, gA1_54, hw, hn, ru_skip, ru_reg, ru_any, ru_seq, ru_cnd, ru_block, ru_ret, ru_keep, putBs, thenQ, blockQ, run_nil, run_cons, Fam.step, stepQ, needQ, condB, ug, runX, eff, nextD, fpR, fpQ, fpV, disjB, hits, evO, opv, qv, pickV_t, binV, ldV, iadV, lenV, callV, hasRef, hasRefL, flat, kp, upd_some, lkp_cons, lkp_nil, ↓reduceIte, Nat.reduceEqDiff, Nat.reduceAdd, Nat.reduceLT, Nat.reduceLeDiff, List.map_cons, List.map_nil, List.all_cons, List.all_nil, List.length_cons, List.length_nil, List.drop_succ_cons, List.drop_zero, List.take_succ_cons, List.take_nil, List.headD_cons, List.cons_append, List.nil_append, List.append_nil, List.getElem?_nil, Option.getD_some, Option.getD_none, List.replicate_zero, List.isEmpty_nil, endQ, rvs, rv1, resV, vw_i, vw_b, vw_sl, vw_ag, Int.natCast_nonneg, Nat.zero_add, Bool.and_self, Bool.and_true, Bool.false_and, Bool.or_false, Bool.not_true, Bool.not_false, Bool.false_eq_true, Bool.true_eq_false, decide_true, true_and, and_true, and_self, false_and, forall_const, false_implies, implies_true, Option.map_some, List.any_nil, List.contains_nil, beq_false, imp_self, List.length_map, Int.toNat_natCast, List.getD_eq_getElem?_getD, List.getElem?_map, eDome, eI]
    · intro hC
      have hgt : ¬ ((l.length : Int) < d.rounds.length) := by omega
      have hn : isCurve d l = true := by unfold isCurve; rw [hC]; simp [hlen]
      simp only [hli, hn, ru_reg, ru_seq, ru_cnd, ru_exit, ru_ret, ru_keep, thenQ, blockQ, run_nil, run_cons, Fam.step, stepQ, evO, opv, qv, binV, lenV, upd_some, lkp_cons, lkp_nil, ↓reduceIte, Nat.reduceEqDiff, List.map_cons, List.map_nil, endQ, rvs, rv1, resV, vw_b, Int.lt_irrefl, Bool.false_eq_true, decide_false, and_self, List.length_map, eDome]
  · have hli : ¬ (l.length : Int) = d.rounds.length := by omega
    have hn : isCurve d l = false := by simp [isCurve, hlen]
    simp only [rc34, rs34, hli, hn, ru_reg, ru_seq, ru_cnd, ru_ret, ru_keep, thenQ, run_nil, run_cons, Fam.step, stepQ, evO, opv, qv, binV, ldV, lenV, V.cells, solid, hasRef, hasRefL, upd_some, lkp_cons, lkp_nil, ↓reduceIte, Nat.reduceEqDiff, Nat.reduceAdd, Nat.reduceLeDiff, List.map_cons, List.map_nil, List.length_cons, List.length_nil, List.drop_succ_cons, List.drop_zero, List.headD_cons, endQ, rvs, rv1, resV, vw_i, vw_b, vw_sl, vw_ag, zipA, Nat.zero_add, Bool.or_false, Bool.not_false, Bool.false_eq_true, decide_false, and_self, reduceCtorEq, List.length_map, eDome]
theorem P29 (d : Dome) (h : Ok22 d) : PureCall Try.prog 29 [.ag (eDome d), .ag (eDome d)] (.b true) := by
  have hok : GOk Try.prog GA1 := okA1
  refine pure_body hok hmix Try.func29 cb29 cc29 cs29 cn29 ?_
  have g1 := h.g
  have g2 := h.w
  have g3 := h.b
  have g4 := h.r
  have l1 : d.gores.length < 10000000 := by omega
  have l2 : d.widths.length < 10000000 := by omega
  have k28 : ∀ x : List Int, GA1 28 [.sl 1 (x.map eI), .sl 1 (x.map eI)] = (x.length < 10000000, .b true) := fun x => (gR28 x x).trans (by simp)
  simp only [rc29, rs29, k28, l1, l2, ru_skip, ru_reg, ru_seq, ru_cnd, ru_block, ru_keep, thenQ, run_nil, run_cons, Fam.step, stepQ, needQ, condB, ug, evO, opv, qv, pickV_bb, binV, ldV, lenV, callV, V.cells, solid, hasRef, hasRefL, flat, upd_some, lkp_cons, lkp_nil, ↓reduceIte, Nat.reduceEqDiff, Nat.reduceAdd, Nat.reduceLT, Nat.reduceLeDiff, List.map_cons, List.map_nil, List.all_cons, List.all_nil, List.length_cons, List.length_nil, List.drop_succ_cons, List.drop_zero, List.headD_cons, List.append_nil, vw_i, vw_sl, vw_ag, zipA, beq_self_eq_true, Nat.zero_add, Bool.and_self, Bool.or_false, Bool.not_true, Bool.false_eq_true, decide_true, true_and, and_self, forall_const, implies_true, reduceCtorEq, List.length_map, eDome]
  refine ru_count d.rounds.length (fun i => ⟨lkp [(2, .pa (eDome d)), (3, .pa (eDome d)), (5, .i i)], []⟩) ?_ ?_ ?_
  · simp only [Int.natCast_zero, kp, lkp_cons, lkp_nil, ↓reduceIte, Nat.reduceEqDiff, List.map_cons, List.map_nil, eDome]
  · intro i hi
    obtain ⟨x, hx⟩ : ∃ x, d.rounds[i]? = some x := ⟨_, List.getElem?_eq_getElem hi⟩
    have hlt : (i : Int) < d.rounds.length := by omega
    have i3 : inI ((i : Int) + 1) := by unfold inI; omega
    simp only [hx, hlt, i3, eqSpan, Int.natCast_add, Int.natCast_one, ru_skip, ru_reg, ru_any, ru_seq, ru_cnd, ru_block, ru_keep, putBs, thenQ, blockQ, run_nil, run_cons, Fam.step, stepQ, runX, eff, nextD, fpR, fpQ, fpV, disjB, hits, evO, opv, qv, binV, ldV, iadV, lenV, intsOf, kp, upd_some, lkp_cons, lkp_nil, ↓reduceIte, Nat.reduceEqDiff, Nat.reduceAdd, Nat.reduceLeDiff, List.map_cons, List.map_nil, List.all_nil, List.length_cons, List.length_nil, List.drop_succ_cons, List.drop_zero, List.take_succ_cons, List.take_nil, List.headD_cons, List.cons_append, List.nil_append, List.append_nil, List.getElem?_nil, Option.getD_some, Option.getD_none, List.replicate_zero, List.isEmpty_nil, Int.natCast_nonneg, Nat.zero_add, Bool.and_self, Bool.and_true, Bool.false_and, Bool.or_false, Bool.not_true, Bool.not_false, Bool.false_eq_true, decide_true, and_self, Option.map_some, List.any_nil, List.contains_nil, Bool.xor_self, List.length_map, Int.toNat_natCast, List.getD_eq_getElem?_getD, List.getElem?_map, eSpan, eDome]
  · have hgt : ¬ ((d.rounds.length : Int) < d.rounds.length) := by omega
    simp only [hgt, ru_reg, ru_seq, ru_cnd, ru_block, ru_exit, ru_keep, thenQ, blockQ, run_nil, run_cons, Fam.step, stepQ, evO, opv, qv, binV, ldV, lenV, upd_some, lkp_cons, lkp_nil, ↓reduceIte, Nat.reduceEqDiff, Nat.reduceAdd, Nat.reduceLeDiff, List.map_cons, List.map_nil, List.length_cons, List.length_nil, List.drop_succ_cons, List.drop_zero, List.headD_cons, Nat.zero_add, Bool.false_eq_true, decide_false, true_and, List.length_map, eDome]
    refine ru_count d.bolts.length (fun i => ⟨lkp [(2, .pa (eDome d)), (3, .pa (eDome d)), (6, .i i)], []⟩) ?_ ?_ ?_
    · simp only [Int.natCast_zero, cutH, kp, cutV, lkp_cons, lkp_nil, ↓reduceIte, Nat.reduceEqDiff, List.map_cons, List.map_nil, List.take_nil, eDome]
    · intro i hi
      obtain ⟨b, hb⟩ : ∃ b, d.bolts[i]? = some b := ⟨_, List.getElem?_eq_getElem hi⟩
      have hlt : (i : Int) < d.bolts.length := by omega
      have i3 : inI ((i : Int) + 1) := by unfold inI; omega
      have hst := h.s b (List.mem_of_getElem? hb)
      simp only [hb, hlt, eqSpan, ru_skip, ru_reg, ru_any, ru_seq, ru_cnd, ru_block, ru_keep, putBs, optL, cutH, thenQ, run_nil, run_cons, Fam.step, stepQ, needQ, needW, condB, ug, runX, eff, nextD, fpR, fpQ, fpV, disjB, hits, nv, sv, evO, opv, qv, pickV_bb, binV, ldV, iadV, lenV, curG, putAt, V.cells, solid, cellOk, intsOf, kp, upd_some, upd_none, lkp_cons, lkp_nil, ↓reduceIte, Nat.reduceEqDiff, Nat.reduceAdd, Nat.reduceLeDiff, Nat.reduceBEq, List.map_cons, List.map_nil, List.all_cons, List.all_nil, List.length_cons, List.length_nil, List.drop_succ_cons, List.drop_zero, List.drop_nil, List.take_succ_cons, List.take_zero, List.take_nil, List.headD_cons, List.cons_append, List.nil_append, List.append_nil, List.getElem?_cons_zero, List.getElem?_cons_succ, List.getElem?_nil, Option.getD_some, Option.getD_none, List.set_cons_zero, List.set_cons_succ, List.replicate_zero, List.replicate_succ, List.isEmpty_nil, List.isEmpty_cons, Int.natCast_nonneg, beq_self_eq_true, Nat.zero_add, Nat.add_zero, Bool.and_self, Bool.and_true, Bool.true_and, Bool.false_and, Bool.and_false, Bool.or_false, Bool.false_or, Bool.not_true, Bool.not_false, Bool.false_eq_true, decide_true, true_and, and_self, forall_const, implies_true, Option.map_some, List.any_cons, List.any_nil, List.contains_cons, List.contains_nil, Bool.xor_self, List.length_map, Int.toNat_natCast, List.getD_eq_getElem?_getD, List.getElem?_map, eBolt, eDome]
      refine ru_count b.strips.length (fun j => ⟨lkp [(2, .pa (eDome d)), (3, .pa (eDome d)), (6, .i i), (7, .ad 0 0 0), (8, .ad 1 0 0), (9, .i j)], [.cells 0 (eBolt b), .cells 0 (eBolt b)]⟩) ?_ ?_ ?_
      · simp only [Int.natCast_zero, kp, lkp_cons, lkp_nil, ↓reduceIte, Nat.reduceEqDiff, List.map_cons, List.map_nil, eBolt, eDome]
      · intro j hj
        obtain ⟨s, hs⟩ : ∃ s, b.strips[j]? = some s := ⟨_, List.getElem?_eq_getElem hj⟩
        have hlt2 : (j : Int) < b.strips.length := by omega
        have i4 : inI ((j : Int) + 1) := by unfold inI; omega
        simp only [hs, hlt2, i4, eqStripT, Int.natCast_add, Int.natCast_one, ru_skip, ru_reg, ru_any, ru_seq, ru_cnd, ru_block, ru_keep, putBs, thenQ, blockQ, run_nil, run_cons, Fam.step, stepQ, runX, eff, nextD, fpR, fpQ, fpV, disjB, hits, evO, opv, qv, binV, ldV, iadV, lenV, curG, intsOf, kp, upd_some, lkp_cons, lkp_nil, ↓reduceIte, Nat.reduceEqDiff, Nat.reduceAdd, Nat.reduceLeDiff, List.map_cons, List.map_nil, List.all_nil, List.length_cons, List.length_nil, List.drop_succ_cons, List.drop_zero, List.take_succ_cons, List.take_nil, List.headD_cons, List.cons_append, List.nil_append, List.append_nil, List.getElem?_cons_zero, List.getElem?_cons_succ, List.getElem?_nil, Option.getD_some, Option.getD_none, List.replicate_zero, List.isEmpty_nil, Int.natCast_nonneg, beq_self_eq_true, Nat.zero_add, Bool.and_self, Bool.and_true, Bool.false_and, Bool.or_false, Bool.not_true, Bool.not_false, Bool.false_eq_true, decide_true, and_self, Option.map_some, List.any_nil, List.contains_cons, List.contains_nil, Bool.xor_self, List.length_map, Int.toNat_natCast, List.getD_eq_getElem?_getD, List.getElem?_map, eStrip, eBolt, eDome]
      · have hgt : ¬ ((b.strips.length : Int) < b.strips.length) := by omega
        simp only [hgt, i3, Int.natCast_add, Int.natCast_one, ru_reg, ru_seq, ru_cnd, ru_exit, ru_keep, ru_drp, ↓cut_lkp, cutH, thenQ, blockQ, run_nil, run_cons, Fam.step, stepQ, evO, opv, qv, binV, ldV, lenV, curG, cutV, upd_some, lkp_cons, lkp_nil, ↓reduceIte, Nat.reduceEqDiff, Nat.reduceAdd, Nat.reduceLT, Nat.reduceLeDiff, List.map_cons, List.map_nil, List.length_cons, List.length_nil, List.drop_succ_cons, List.drop_zero, List.take_zero, List.headD_cons, List.getElem?_cons_zero, vw_ad, beq_self_eq_true, Nat.zero_add, Bool.false_eq_true, decide_false, and_self, List.length_map, eBolt, eDome]
    · have hgt : ¬ ((d.bolts.length : Int) < d.bolts.length) := by omega
      simp only [hgt, ru_reg, ru_seq, ru_cnd, ru_exit, ru_ret, ru_keep, thenQ, blockQ, run_nil, run_cons, Fam.step, stepQ, evO, opv, qv, binV, ldV, lenV, upd_some, lkp_cons, lkp_nil, ↓reduceIte, Nat.reduceEqDiff, Nat.reduceAdd, Nat.reduceLeDiff, List.map_cons, List.map_nil, List.length_cons, List.length_nil, List.drop_zero, List.headD_cons, endQ, rvs, rv1, resV, vw_b, Nat.zero_add, Bool.false_eq_true, decide_false, and_self, List.length_map, eDome]
end Go.C02
set_option linter.unusedSimpArgs false
set_option linter.unusedVariables false
namespace Go.C02
open Go.Fam Go.Proofs
/-! The laws that compare with the reference. -/
def r34 : List V → Prop × V := fnG eDL dDL (fun a => Valid a.1) (fun a => isCurve a.1 a.2) .b
def eDD (d : Dome) : List V := [.ag (eDome d), .ag (eDome d)]
def r29 : List V → Prop × V := fnG eDD (fun vs => dD [vs.headD .u]) Ok22 (fun _ => true) .b
noncomputable def GB1 : Gam := ((((GA1.ext 30 r19).ext 32 r31).ext 34 r34).ext 29 r29)
theorem okB1 : GOk Try.prog GB1 := by
  have k1 := okA1.ext (f := 30) (r := r19) (fun a w => Try.call30 a w) (fnG_ok fun a h => P30 a.1 a.2 h)
  have k2 := k1.ext (f := 32) (r := r31) (fun a w => Try.call32 a w) (fnG_ok fun a h => P32 a)
  have k3 := k2.ext (f := 34) (r := r34) (fun a w => Try.call34 a w) (fnG_ok fun a h => P34 a.1 a.2 h)
  exact k3.ext (f := 29) (r := r29) (fun a w => Try.call29 a w) (fnG_ok fun a h => P29 a h)
section
variable (b : List Bolt) (g : List Int) (l : Int) (r : List Span) (w : List Int) (s n m : Int) (x y : List Int)
end
end Go.C02
set_option linter.unusedSimpArgs false
set_option linter.unusedVariables false
namespace Go.C02
open Go.Fam Go.Proofs
end Go.C02
set_option linter.unusedSimpArgs false
set_option linter.unusedVariables false
namespace Go.C02
open Go.Fam Go.Proofs
section
variable (b : List Bolt) (g : List Int) (l : Int) (r : List Span) (w : List Int) (s n m : Int) (x y : List Int)
end
end Go.C02
set_option linter.unusedSimpArgs false
set_option linter.unusedVariables false
namespace Go.C02
open Go.Fam Go.Proofs
/-! What Least says of other domes; false strips. -/
/-! false strips -/
def without (l : List Strip) (k : Nat) : List Strip := l.take k ++ l.drop (k + 1)
end Go.C02
/- Resolved code, printed by program (wip/tools/mkrc.py). -/
set_option maxRecDepth 8000
namespace Go.C02.N
open Go.Fam Go.Proofs
/- ferrule/ferrulelaw02.ClothFalse: params [26, 54, 3], free 0, slots 166 -/
/- ferrule/ferruleref02.Copy: params [26], free 0, slots 47 -/
def rc22 : RC :=
  (.seq (.reg false [⟨(some 1), none, [0], none, .q (.box (.t 0))⟩,
    ⟨(some 2), none, [], none, .w (.alc [(.z 4), (.z 1), (.i 0), (.z 2), (.z 1), (.i 0)])⟩])
  (.keep [1, 2] (.seq (.reg false [⟨(some 5), none, [1], none, .q (.ld true 6 (.t 1))⟩,
    ⟨(some 3), none, [], none, .w (.alc [(.z 4), (.z 1), (.i 0), (.z 2), (.z 1), (.i 0)])⟩,
    ⟨none, none, [3, 5], none, .w (.st 6 (.t 3) (.t 5))⟩])
  (.keep [1, 2, 3] (.seq (.reg false [⟨(some 6), none, [], none, .w (.bso 4 0 [(.i 0), (.i 0), (.z 3), (.i 0)] [])⟩,
    ⟨(some 7), none, [1], none, .q (.fad 0 (.t 1))⟩,
    ⟨(some 8), none, [7], none, .q (.ld false 1 (.t 7))⟩,
    ⟨(some 9), none, [6, 8], none, .w (.app 4 (.t 6) (.t 8))⟩,
    ⟨(some 10), none, [3], none, .q (.fad 0 (.t 3))⟩,
    ⟨none, none, [10, 9], none, .w (.st 1 (.t 10) (.t 9))⟩])
  (.keep [1, 2, 3] (.seq (.seq (.reg false [⟨(some 4), none, [], none, .q (.mv (.k (.i 0)))⟩])
  (.keep [1, 2, 3, 4] (.block 0 (.loop [1, 2, 3, 4] none (.seq (.seq (.reg false [⟨(some 11), none, [4], none, .q (.mv (.t 4))⟩,
    ⟨(some 12), none, [3], none, .q (.fad 0 (.t 3))⟩,
    ⟨(some 13), none, [12], none, .q (.ld false 1 (.t 12))⟩,
    ⟨(some 14), none, [13], none, .q (.len (.t 13))⟩,
    ⟨(some 15), none, [11, 14], none, .q (.bin .lss (.t 11) (.t 14))⟩])
  (.keep [1, 2, 3, 4, 15] (.cond (.t 15)
    .skip
    (.exit 0))))
  (.keep [1, 2, 3, 4] (.seq (.block 1 (.any false 2 [⟨⟨(some 18), none, [3], none, .q (.fad 0 (.t 3))⟩, [], []⟩,
    ⟨⟨(some 19), none, [18], none, .q (.ld false 1 (.t 18))⟩, [], [0]⟩,
    ⟨⟨(some 20), none, [4], none, .q (.mv (.t 4))⟩, [], []⟩,
    ⟨⟨(some 21), none, [], (some 0), .w (.bso 3 0 [(.i 0), (.i 0), (.i 0)] [])⟩, [0, 1, 2], []⟩,
    ⟨⟨(some 22), none, [1], none, .q (.fad 0 (.t 1))⟩, [3], []⟩,
    ⟨⟨(some 23), none, [22], none, .q (.ld false 1 (.t 22))⟩, [3], [4]⟩,
    ⟨⟨(some 24), none, [4], none, .q (.mv (.t 4))⟩, [3], []⟩,
    ⟨⟨(some 25), none, [23, 24], none, .q (.iad 4 (.t 23) (.t 24))⟩, [3], [5, 4, 6]⟩,
    ⟨⟨(some 26), none, [25], none, .q (.fad 2 (.t 25))⟩, [3], [7, 5, 4, 6]⟩,
    ⟨⟨(some 27), none, [26], none, .q (.ld false 1 (.t 26))⟩, [3], [8, 7, 5, 4, 6]⟩,
    ⟨⟨(some 28), none, [21, 27], (some 1), .w (.app 3 (.t 21) (.t 27))⟩, [0, 1, 2], [3, 9, 8, 7, 5, 4, 6]⟩,
    ⟨⟨(some 29), none, [19, 20], none, .q (.iad 4 (.t 19) (.t 20))⟩, [], [1, 0, 2, 3, 4, 5, 6, 7, 8, 9, 10]⟩,
    ⟨⟨(some 30), none, [29], none, .q (.fad 2 (.t 29))⟩, [], [11, 1, 0, 2, 3, 4, 5, 6, 7, 8, 9, 10]⟩,
    ⟨⟨none, none, [30, 28], none, .w (.st 1 (.t 30) (.t 28))⟩, [], [12, 11, 1, 0, 2, 3, 4, 5, 6, 7, 8, 9, 10]⟩]))
  (.keep [1, 2, 3, 4] (.reg false [⟨(some 16), none, [4], none, .q (.mv (.t 4))⟩,
    ⟨(some 17), none, [16], none, .q (.bin .add (.t 16) (.k (.i 1)))⟩,
    ⟨(some 4), none, [17], none, .q (.mv (.t 17))⟩])))))))))
  (.keep [1, 2, 3] (.seq (.any false 6 [⟨⟨(some 31), none, [], (some 0), .w (.bso 1 0 [(.i 0)] [])⟩, [], []⟩,
    ⟨⟨(some 32), none, [1], none, .q (.fad 1 (.t 1))⟩, [0], []⟩,
    ⟨⟨(some 33), none, [32], none, .q (.ld false 1 (.t 32))⟩, [0], [1]⟩,
    ⟨⟨(some 34), none, [31, 33], (some 1), .w (.app 1 (.t 31) (.t 33))⟩, [], [0, 2, 1]⟩,
    ⟨⟨(some 35), none, [], (some 2), .w (.bso 2 0 [(.i 0), (.i 0)] [])⟩, [0, 1, 2, 3], []⟩,
    ⟨⟨(some 36), none, [1], none, .q (.fad 3 (.t 1))⟩, [0, 3, 4], []⟩,
    ⟨⟨(some 37), none, [36], none, .q (.ld false 1 (.t 36))⟩, [0, 3, 4], [5]⟩,
    ⟨⟨(some 38), none, [35, 37], (some 3), .w (.app 2 (.t 35) (.t 37))⟩, [], [4, 6, 5, 3, 0, 2, 1]⟩,
    ⟨⟨(some 39), none, [], (some 4), .w (.bso 1 0 [(.i 0)] [])⟩, [0, 1, 2, 3, 4, 5, 6, 7], []⟩,
    ⟨⟨(some 40), none, [1], none, .q (.fad 4 (.t 1))⟩, [0, 3, 4, 7, 8], []⟩,
    ⟨⟨(some 41), none, [40], none, .q (.ld false 1 (.t 40))⟩, [0, 3, 4, 7, 8], [9]⟩,
    ⟨⟨(some 42), none, [39, 41], (some 5), .w (.app 1 (.t 39) (.t 41))⟩, [], [8, 10, 9, 7, 4, 6, 5, 3, 0, 2, 1]⟩,
    ⟨⟨(some 43), none, [3], none, .q (.fad 1 (.t 3))⟩, [4, 7, 8, 11], [0, 1, 2, 3]⟩,
    ⟨⟨none, none, [43, 34], none, .w (.st 1 (.t 43) (.t 34))⟩, [], [12, 0, 1, 2, 3, 11, 8, 10, 9, 7, 4, 6, 5]⟩,
    ⟨⟨(some 44), none, [3], none, .q (.fad 3 (.t 3))⟩, [], [0, 1, 2, 3, 4, 5, 6, 7, 12, 13, 11, 8, 10, 9]⟩,
    ⟨⟨none, none, [44, 38], none, .w (.st 1 (.t 44) (.t 38))⟩, [], [14, 0, 1, 2, 3, 4, 5, 6, 7, 12, 13, 11, 8, 10, 9]⟩,
    ⟨⟨(some 45), none, [3], none, .q (.fad 4 (.t 3))⟩, [], [0, 1, 2, 3, 4, 5, 6, 7, 8, 9, 10, 11, 12, 13, 14, 15]⟩,
    ⟨⟨none, none, [45, 42], none, .w (.st 1 (.t 45) (.t 42))⟩, [], [16, 0, 1, 2, 3, 4, 5, 6, 7, 8, 9, 10, 11, 12, 13, 14, 15]⟩])
  (.keep [2, 3] (.seq (.reg false [⟨(some 46), none, [3], none, .q (.ld true 6 (.t 3))⟩,
    ⟨none, none, [2, 46], none, .w (.st 6 (.t 2) (.t 46))⟩])
  .ret)))))))))))
def pu22 : List Nat := [1]
def rs22 : List RV := [.c 2 true 6]
theorem cc22 : comp Try.prog pu22 (Try.f22.ntmps, 0) 0 1 rc22 (Try.f22.body.getD .skip) = some rc22 := by kernel_rfl
theorem cb22 : Try.f22.body = some (Try.f22.body.getD .skip) := by kernel_rfl
theorem cs22 : resRV Try.prog Try.f22.results.toList = some rs22 := by kernel_rfl
theorem cn22 : 1 ≤ Try.f22.ntmps := by decide
/- ferrule/ferrulelaw02.ClothMore: params [26, 52, 54], free 0, slots 217 -/
def rc9 : RC :=
  (.seq (.reg false [⟨(some 3), none, [0], none, .q (.box (.t 0))⟩,
    ⟨(some 4), none, [1], none, .q (.box (.t 1))⟩,
    ⟨(some 5), none, [2], none, .q (.box (.t 2))⟩,
    ⟨(some 6), none, [], none, .q (.mv (.k (.b false)))⟩])
  (.keep [3, 4, 5] (.seq (.seq (.reg true [⟨(some 25), none, [3], none, .q (.ld true 6 (.t 3))⟩,
    ⟨(some 26), none, [5], none, .q (.fad 1 (.t 5))⟩,
    ⟨(some 27), none, [26], none, .q (.ld false 1 (.t 26))⟩,
    ⟨(some 28), none, [25, 27], none, .q (.call (.k (.fn 15 [])) [(.t 25), (.t 27)])⟩,
    ⟨(some 29), none, [28], none, .q (.not (.t 28))⟩,
    ⟨(some 30), none, [29], none, .q (.mv (.t 29))⟩,
    ⟨(some 31), (some (30, false)), [5], none, .q (.fad 0 (.t 5))⟩,
    ⟨(some 32), (some (30, false)), [31], none, .q (.ld false 1 (.t 31))⟩,
    ⟨(some 33), (some (30, false)), [32], none, .q (.bin .lss (.t 32) (.k (.i 0)))⟩,
    ⟨(some 34), none, [30, 33], none, .q (.pick (.t 30) (.k (.b true)) (.t 33))⟩,
    ⟨(some 35), none, [34], none, .q (.mv (.t 34))⟩,
    ⟨(some 36), (some (35, false)), [5], none, .q (.fad 0 (.t 5))⟩,
    ⟨(some 37), (some (35, false)), [36], none, .q (.ld false 1 (.t 36))⟩,
    ⟨(some 38), (some (35, false)), [3], none, .q (.fad 0 (.t 3))⟩,
    ⟨(some 39), (some (35, false)), [38], none, .q (.ld false 1 (.t 38))⟩,
    ⟨(some 40), (some (35, false)), [39], none, .q (.len (.t 39))⟩,
    ⟨(some 41), (some (35, false)), [37, 40], none, .q (.bin .geq (.t 37) (.t 40))⟩,
    ⟨(some 42), none, [35, 41], none, .q (.pick (.t 35) (.k (.b true)) (.t 41))⟩,
    ⟨(some 43), none, [42], none, .q (.mv (.t 42))⟩,
    ⟨(some 44), (some (43, false)), [3], none, .q (.fad 0 (.t 3))⟩,
    ⟨(some 45), (some (43, false)), [44], none, .q (.ld false 1 (.t 44))⟩,
    ⟨(some 46), (some (43, false)), [5], none, .q (.fad 0 (.t 5))⟩,
    ⟨(some 47), (some (43, false)), [46], none, .q (.ld false 1 (.t 46))⟩,
    ⟨(some 48), (some (43, false)), [45, 47], none, .q (.iad 4 (.t 45) (.t 47))⟩,
    ⟨(some 49), (some (43, false)), [48], none, .q (.fad 2 (.t 48))⟩,
    ⟨(some 50), (some (43, false)), [49], none, .q (.ld false 1 (.t 49))⟩,
    ⟨(some 51), (some (43, false)), [50], none, .q (.len (.t 50))⟩,
    ⟨(some 52), (some (43, false)), [51], none, .q (.bin .geq (.t 51) (.k (.i 8)))⟩,
    ⟨(some 53), none, [43, 52], none, .q (.pick (.t 43) (.k (.b true)) (.t 52))⟩])
  (.keep [3, 4, 5, 53] (.cond (.t 53)
    (.seq (.reg false [⟨(some 54), none, [], none, .q (.call (.k (.fn 16 [])) [])⟩,
      ⟨(some 6), none, [54], none, .q (.mv (.t 54))⟩])
    .ret)
    .skip)))
  (.keep [3, 4, 5] (.seq (.reg false [⟨(some 55), none, [3], none, .q (.ld true 6 (.t 3))⟩,
    ⟨(some 56), none, [55], none, .o (.k (.fn 22 [])) [(.t 55)]⟩,
    ⟨(some 7), none, [], none, .w (.alc [(.z 4), (.z 1), (.i 0), (.z 2), (.z 1), (.i 0)])⟩,
    ⟨none, none, [7, 56], none, .w (.st 6 (.t 7) (.t 56))⟩])
  (.keep [3, 4, 5, 7] (.seq (.any false 1 [⟨⟨(some 57), none, [7], none, .q (.fad 0 (.t 7))⟩, [], []⟩,
    ⟨⟨(some 58), none, [57], none, .q (.ld false 1 (.t 57))⟩, [], [0]⟩,
    ⟨⟨(some 59), none, [5], none, .q (.fad 0 (.t 5))⟩, [], []⟩,
    ⟨⟨(some 60), none, [59], none, .q (.ld false 1 (.t 59))⟩, [], [2]⟩,
    ⟨⟨(some 61), none, [7], none, .q (.fad 0 (.t 7))⟩, [], []⟩,
    ⟨⟨(some 62), none, [61], none, .q (.ld false 1 (.t 61))⟩, [], [4]⟩,
    ⟨⟨(some 63), none, [5], none, .q (.fad 0 (.t 5))⟩, [], []⟩,
    ⟨⟨(some 64), none, [63], none, .q (.ld false 1 (.t 63))⟩, [], [6]⟩,
    ⟨⟨(some 65), none, [62, 64], none, .q (.iad 4 (.t 62) (.t 64))⟩, [], [5, 4, 7, 6]⟩,
    ⟨⟨(some 66), none, [65], none, .q (.fad 2 (.t 65))⟩, [], [8, 5, 4, 7, 6]⟩,
    ⟨⟨(some 67), none, [66], none, .q (.ld false 1 (.t 66))⟩, [], [9, 8, 5, 4, 7, 6]⟩,
    ⟨⟨(some 68), none, [4], none, .q (.ld true 3 (.t 4))⟩, [], []⟩,
    ⟨⟨(some 69), none, [68], none, .q (.bsl 3 1 [(.i 0), (.i 0), (.i 0)] [(0, 3, (.t 68))])⟩, [], [11]⟩,
    ⟨⟨(some 70), none, [67, 69], (some 0), .w (.app 3 (.t 67) (.t 69))⟩, [0, 1, 2, 3], [10, 9, 8, 5, 4, 7, 6, 12, 11]⟩,
    ⟨⟨(some 71), none, [58, 60], none, .q (.iad 4 (.t 58) (.t 60))⟩, [], [1, 0, 3, 2, 4, 5, 6, 7, 8, 9, 10, 11, 12, 13]⟩,
    ⟨⟨(some 72), none, [71], none, .q (.fad 2 (.t 71))⟩, [], [14, 1, 0, 3, 2, 4, 5, 6, 7, 8, 9, 10, 11, 12, 13]⟩,
    ⟨⟨none, none, [72, 70], none, .w (.st 1 (.t 72) (.t 70))⟩, [], [15, 14, 1, 0, 3, 2, 4, 5, 6, 7, 8, 9, 10, 11, 12, 13]⟩])
  (.keep [3, 5, 7] (.seq (.seq (.drp 0 (.reg false [⟨(some 73), none, [7], none, .q (.ld true 6 (.t 7))⟩,
    ⟨(some 74), none, [73], none, .q (.call (.k (.fn 39 [])) [(.t 73)])⟩,
    ⟨(some 75), none, [74], none, .q (.bin .neq (.t 74) (.k (.i 0)))⟩]))
  (.keep [3, 5, 7, 75] (.cond (.t 75)
    (.seq (.reg false [⟨(some 76), none, [], none, .q (.call (.k (.fn 16 [])) [])⟩,
      ⟨(some 6), none, [76], none, .q (.mv (.t 76))⟩])
    .ret)
    .skip)))
  (.keep [3, 5, 7] (.seq (.reg false [⟨(some 78), none, [3], none, .q (.ld true 6 (.t 3))⟩,
    ⟨(some 79), none, [5], none, .q (.fad 0 (.t 5))⟩,
    ⟨(some 80), none, [79], none, .q (.ld false 1 (.t 79))⟩,
    ⟨(some 81), none, [78, 80], none, .q (.call (.k (.fn 36 [])) [(.t 78), (.t 80)])⟩,
    ⟨(some 77), none, [81], none, .q (.mv (.t 81))⟩,
    ⟨(some 82), none, [77], none, .q (.ext (.t 77) 0)⟩,
    ⟨(some 83), none, [77], none, .q (.ext (.t 77) 1)⟩,
    ⟨(some 8), none, [82], none, .q (.mv (.t 82))⟩,
    ⟨(some 9), none, [83], none, .q (.mv (.t 83))⟩])
  (.keep [3, 5, 7, 8, 9] (.seq (.reg false [⟨(some 85), none, [7], none, .q (.ld true 6 (.t 7))⟩,
    ⟨(some 86), none, [5], none, .q (.fad 0 (.t 5))⟩,
    ⟨(some 87), none, [86], none, .q (.ld false 1 (.t 86))⟩,
    ⟨(some 88), none, [85, 87], none, .q (.call (.k (.fn 36 [])) [(.t 85), (.t 87)])⟩,
    ⟨(some 84), none, [88], none, .q (.mv (.t 88))⟩,
    ⟨(some 89), none, [84], none, .q (.ext (.t 84) 0)⟩,
    ⟨(some 90), none, [84], none, .q (.ext (.t 84) 1)⟩,
    ⟨(some 10), none, [89], none, .q (.mv (.t 89))⟩,
    ⟨(some 11), none, [90], none, .q (.mv (.t 90))⟩])
  (.keep [3, 5, 7, 8, 9, 10, 11] (.seq (.seq (.reg false [⟨(some 91), none, [11], none, .q (.mv (.t 11))⟩,
    ⟨(some 92), none, [91], none, .q (.bin .neq (.t 91) (.k (.i 0)))⟩])
  (.keep [3, 5, 7, 8, 9, 10, 11, 92] (.cond (.t 92)
    (.seq (.reg true [⟨(some 93), none, [11], none, .q (.mv (.t 11))⟩,
      ⟨(some 94), none, [93], none, .q (.bin .eql (.t 93) (.k (.i 3)))⟩,
      ⟨(some 95), none, [94], none, .q (.mv (.t 94))⟩,
      ⟨(some 96), (some (95, true)), [], none, .q (.call (.k (.fn 16 [])) [])⟩,
      ⟨(some 97), none, [95, 96], none, .q (.pick (.t 95) (.t 96) (.k (.b false)))⟩,
      ⟨(some 6), none, [97], none, .q (.mv (.t 97))⟩])
    .ret)
    .skip)))
  (.keep [3, 5, 7, 8, 9, 10] (.seq (.reg false [⟨(some 99), none, [3], none, .q (.ld true 6 (.t 3))⟩,
    ⟨(some 100), none, [5], none, .q (.fad 1 (.t 5))⟩,
    ⟨(some 101), none, [100], none, .q (.ld false 1 (.t 100))⟩,
    ⟨(some 102), none, [99, 101], none, .q (.call (.k (.fn 23 [])) [(.t 99), (.t 101)])⟩,
    ⟨(some 98), none, [102], none, .q (.mv (.t 102))⟩,
    ⟨(some 103), none, [98], none, .q (.ext (.t 98) 0)⟩,
    ⟨(some 104), none, [98], none, .q (.ext (.t 98) 1)⟩,
    ⟨(some 12), none, [], none, .w (.alc [(.i 0), (.i 0)])⟩,
    ⟨none, none, [12, 103], none, .w (.st 2 (.t 12) (.t 103))⟩,
    ⟨(some 13), none, [104], none, .q (.mv (.t 104))⟩])
  (.keep [3, 5, 7, 8, 9, 10, 12, 13] (.seq (.reg false [⟨(some 106), none, [7], none, .q (.ld true 6 (.t 7))⟩,
    ⟨(some 107), none, [5], none, .q (.fad 1 (.t 5))⟩,
    ⟨(some 108), none, [107], none, .q (.ld false 1 (.t 107))⟩,
    ⟨(some 109), none, [106, 108], none, .q (.call (.k (.fn 23 [])) [(.t 106), (.t 108)])⟩,
    ⟨(some 105), none, [109], none, .q (.mv (.t 109))⟩,
    ⟨(some 110), none, [105], none, .q (.ext (.t 105) 0)⟩,
    ⟨(some 111), none, [105], none, .q (.ext (.t 105) 1)⟩,
    ⟨(some 14), none, [], none, .w (.alc [(.i 0), (.i 0)])⟩,
    ⟨none, none, [14, 110], none, .w (.st 2 (.t 14) (.t 110))⟩,
    ⟨(some 15), none, [111], none, .q (.mv (.t 111))⟩])
  (.keep [3, 5, 7, 8, 9, 10, 12, 13, 14, 15] (.seq (.reg false [⟨(some 113), none, [3], none, .q (.ld true 6 (.t 3))⟩,
    ⟨(some 114), none, [5], none, .q (.fad 1 (.t 5))⟩,
    ⟨(some 115), none, [114], none, .q (.ld false 1 (.t 114))⟩,
    ⟨(some 116), none, [113, 115], none, .q (.call (.k (.fn 17 [])) [(.t 113), (.t 115)])⟩,
    ⟨(some 112), none, [116], none, .q (.mv (.t 116))⟩,
    ⟨(some 117), none, [112], none, .q (.ext (.t 112) 0)⟩,
    ⟨(some 118), none, [112], none, .q (.ext (.t 112) 1)⟩,
    ⟨(some 16), none, [117], none, .q (.mv (.t 117))⟩,
    ⟨(some 17), none, [118], none, .q (.mv (.t 118))⟩])
  (.keep [3, 5, 7, 8, 9, 10, 12, 13, 14, 15, 16, 17] (.seq (.reg false [⟨(some 120), none, [7], none, .q (.ld true 6 (.t 7))⟩,
    ⟨(some 121), none, [5], none, .q (.fad 1 (.t 5))⟩,
    ⟨(some 122), none, [121], none, .q (.ld false 1 (.t 121))⟩,
    ⟨(some 123), none, [120, 122], none, .q (.call (.k (.fn 17 [])) [(.t 120), (.t 122)])⟩,
    ⟨(some 119), none, [123], none, .q (.mv (.t 123))⟩,
    ⟨(some 124), none, [119], none, .q (.ext (.t 119) 0)⟩,
    ⟨(some 125), none, [119], none, .q (.ext (.t 119) 1)⟩,
    ⟨(some 18), none, [124], none, .q (.mv (.t 124))⟩,
    ⟨(some 19), none, [125], none, .q (.mv (.t 125))⟩])
  (.keep [3, 5, 7, 8, 9, 10, 12, 13, 14, 15, 16, 17, 18, 19] (.seq (.seq (.reg true [⟨(some 126), none, [9], none, .q (.mv (.t 9))⟩,
    ⟨(some 127), none, [126], none, .q (.bin .neq (.t 126) (.k (.i 0)))⟩,
    ⟨(some 128), none, [127], none, .q (.mv (.t 127))⟩,
    ⟨(some 129), (some (128, false)), [13], none, .q (.mv (.t 13))⟩,
    ⟨(some 130), (some (128, false)), [129], none, .q (.bin .neq (.t 129) (.k (.i 0)))⟩,
    ⟨(some 131), none, [128, 130], none, .q (.pick (.t 128) (.k (.b true)) (.t 130))⟩,
    ⟨(some 132), none, [131], none, .q (.mv (.t 131))⟩,
    ⟨(some 133), (some (132, false)), [15], none, .q (.mv (.t 15))⟩,
    ⟨(some 134), (some (132, false)), [133], none, .q (.bin .neq (.t 133) (.k (.i 0)))⟩,
    ⟨(some 135), none, [132, 134], none, .q (.pick (.t 132) (.k (.b true)) (.t 134))⟩,
    ⟨(some 136), none, [135], none, .q (.mv (.t 135))⟩,
    ⟨(some 137), (some (136, false)), [17], none, .q (.mv (.t 17))⟩,
    ⟨(some 138), (some (136, false)), [137], none, .q (.bin .neq (.t 137) (.k (.i 0)))⟩,
    ⟨(some 139), none, [136, 138], none, .q (.pick (.t 136) (.k (.b true)) (.t 138))⟩,
    ⟨(some 140), none, [139], none, .q (.mv (.t 139))⟩,
    ⟨(some 141), (some (140, false)), [19], none, .q (.mv (.t 19))⟩,
    ⟨(some 142), (some (140, false)), [141], none, .q (.bin .neq (.t 141) (.k (.i 0)))⟩,
    ⟨(some 143), none, [140, 142], none, .q (.pick (.t 140) (.k (.b true)) (.t 142))⟩,
    ⟨(some 144), none, [143], none, .q (.mv (.t 143))⟩,
    ⟨(some 145), (some (144, false)), [14], none, .q (.fad 0 (.t 14))⟩,
    ⟨(some 146), (some (144, false)), [145], none, .q (.ld false 1 (.t 145))⟩,
    ⟨(some 147), (some (144, false)), [12], none, .q (.fad 0 (.t 12))⟩,
    ⟨(some 148), (some (144, false)), [147], none, .q (.ld false 1 (.t 147))⟩,
    ⟨(some 149), (some (144, false)), [146, 148], none, .q (.bin .lss (.t 146) (.t 148))⟩,
    ⟨(some 150), none, [144, 149], none, .q (.pick (.t 144) (.k (.b true)) (.t 149))⟩,
    ⟨(some 151), none, [150], none, .q (.mv (.t 150))⟩,
    ⟨(some 152), (some (151, false)), [14], none, .q (.fad 1 (.t 14))⟩,
    ⟨(some 153), (some (151, false)), [152], none, .q (.ld false 1 (.t 152))⟩,
    ⟨(some 154), (some (151, false)), [12], none, .q (.fad 1 (.t 12))⟩,
    ⟨(some 155), (some (151, false)), [154], none, .q (.ld false 1 (.t 154))⟩,
    ⟨(some 156), (some (151, false)), [153, 155], none, .q (.bin .gtr (.t 153) (.t 155))⟩,
    ⟨(some 157), none, [151, 156], none, .q (.pick (.t 151) (.k (.b true)) (.t 156))⟩,
    ⟨(some 158), none, [157], none, .q (.mv (.t 157))⟩,
    ⟨(some 159), (some (158, false)), [16], none, .q (.mv (.t 16))⟩,
    ⟨(some 160), (some (158, false)), [159], none, .q (.bin .neq (.t 159) (.k (.i 3)))⟩,
    ⟨(some 161), (some (158, false)), [160], none, .q (.mv (.t 160))⟩,
    ⟨(some 162), (some (161, true)), [16], none, .q (.mv (.t 16))⟩,
    ⟨(some 163), (some (161, true)), [18], none, .q (.mv (.t 18))⟩,
    ⟨(some 164), (some (161, true)), [162, 163], none, .q (.bin .neq (.t 162) (.t 163))⟩,
    ⟨(some 165), (some (158, false)), [161, 164], none, .q (.pick (.t 161) (.t 164) (.k (.b false)))⟩,
    ⟨(some 166), none, [158, 165], none, .q (.pick (.t 158) (.k (.b true)) (.t 165))⟩])
  (.keep [3, 5, 7, 8, 10, 166] (.cond (.t 166)
    (.seq (.reg false [⟨(some 6), none, [], none, .q (.mv (.k (.b false)))⟩])
    .ret)
    .skip)))
  (.keep [3, 5, 7, 8, 10] (.seq (.seq (.reg false [⟨(some 20), none, [], none, .q (.mv (.k (.i 0)))⟩])
  (.keep [3, 5, 7, 8, 10, 20] (.block 0 (.loop [3, 5, 7, 8, 10, 20] none (.seq (.seq (.reg false [⟨(some 167), none, [20], none, .q (.mv (.t 20))⟩,
    ⟨(some 168), none, [10], none, .q (.mv (.t 10))⟩,
    ⟨(some 169), none, [168], none, .q (.len (.t 168))⟩,
    ⟨(some 170), none, [167, 169], none, .q (.bin .lss (.t 167) (.t 169))⟩])
  (.keep [3, 5, 7, 8, 10, 20, 170] (.cond (.t 170)
    .skip
    (.exit 0))))
  (.keep [3, 5, 7, 8, 10, 20] (.seq (.block 1 (.seq (.reg false [⟨(some 173), none, [8], none, .q (.mv (.t 8))⟩,
    ⟨(some 174), none, [10], none, .q (.mv (.t 10))⟩,
    ⟨(some 175), none, [20], none, .q (.mv (.t 20))⟩,
    ⟨(some 176), none, [174, 175], none, .q (.iad 1 (.t 174) (.t 175))⟩,
    ⟨(some 177), none, [176], none, .q (.ld false 1 (.t 176))⟩,
    ⟨(some 178), none, [173, 177], none, .q (.call (.k (.fn 37 [])) [(.t 173), (.t 177)])⟩,
    ⟨(some 179), none, [178], none, .q (.not (.t 178))⟩])
  (.keep [3, 5, 7, 8, 10, 20, 179] (.cond (.t 179)
    (.seq (.reg false [⟨(some 6), none, [], none, .q (.mv (.k (.b false)))⟩])
    .ret)
    .skip))))
  (.keep [3, 5, 7, 8, 10, 20] (.reg false [⟨(some 171), none, [20], none, .q (.mv (.t 20))⟩,
    ⟨(some 172), none, [171], none, .q (.bin .add (.t 171) (.k (.i 1)))⟩,
    ⟨(some 20), none, [172], none, .q (.mv (.t 172))⟩])))))))))
  (.keep [3, 5, 7] (.seq (.reg false [⟨(some 181), none, [3], none, .q (.ld true 6 (.t 3))⟩,
    ⟨(some 182), none, [5], none, .q (.fad 1 (.t 5))⟩,
    ⟨(some 183), none, [182], none, .q (.ld false 1 (.t 182))⟩,
    ⟨(some 184), none, [181, 183], none, .q (.call (.k (.fn 19 [])) [(.t 181), (.t 183)])⟩,
    ⟨(some 180), none, [184], none, .q (.mv (.t 184))⟩,
    ⟨(some 185), none, [180], none, .q (.ext (.t 180) 0)⟩,
    ⟨(some 186), none, [180], none, .q (.ext (.t 180) 1)⟩,
    ⟨(some 21), none, [], none, .w (.alc [(.i 0), (.i 0)])⟩,
    ⟨none, none, [21, 185], none, .w (.st 2 (.t 21) (.t 185))⟩,
    ⟨(some 22), none, [186], none, .q (.mv (.t 186))⟩])
  (.keep [5, 7, 21, 22] (.seq (.reg false [⟨(some 188), none, [7], none, .q (.ld true 6 (.t 7))⟩,
    ⟨(some 189), none, [5], none, .q (.fad 1 (.t 5))⟩,
    ⟨(some 190), none, [189], none, .q (.ld false 1 (.t 189))⟩,
    ⟨(some 191), none, [188, 190], none, .q (.call (.k (.fn 19 [])) [(.t 188), (.t 190)])⟩,
    ⟨(some 187), none, [191], none, .q (.mv (.t 191))⟩,
    ⟨(some 192), none, [187], none, .q (.ext (.t 187) 0)⟩,
    ⟨(some 193), none, [187], none, .q (.ext (.t 187) 1)⟩,
    ⟨(some 23), none, [], none, .w (.alc [(.i 0), (.i 0)])⟩,
    ⟨none, none, [23, 192], none, .w (.st 2 (.t 23) (.t 192))⟩,
    ⟨(some 24), none, [193], none, .q (.mv (.t 193))⟩])
  (.keep [21, 22, 23, 24] (.seq (.reg true [⟨(some 194), none, [22], none, .q (.mv (.t 22))⟩,
    ⟨(some 195), none, [194], none, .q (.bin .neq (.t 194) (.k (.i 0)))⟩,
    ⟨(some 196), none, [195], none, .q (.mv (.t 195))⟩,
    ⟨(some 197), (some (196, false)), [24], none, .q (.mv (.t 24))⟩,
    ⟨(some 198), (some (196, false)), [197], none, .q (.bin .eql (.t 197) (.k (.i 0)))⟩,
    ⟨(some 199), (some (196, false)), [198], none, .q (.mv (.t 198))⟩,
    ⟨(some 200), (some (199, true)), [23], none, .q (.fad 0 (.t 23))⟩,
    ⟨(some 201), (some (199, true)), [200], none, .q (.ld false 1 (.t 200))⟩,
    ⟨(some 202), (some (199, true)), [21], none, .q (.fad 0 (.t 21))⟩,
    ⟨(some 203), (some (199, true)), [202], none, .q (.ld false 1 (.t 202))⟩,
    ⟨(some 204), (some (199, true)), [201, 203], none, .q (.bin .leq (.t 201) (.t 203))⟩,
    ⟨(some 205), (some (196, false)), [199, 204], none, .q (.pick (.t 199) (.t 204) (.k (.b false)))⟩,
    ⟨(some 206), (some (196, false)), [205], none, .q (.mv (.t 205))⟩,
    ⟨(some 207), (some (206, true)), [23], none, .q (.fad 1 (.t 23))⟩,
    ⟨(some 208), (some (206, true)), [207], none, .q (.ld false 1 (.t 207))⟩,
    ⟨(some 209), (some (206, true)), [21], none, .q (.fad 1 (.t 21))⟩,
    ⟨(some 210), (some (206, true)), [209], none, .q (.ld false 1 (.t 209))⟩,
    ⟨(some 211), (some (206, true)), [208, 210], none, .q (.bin .geq (.t 208) (.t 210))⟩,
    ⟨(some 212), (some (196, false)), [206, 211], none, .q (.pick (.t 206) (.t 211) (.k (.b false)))⟩,
    ⟨(some 213), none, [196, 212], none, .q (.pick (.t 196) (.k (.b true)) (.t 212))⟩,
    ⟨(some 214), none, [213], none, .q (.mv (.t 213))⟩,
    ⟨(some 215), (some (214, true)), [], none, .q (.call (.k (.fn 16 [])) [])⟩,
    ⟨(some 216), none, [214, 215], none, .q (.pick (.t 214) (.t 215) (.k (.b false)))⟩,
    ⟨(some 6), none, [216], none, .q (.mv (.t 216))⟩])
  .ret)))))))))))))))))))))))))))))))))
def pu9 : List Nat := [1000056, 3, 4, 5, 69]
def rs9 : List RV := [.t 6]
theorem cc9 : comp Try.prog pu9 (Try.f9.ntmps, 0) 0 1 rc9 (Try.f9.body.getD .skip) = some rc9 := by kernel_rfl
theorem cb9 : Try.f9.body = some (Try.f9.body.getD .skip) := by kernel_rfl
theorem cs9 : resRV Try.prog Try.f9.results.toList = some rs9 := by kernel_rfl
theorem cn9 : 3 ≤ Try.f9.ntmps := by decide
/- ferrule/ferrulelaw02.ClothOrder: params [26, 3, 54], free 0, slots 240 -/
end Go.C02.N
set_option linter.unusedSimpArgs false
set_option linter.unusedVariables false
namespace Go.C02
open Go.Fam Go.Proofs
/-! Domes that own their memory: one bolt's strips are changed. -/
theorem set_take {α : Type} {l : List α} {i : Nat} {x : α} (h : i < l.length) : l.take i ++ [x] ++ l.drop (i + 1) = l.set i x := by
  rw [List.set_eq_take_append_cons_drop, if_pos h]; simp
theorem flat_set {α : Type} {k m : Nat} : ∀ (rows : List (List α)) (j : Nat) (r : List α) (x : α), (∀ r ∈ rows, r.length = k) → rows[j]? = some r → m < k → rows.flatten.set (j * k + m) x = (rows.set j (r.set m x)).flatten
  | [], j, r, x, _, h, _ => by simp at h
  | a :: rows, 0, r, x, hl, h, hm => by
    simp at h; subst h
    have := hl a (by simp)
    rw [List.flatten_cons, List.set_cons_zero, List.flatten_cons, Nat.zero_mul, Nat.zero_add, List.set_append_left _ _ (by omega)]
  | a :: rows, j + 1, r, x, hl, h, hm => by
    have ha := hl a (by simp)
    rw [List.flatten_cons, List.set_cons_succ, List.flatten_cons, List.set_append_right _ _ (by rw [Nat.succ_mul]; omega)]
    congr 1
    rw [← flat_set rows j r x (fun r hr => hl r (by simp [hr])) (by simpa using h) hm, ha, Nat.succ_mul]
    congr 1; omega
theorem flat_rows_len {α : Type} {k : Nat} : ∀ (rows : List (List α)), (∀ r ∈ rows, r.length = k) → rows.flatten.length = rows.length * k
  | [], _ => by simp
  | a :: rows, h => by
    rw [List.flatten_cons, List.length_append, h a (by simp), flat_rows_len rows fun r hr => h r (by simp [hr]), List.length_cons, Nat.succ_mul]; omega
theorem drop_rows {α : Type} {k : Nat} : ∀ (rows : List (List α)) (j : Nat) (r : List α), (∀ r ∈ rows, r.length = k) → rows[j]? = some r → (rows.flatten.drop (j * k)).take k = r
  | [], j, r, _, h => by simp at h
  | a :: rows, 0, r, hl, h => by
    simp at h; subst h
    rw [List.flatten_cons, Nat.zero_mul, List.drop_zero, ← hl a (by simp)]; simp
  | a :: rows, j + 1, r, hl, h => by
    rw [List.flatten_cons, Nat.succ_mul, Nat.add_comm, ← List.drop_drop, show (a ++ rows.flatten).drop k = rows.flatten by rw [← hl a (by simp)]; simp]
    exact drop_rows rows j r (fun r hr => hl r (by simp [hr])) (by simpa using h)
theorem chunk_rowsF {k : Nat} (rows : List (List V)) (h : ∀ r ∈ rows, r.length = k) : chunk k rows.flatten 0 rows.length = rows := by
  apply List.ext_getElem?
  intro j
  unfold chunk
  rw [List.getElem?_map]
  by_cases hj : j < rows.length
  · rw [List.getElem?_range hj]
    obtain ⟨r, hr⟩ : ∃ r, rows[j]? = some r := ⟨_, List.getElem?_eq_getElem hj⟩
    rw [hr, Option.map_some, Nat.zero_add, drop_rows rows j r h hr]
  · rw [List.getElem?_eq_none (by rw [List.length_range]; omega), List.getElem?_eq_none (by omega)]; rfl
theorem vw_St (hp : List Blk) (n : Nat) (l : List Strip) : (l.map eStrip).map (fun r => r.map (vw hp (n + 1))) = l.map eStrip := map_vw_rows (e := eStrip) hp (n + 1) (fun _ => rfl) l
mutual
theorem upV_zero : ∀ v : V, upV 0 v = v
  | .u | .b _ | .i _ | .z _ | .sl _ _ | .pa _ | .pn | .yl _ => by simp [upV]
  | .ad _ _ _ | .rf _ _ _ _ _ | .mp _ _ | .it _ _ => by simp [upV]
  | .ag cs | .tp cs | .fn _ cs => by simp only [upV, upL_zero cs]
  | .gv _ v => by simp only [upV, upV_zero v]
theorem upL_zero : ∀ vs : List V, upL 0 vs = vs
  | [] => rfl
  | v :: vs => by simp only [upL, upV_zero v, upL_zero vs]
end
theorem hpF_zero (hp : List Blk) : hpF 0 hp = hp := by
  have : (upB 0 : Blk → Blk) = id := by
    funext b; cases b <;> simp [upB, upL_zero]
  simp [hpF, this]
mutual
theorem shV_zero : ∀ v : V, shV 0 v = v
  | .u | .b _ | .i _ | .z _ | .sl _ _ | .pa _ | .pn | .yl _ => by simp [shV]
  | .ad _ _ _ | .rf _ _ _ _ _ | .mp _ _ | .it _ _ => by simp [shV]
  | .ag cs | .tp cs | .fn _ cs => by simp only [shV, shL_zero cs]
  | .gv _ v => by simp only [shV, shV_zero v]
theorem shL_zero : ∀ vs : List V, shL 0 vs = vs
  | [] => rfl
  | v :: vs => by simp only [shL, shV_zero v, shL_zero vs]
end
theorem shB_zero (hp : List Blk) : hp.map (shB 0) = hp := by
  have : (shB 0 : Blk → Blk) = id := by
    funext b; cases b <;> simp [shB, shL_zero]
  simp [this]
end Go.C02
set_option linter.unusedSimpArgs false
set_option linter.unusedVariables false
namespace Go.C02
open Go.Fam Go.Proofs
/-! The least cloth. -/
end Go.C02
set_option linter.unusedSimpArgs false
set_option linter.unusedVariables false
namespace Go.C02
open Go.Fam Go.Proofs Go.ChangeAt
variable {H : Type} {enc : TypeId × Value → H} {W : World}
end Go.C02
set_option linter.unusedSimpArgs false
set_option linter.unusedVariables false
namespace Go.C02
open Go.Fam Go.Proofs Go.ChangeAt
variable {H : Type} {enc : TypeId × Value → H} {W : World}
theorem rdAsk : Rd enc Try.prog W 54 (fun p : Int × Int => [.i p.1, .i p.2]) (fun p => inI p.1 ∧ inI p.2) :=
  (RdP.rd (fs := Try.prog.fieldsOf 54) (n := 2) (ps := [(3, 0), (3, 1)]) (by kernel_rfl) (by kernel_rfl) (by kernel_rfl)
    (rdP_cons (k := 1) (by kernel_rfl) rdInt (rdP_cons (k := 1) (by kernel_rfl) rdInt (rdP_nil (by decide))))).map (fun p => (p.1, p.2.1)) (fun _ => rfl) fun _ h => ⟨h.1, h.2.1⟩
theorem aAsk : RdV enc Try.prog W 54 (fun p : Int × Int => .ag [.i p.1, .i p.2]) (fun p => inI p.1 ∧ inI p.2) := rdAsk.agg (fs := Try.prog.fieldsOf 54) (by kernel_rfl)
end Go.C02
set_option linter.unusedSimpArgs false
set_option linter.unusedVariables false
namespace Go.C02
open Go.Fam Go.Proofs
/-! Copy, with all of its memory: the strips of each bolt are blocks, too. -/
def strM : List (List Strip) → List Blk
  | [] => []
  | l :: ss => .cells 1 (l.map eStrip).flatten :: .hole :: strM ss
theorem strM_len : ∀ ss : List (List Strip), (strM ss).length = 2 * ss.length
  | [] => rfl
  | l :: ss => by simp only [strM, List.length_cons, strM_len ss]; omega
theorem strM_snoc : ∀ (ss : List (List Strip)) (l : List Strip), strM (ss ++ [l]) = strM ss ++ [.cells 1 (l.map eStrip).flatten, .hole]
  | [], _ => rfl
  | x :: ss, l => by simp [strM, strM_snoc ss l]
theorem strM_get : ∀ (ss : List (List Strip)) (i : Nat) (l : List Strip), ss[i]? = some l → (strM ss)[2 * i]? = some (.cells 1 (l.map eStrip).flatten)
  | [], _, _, h => by simp at h
  | x :: ss, 0, l, h => by simp at h; subst h; rfl
  | x :: ss, i + 1, l, h => by
    rw [strM, show 2 * (i + 1) = 2 * i + 1 + 1 by omega, List.getElem?_cons_succ, List.getElem?_cons_succ]
    exact strM_get ss i l (by simpa using h)
def rowO (i : Nat) (b : Bolt) : List V := [.i b.stretch.low, .i b.stretch.high, .rf (2 * i + 1 + 1 + 1) 1 0 b.strips.length 3, .i b.wrong]
def rowsO : Nat → List Bolt → List (List V)
  | _, [] => []
  | i, b :: bs => rowO i b :: rowsO (i + 1) bs
theorem rowsO_len : ∀ (bs : List Bolt) (k : Nat), (rowsO k bs).length = bs.length
  | [], _ => rfl
  | b :: bs, k => by simp [rowsO, rowsO_len bs]
theorem rowsO_get : ∀ (bs : List Bolt) (k i : Nat), (rowsO k bs)[i]? = (bs[i]?).map (rowO (k + i))
  | [], _, _ => by simp [rowsO]
  | b :: bs, k, 0 => by simp [rowsO]
  | b :: bs, k, i + 1 => by
    simp only [rowsO, List.getElem?_cons_succ]
    rw [rowsO_get bs (k + 1) i, show k + 1 + i = k + (i + 1) by omega]
theorem rowsO_four {bs : List Bolt} {k : Nat} : ∀ r ∈ rowsO k bs, r.length = 4 := by
  intro r hr
  obtain ⟨i, hi⟩ := List.getElem?_of_mem hr
  rw [rowsO_get] at hi
  obtain ⟨b, _, rfl⟩ := Option.map_eq_some_iff.1 hi
  rfl
def rowsT (d : Dome) (i : Nat) : List (List V) := (rowsO 0 d.bolts).take i ++ (d.bolts.map eBolt).drop i
theorem rowsT_four (d : Dome) (i : Nat) : ∀ r ∈ rowsT d i, r.length = 4 := by
  intro r hr
  rcases List.mem_append.1 hr with h | h
  · exact rowsO_four r (List.mem_of_mem_take h)
  · obtain ⟨b, _, rfl⟩ := List.mem_map.1 (List.mem_of_mem_drop h); rfl
theorem rowsT_len (d : Dome) {i : Nat} (h : i ≤ d.bolts.length) : (rowsT d i).length = d.bolts.length := by
  simp only [rowsT, List.length_append, List.length_take, List.length_drop, rowsO_len, List.length_map]; omega
theorem rowsT_flat (d : Dome) {i : Nat} (h : i ≤ d.bolts.length) : (rowsT d i).flatten.length = d.bolts.length * 4 := by
  rw [flat_rows_len (k := 4) _ (rowsT_four d i), rowsT_len d h]
theorem rowsT_at {d : Dome} {i : Nat} {b : Bolt} (h : d.bolts[i]? = some b) : (rowsT d i)[i]? = some (eBolt b) := by
  have hi := getElemLt h
  have hl : ((rowsO 0 d.bolts).take i).length = i := by rw [List.length_take, rowsO_len]; omega
  rw [rowsT, List.getElem?_append_right (by omega), hl, Nat.sub_self, List.getElem?_drop, Nat.add_zero, List.getElem?_map, h]; rfl
theorem rowsT_put {d : Dome} {i : Nat} {b : Bolt} (h : d.bolts[i]? = some b) :
    List.take (i * 4 + 2) (rowsT d i).flatten ++ [V.rf (2 * i + 1 + 1 + 1) 1 0 b.strips.length 3] ++ List.drop (i * 4 + 2 + 1) (rowsT d i).flatten = (rowsT d (i + 1)).flatten := by
  have hi := getElemLt h
  rw [set_take (by rw [rowsT_flat d (by omega)]; omega), flat_set (k := 4) (m := 2) _ i (eBolt b) _ (rowsT_four d i) (rowsT_at h) (by decide)]
  congr 1
  have hl : ((rowsO 0 d.bolts).take i).length = i := by rw [List.length_take, rowsO_len]; omega
  have hx : (rowsO 0 d.bolts)[i]? = some (rowO i b) := by rw [rowsO_get, h, Nat.zero_add]; rfl
  rw [rowsT, List.set_append_right _ _ (by omega), hl, Nat.sub_self, rowsT, take_succ_of hx, List.drop_eq_getElem_cons (by simpa using hi), List.set_cons_zero, List.append_assoc]
  rfl
def stripsOf (d : Dome) : List (List Strip) := d.bolts.map (·.strips)
def ownCs (d : Dome) : List V := [.rf 2 1 0 d.bolts.length 4, .rf (2 * d.bolts.length + 1 + 1 + 1) 1 0 d.gores.length 1, .i d.loss, .rf (2 * d.bolts.length + 1 + 1 + 1 + 2) 1 0 d.rounds.length 2, .rf (2 * d.bolts.length + 1 + 1 + 1 + 4) 1 0 d.widths.length 1, .i d.slope]
def ownHp (d : Dome) (go : List Int) (ss : List (List Strip)) : List Blk :=
  .cells 0 (ownCs d) :: .cells 0 (ownCs d) :: .cells 1 (rowsO 0 d.bolts).flatten :: (strM ss ++ [.cells 1 (go.map eI).flatten, .hole, .cells 1 (d.rounds.map eSpan).flatten, .hole, .cells 1 (d.widths.map eI).flatten, .hole])
set_option maxRecDepth 20000 in
set_option maxHeartbeats 4000000 in
theorem O22n (d : Dome) (h : Ok22 d) : OwnCall Try.prog 22 [.ag (eDome d)] (.ag (ownCs d)) (ownHp d d.gores (stripsOf d)) := by
  refine own_body okP hmix Try.func22 cb22 N.cc22 cs22 cn22 ?_
  have hb := h.b
  have hg := h.g
  have hr := h.r
  have hw := h.w
  have f0 : fitsLen d.bolts.length := by unfold fitsLen; omega
  simp only [N.rc22, rs22, List.flatten_nil, f0, ru_reg, ru_seq, ru_block, ru_keep, putB, thenQ, run_nil, run_cons, Fam.step, stepQ, stepW, needW, putB, nv, sv, newsV, evO, opv, qv, ldV, curG, foldParts, putAt, partsOk, partsOne, V.cells, solid, cellOk, hasRef, hasRefL, upd_some, upd_none, lkp_cons, lkp_nil, ↓reduceIte, Nat.reduceEqDiff, Nat.reduceAdd, Nat.reduceMul, Nat.reduceLeDiff, List.map_cons, List.map_nil, List.all_cons, List.all_nil, List.length_cons, List.length_nil, List.drop_succ_cons, List.drop_zero, List.drop_nil, List.take_succ_cons, List.take_zero, List.take_nil, List.headD_cons, List.cons_append, List.nil_append, List.append_nil, List.getElem?_cons_zero, List.getElem?_cons_succ, List.set_cons_zero, List.set_cons_succ, List.replicate_zero, vw_i, vw_sl, vw_ag, zipA, beq_self_eq_true, Nat.zero_add, Nat.add_zero, Bool.and_self, Bool.or_false, Bool.false_eq_true, true_and, and_self, List.length_map, eDome]
  refine ru_count d.bolts.length (fun i => ⟨lkp [(1, .pa (eDome d)), (2, .ad 0 0 0), (3, .ad 1 0 0), (4, .i i)], .cells 0 [.z 4, .z 1, .i 0, .z 2, .z 1, .i 0] :: .cells 0 [.rf 2 1 0 d.bolts.length 4, .sl 1 (d.gores.map eI), .i d.loss, .sl 2 (d.rounds.map eSpan), .sl 1 (d.widths.map eI), .i d.slope] :: .cells 1 (rowsT d i).flatten :: strM ((stripsOf d).take i)⟩) ?_ ?_ ?_
  · simp only [Int.natCast_zero, rowsT, strM, kp, lkp_cons, lkp_nil, ↓reduceIte, Nat.reduceEqDiff, List.map_cons, List.map_nil, List.drop_zero, List.take_zero, List.nil_append, eDome]
  · intro i hi
    obtain ⟨x, hx⟩ : ∃ x, d.bolts[i]? = some x := ⟨_, List.getElem?_eq_getElem hi⟩
    have hlt : (i : Int) < d.bolts.length := by omega
    have h3 : inI ((i : Int) + 1) := by unfold inI; omega
    have hst : fitsLen x.strips.length := by have := h.s x (List.mem_of_getElem? hx); unfold fitsLen; omega
    have hfl := rowsT_flat d (i := i) (by omega)
    have hoff : i * 4 + 2 + 1 ≤ d.bolts.length * 4 := by omega
    have hput := rowsT_put hx
    have hl : (strM ((stripsOf d).take i)).length = 2 * i := by rw [strM_len, List.length_take, stripsOf, List.length_map]; omega
    have hsn : strM ((stripsOf d).take (i + 1)) = strM ((stripsOf d).take i) ++ [.cells 1 (x.strips.map eStrip).flatten, .hole] := by
      rw [take_succ_of (show (stripsOf d)[i]? = some x.strips by simp [stripsOf, hx]), strM_snoc]
    have g0 : ∀ a b, (strM ((stripsOf d).take i) ++ [a, b])[2 * i]? = some a := fun a b => by rw [← hl, List.getElem?_append_right (Nat.le_refl _), Nat.sub_self]; rfl
    have s0 : ∀ a b c, (strM ((stripsOf d).take i) ++ [a, b]).set (2 * i) c = strM ((stripsOf d).take i) ++ [c, b] := fun a b c => by rw [← hl, List.set_append_right _ _ (Nat.le_refl _), Nat.sub_self]; rfl
    simp only [hx, hlt, Int.natCast_add, Int.natCast_one, h3, List.flatten_nil, hfl, hst, hoff, hl, hsn, g0, s0, hput, ru_skip, ru_reg, ru_any, ru_seq, ru_cnd, ru_block, ru_keep, putBs, optL, thenQ, blockQ, run_nil, run_cons, Fam.step, stepQ, needW, runX, eff, nextD, fpR, fpQ, fpV, disjB, hits, nv, sv, newsV, evO, opv, qv, binV, ldV, iadV, lenV, curG, foldParts, putAt, partsOk, partsOne, V.cells, solid, cellOk, kp, upd_some, upd_none, lkp_cons, lkp_nil, ↓reduceIte, Nat.reduceEqDiff, Nat.reduceAdd, Nat.reduceMul, Nat.reduceLeDiff, List.map_cons, List.map_nil, List.all_cons, List.all_nil, List.length_cons, List.length_nil, List.drop_succ_cons, List.drop_zero, List.headD_cons, List.cons_append, List.nil_append, List.getElem?_cons_zero, List.getElem?_cons_succ, List.getElem?_nil, Option.getD_some, Option.getD_none, List.set_cons_zero, List.set_cons_succ, List.replicate_zero, List.replicate_succ, List.isEmpty_nil, List.isEmpty_cons, Int.natCast_nonneg, beq_self_eq_true, Nat.zero_add, Nat.add_zero, Bool.and_self, Bool.and_true, Bool.true_and, Bool.false_and, Bool.and_false, Bool.or_false, Bool.false_or, Bool.not_true, Bool.not_false, Bool.false_eq_true, decide_true, true_and, and_true, and_self, Option.map_some, List.any_cons, List.any_nil, List.contains_cons, List.contains_nil, Bool.not_eq_true', List.length_map, Int.toNat_natCast, List.getD_eq_getElem?_getD, List.getElem?_map, eBolt, eDome]
    exact beq_eq_false_iff_ne.2 (by omega)
  · have hgt : ¬ ((d.bolts.length : Int) < d.bolts.length) := by omega
    have hta : (stripsOf d).take d.bolts.length = stripsOf d := List.take_of_length_le (by simp [stripsOf])
    have hl : (strM (stripsOf d)).length = 2 * d.bolts.length := by rw [strM_len, stripsOf, List.length_map]
    have hro : rowsT d d.bolts.length = rowsO 0 d.bolts := by
      unfold rowsT
      rw [List.take_of_length_le (by rw [rowsO_len]; exact Nat.le_refl _), List.drop_of_length_le (by simp), List.append_nil]
    have gk : ∀ (L : List Blk) (k : Nat), (strM (stripsOf d) ++ L)[2 * d.bolts.length + k]? = L[k]? := fun L k => by rw [← hl, List.getElem?_append_right (by omega), Nat.add_sub_cancel_left]
    have sk : ∀ (L : List Blk) (k : Nat) (x : Blk), (strM (stripsOf d) ++ L).set (2 * d.bolts.length + k) x = strM (stripsOf d) ++ L.set k x := fun L k x => by rw [← hl, List.set_append_right _ _ (by omega), Nat.add_sub_cancel_left]
    have f1 : fitsLen d.gores.length := by unfold fitsLen; omega
    have f2 : fitsLen d.rounds.length := by unfold fitsLen; omega
    have f3 : fitsLen d.widths.length := by unfold fitsLen; omega
    have g0 : ∀ (L : List Blk), (strM (stripsOf d) ++ L)[2 * d.bolts.length]? = L[0]? := fun L => gk L 0
    have s0 : ∀ (L : List Blk) (x : Blk), (strM (stripsOf d) ++ L).set (2 * d.bolts.length) x = strM (stripsOf d) ++ L.set 0 x := fun L x => sk L 0 x
    simp only [Nat.add_assoc, Nat.reduceBeqDiff, g0, s0, hgt, hta, hl, hro, gk _ 2, gk _ 4, sk _ 2, sk _ 4, f1, f2, f3, List.flatten_nil, ru_reg, ru_any, ru_seq, ru_cnd, ru_exit, ru_ret, ru_keep, putBs, optL, putB, endO, thenQ, blockQ, run_nil, run_cons, Fam.step, stepQ, stepW, needW, runX, eff, nextD, fpR, fpQ, fpV, disjB, hits, putB, nv, sv, newsV, evO, opv, qv, binV, ldV, lenV, curG, foldParts, putAt, partsOk, partsOne, V.cells, solid, cellOk, upd_some, upd_none, lkp_cons, lkp_nil, ↓reduceIte, Nat.reduceEqDiff, Nat.reduceAdd, Nat.reduceMul, Nat.reduceLeDiff, List.map_cons, List.map_nil, List.all_cons, List.all_nil, List.length_cons, List.length_nil, List.drop_succ_cons, List.drop_zero, List.drop_nil, List.take_succ_cons, List.take_zero, List.take_nil, List.headD_cons, List.cons_append, List.nil_append, List.append_nil, List.getElem?_cons_zero, List.getElem?_cons_succ, List.getElem?_nil, Option.getD_some, Option.getD_none, List.set_cons_zero, List.set_cons_succ, List.replicate_zero, List.replicate_succ, List.isEmpty_nil, List.isEmpty_cons, rvs, rv1, resV, beq_self_eq_true, Nat.zero_add, Nat.add_zero, Bool.and_self, Bool.and_true, Bool.true_and, Bool.false_and, Bool.and_false, Bool.or_false, Bool.false_or, Bool.not_true, Bool.not_false, Bool.false_eq_true, decide_false, true_and, and_self, List.any_cons, List.any_nil, List.contains_cons, List.contains_nil, List.length_map, List.getD_eq_getElem?_getD, eDome]
    exact ⟨by simp, by simp, rfl, rfl⟩
theorem strM_vB : ∀ ss : List (List Strip), ((strM ss).map bV).map vB = strM ss
  | [] => rfl
  | l :: ss => by simp only [strM, List.map_cons, strM_vB ss, vB_cells, hole_vb]
theorem own_vB (d : Dome) (go : List Int) (ss : List (List Strip)) : ((ownHp d go ss).map bV).map vB = ownHp d go ss := by
  simp only [ownHp, List.map_cons, List.map_append, List.map_nil, strM_vB, vB_cells, hole_vb]
def r22n : List V → Prop × V := fnG (fun d => [.ag (eDome d)]) dD Ok22 (fun d => d) (fun d => .tp [.ag (ownCs d), .tp ((ownHp d d.gores (stripsOf d)).map bV)])
noncomputable def GC1 : Gam := GB1.ext 1000022 r22n
theorem okC1 : GOk Try.prog GC1 := by
  refine okB1.extO (f := 22) (r := r22n) (fun a w => Try.call22 a w) fun vs r' bs h1 h2 => ?_
  simp only [r22n, fnG, V.tp.injEq, List.cons.injEq, and_true] at h1 h2
  obtain ⟨rfl, rfl⟩ := h2
  rw [← h1.1, own_vB]
  simp only [dD, dDome_e]
  rw [← h1.1] at h1
  exact O22n _ (by simpa [dD, dDome_e] using h1.2)
section
variable (b : List Bolt) (g : List Int) (l : Int) (r : List Span) (w : List Int) (s n m : Int) (x y : List Int)
theorem gC22o : GC1 1000022 [.ag [.sl 4 (b.map eBolt), .sl 1 (g.map eI), .i l, .sl 2 (r.map eSpan), .sl 1 (w.map eI), .i s]] = (Ok22 ⟨b, g, l, r, w, s⟩, .tp [.ag (ownCs ⟨b, g, l, r, w, s⟩), .tp ((ownHp ⟨b, g, l, r, w, s⟩ g (stripsOf ⟨b, g, l, r, w, s⟩)).map bV)]) :=
  (show GC1 1000022 _ = r22n [.ag (eDome ⟨b, g, l, r, w, s⟩)] from rfl).trans (fnG_at (e := fun d => [.ag (eDome d)]) _ (dDome_e _))
theorem gC15 : GC1 15 [.ag [.sl 4 (b.map eBolt), .sl 1 (g.map eI), .i l, .sl 2 (r.map eSpan), .sl 1 (w.map eI), .i s], .i n] = (True, .b (ready ⟨b, g, l, r, w, s⟩ n)) := gT15 b g l r w s n
theorem gC16 : GC1 16 [] = (True, .b true) := gS16
theorem gC17 : GC1 17 [.ag [.sl 4 (b.map eBolt), .sl 1 (g.map eI), .i l, .sl 2 (r.map eSpan), .sl 1 (w.map eI), .i s], .i n] = (r.length < 1000, eNE (tightR ⟨b, g, l, r, w, s⟩ n)) := gR17 b g l r w s n
theorem gC19 : GC1 19 [.ag [.sl 4 (b.map eBolt), .sl 1 (g.map eI), .i l, .sl 2 (r.map eSpan), .sl 1 (w.map eI), .i s], .i n] = (r.length < 1000, eSE (cutR ⟨b, g, l, r, w, s⟩ n)) := gR19 b g l r w s n
theorem gC23 : GC1 23 [.ag [.sl 4 (b.map eBolt), .sl 1 (g.map eI), .i l, .sl 2 (r.map eSpan), .sl 1 (w.map eI), .i s], .i n] = (r.length < 1000, eSE (roundR ⟨b, g, l, r, w, s⟩ n)) := gR23 b g l r w s n
theorem gC36 : GC1 36 [.ag [.sl 4 (b.map eBolt), .sl 1 (g.map eI), .i l, .sl 2 (r.map eSpan), .sl 1 (w.map eI), .i s], .i n] = (b.length < 1000, eLE (stretchesR ⟨b, g, l, r, w, s⟩ n)) := gR36 b g l r w s n
theorem gC37 : GC1 37 [.sl 1 (x.map eI), .i n] = (x.length < 10000000, .b (decide (n ∈ x))) := gR37 x n
theorem gC39 : GC1 39 [.ag [.sl 4 (b.map eBolt), .sl 1 (g.map eI), .i l, .sl 2 (r.map eSpan), .sl 1 (w.map eI), .i s]] = (True, .i (check ⟨b, g, l, r, w, s⟩)) := gR39 b g l r w s
end
/-- what a dome's cells say, wherever its blocks lie -/
structure OwnAt (hp : List Blk) (bs : List Bolt) (gen : Nat → Nat) (go : List Int) (rs : List Span) (ws : List Int) : Prop where
  b : ∃ rows : List (List V), hp[2]? = some (.cells 1 rows.flatten) ∧ (∀ r ∈ rows, r.length = 4) ∧ rows.length = bs.length ∧
    ∀ (i : Nat) (b : Bolt), bs[i]? = some b → rows[i]? = some [.i b.stretch.low, .i b.stretch.high, .rf (2 * i + 3) (gen i) 0 b.strips.length 3, .i b.wrong]
  s : ∀ (i : Nat) (b : Bolt), bs[i]? = some b → hp[2 * i + 3]? = some (.cells (gen i) (b.strips.map eStrip).flatten)
  g : hp[2 * bs.length + 3]? = some (.cells 1 (go.map eI).flatten)
  r : hp[2 * bs.length + 5]? = some (.cells 1 (rs.map eSpan).flatten)
  w : hp[2 * bs.length + 7]? = some (.cells 1 (ws.map eI).flatten)
theorem own_view {hp : List Blk} {bs : List Bolt} {gen : Nat → Nat} {go : List Int} {rs : List Span} {ws : List Int} (h : OwnAt hp bs gen go rs ws) {k : Nat} {l s : Int}
    (hk : hp[k]? = some (.cells 0 [.rf 2 1 0 bs.length 4, .rf (2 * bs.length + 3) 1 0 go.length 1, .i l, .rf (2 * bs.length + 5) 1 0 rs.length 2, .rf (2 * bs.length + 7) 1 0 ws.length 1, .i s])) :
    vw hp 8 (.ad k 0 0) = .pa (eDome ⟨bs, go, l, rs, ws, s⟩) := by
  obtain ⟨rows, h2, h4, hl, hrows⟩ := h.b
  have hch := chunk_rowsF (k := 4) rows h4
  rw [hl] at hch
  have e1 : rows.map (fun r => r.map (vw hp 6)) = bs.map eBolt := by
    apply List.ext_getElem?
    intro i
    rw [List.getElem?_map, List.getElem?_map]
    by_cases hi : i < bs.length
    · obtain ⟨b, hb⟩ : ∃ b, bs[i]? = some b := ⟨_, List.getElem?_eq_getElem hi⟩
      rw [hrows i b hb, hb]
      have hs := h.s i b hb
      have hsl := flat_len (e := eStrip) (k := 3) (fun _ => rfl) b.strips
      simp only [Option.map_some, List.map_cons, List.map_nil, vw_i, vw_rf, hs, hsl, Nat.zero_add, Nat.le_refl, and_self, if_true, chunk_flat (e := eStrip) (k := 3) (fun _ => rfl), vw_St]
      rfl
    · rw [List.getElem?_eq_none (by omega), List.getElem?_eq_none (by omega)]; rfl
  have hfl := flat_rows_len (k := 4) rows h4
  rw [hl] at hfl
  simp only [vw_ad, hk, if_true, List.drop_zero, List.map_cons, List.map_nil, vw_i, vw_rf, h2, h.g, h.r, h.w, hfl, len_I, len_S, Nat.zero_add, Nat.mul_one, Nat.le_refl, and_self, hch, e1, chunk_I, chunk_flat (e := eSpan) (k := 2) (fun _ => rfl), vw_I, vw_S]
  rfl
theorem drp_own {Γ : Gam} {E : TypeId → Nat → Prop} {a : RC} {Q : Exit → St → Prop} {HP : List Blk} {l l' : List (Nat × V)} (h : l.map (fun p => (p.1, cutV HP 0 p.2)) = l') (h2 : wpR Γ E a Q ⟨lkp l', []⟩) : wpR Γ E (.drp 0 a) Q ⟨lkp l, HP⟩ := by
  rw [ru_drp]
  have e1 : (fun t => cutV HP 0 (lkp l t)) = lkp l' := by rw [← h]; exact cut_lkp ..
  have e2 : cutH 0 HP = [] := by simp [cutH]
  show wpR Γ E a Q ⟨fun t => cutV HP 0 (lkp l t), cutH 0 HP⟩
  rw [e1, e2]
  exact h2
end Go.C02
