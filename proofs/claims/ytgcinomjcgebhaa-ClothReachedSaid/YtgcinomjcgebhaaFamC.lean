import Derived.Test.YtgcinomjcgebhaaFam15
set_option linter.all false
/- Maps from a number to a count: what lies in them when some numbers have been counted. -/
namespace Go.Fam
variable {Γ : Gam} {E : TypeId → Nat → Prop} {Q : Exit → St → Prop} {σ : St}

theorem RelCall.mono {P : Program} {f : FuncId} {args : List V} {R R' : V → List Blk → Prop} (h : RelCall P f args R) (hr : ∀ r hp, R r hp → R' r hp) : RelCall P f args R' := fun S w cargs h1 h2 h3 =>
  Calls.mono (h S w cargs h1 h2 h3) fun e w' ⟨c, S', O', r, hp, he, hR, hx⟩ => ⟨c, S', O', r, hp, he, hr _ _ hR, hx⟩

/-- a range over a map, where the state has something that is not determined -/
theorem ru_rangeE {α : Type} {l : List Nat} {d : Option Nat} {a : RC} (n : Nat) (S : List Nat → α → St) (C : List Nat → α → Prop) (x0 : α) (h0 : kp l d σ = S [] x0) (c0 : C [] x0)
    (hs : ∀ pre x, pre.Nodup → (∀ j ∈ pre, j < n) → C pre x → wpR Γ E a (thenQ (fun σ'' => ∃ j y, j ∈ leftN n pre ∧ C (pre ++ [j]) y ∧ kp l d σ'' = S (pre ++ [j]) y) Q) (S pre x)) : wpR Γ E (.loop l d a) Q σ := by
  refine ru_loop (fun k σ => ∃ (pre : List Nat) (x : α), pre.Nodup ∧ (∀ j ∈ pre, j < n) ∧ k = n - pre.length ∧ C pre x ∧ σ = S pre x) ⟨n, [], x0, List.nodup_nil, (by simp), by simp, c0, h0⟩ ?_
  rintro k _ ⟨pre, x, hnd, hlt, rfl, hc, rfl⟩
  refine wpR_mono _ _ _ _ (fun e σ he => ?_) (hs pre x hnd hlt hc)
  cases e <;> first | exact he | skip
  obtain ⟨j, y, hj, hc', hk⟩ := he
  obtain ⟨hjn, hjp⟩ := mem_leftN.1 hj
  have hnd' : (pre ++ [j]).Nodup := by
    rw [List.nodup_append]
    exact ⟨hnd, by simp, fun a ha b hb => by simp at hb; subst hb; rintro rfl; exact hjp ha⟩
  have hlt' : ∀ i ∈ pre ++ [j], i < n := by
    intro i hi
    rcases List.mem_append.1 hi with hi | hi
    · exact hlt i hi
    · simp at hi; omega
  have := nodup_len hnd' hlt'
  rw [List.length_append, List.length_singleton] at this
  exact ⟨n - (pre ++ [j]).length, by simp; omega, pre ++ [j], y, hnd', hlt', rfl, hc', hk⟩

/-- the keys of a map that has counted some numbers, in the order in which they came -/
def cmKs (xs : List Int) : List (List Int) := xs.foldl (fun ks x => putK ks [x]) []
def cmVs (xs : List Int) : List V := (cmKs xs).map fun k => .i (xs.count (k.headD 0))
def cm (xs : List Int) : Blk := .map false (cmKs xs) (cmVs xs)
theorem cmKs_snoc (xs : List Int) (x : Int) : cmKs (xs ++ [x]) = putK (cmKs xs) [x] := by simp [cmKs]
theorem list_snoc_ind {α : Type} {p : List α → Prop} (h0 : p []) (hs : ∀ l x, p l → p (l ++ [x])) (l : List α) : p l := by
  have : ∀ r : List α, p r.reverse := by
    intro r
    induction r with
    | nil => exact h0
    | cons x r ih => rw [List.reverse_cons]; exact hs _ _ ih
  simpa using this l.reverse
theorem mem_putK {ks : List (List Int)} {l k : List Int} : k ∈ putK ks l ↔ k ∈ ks ∨ k = l := by
  unfold putK
  split
  · rename_i h
    constructor
    · exact .inl
    · rintro (h' | rfl) <;> assumption
  · simp
theorem putK_len {ks : List (List Int)} {l : List Int} : (putK ks l).length ≤ ks.length + 1 := by
  unfold putK
  split <;> simp
theorem mem_cmKs (xs : List Int) : ∀ k, k ∈ cmKs xs ↔ ∃ x, x ∈ xs ∧ k = [x] := by
  refine list_snoc_ind (p := fun xs => ∀ k, k ∈ cmKs xs ↔ ∃ x, x ∈ xs ∧ k = [x]) (by simp [cmKs]) (fun l x ih k => ?_) xs
  rw [cmKs_snoc, mem_putK, ih]
  simp only [List.mem_append, List.mem_singleton]
  constructor
  · rintro (⟨y, hy, rfl⟩ | rfl)
    · exact ⟨y, .inl hy, rfl⟩
    · exact ⟨x, .inr rfl, rfl⟩
  · rintro ⟨y, hy | rfl, rfl⟩
    · exact .inl ⟨y, hy, rfl⟩
    · exact .inr rfl
theorem cmKs_nodup (xs : List Int) : (cmKs xs).Nodup :=
  list_snoc_ind (p := fun xs => (cmKs xs).Nodup) (by simp [cmKs]) (fun l x ih => by rw [cmKs_snoc]; exact putK_nodup ih) xs
theorem cmKs_len (xs : List Int) : (cmKs xs).length ≤ xs.length :=
  list_snoc_ind (p := fun xs => (cmKs xs).length ≤ xs.length) (by simp [cmKs]) (fun l x ih => by rw [cmKs_snoc]; have := putK_len (ks := cmKs l) (l := [x]); simp; omega) xs
theorem cmVs_len (xs : List Int) : (cmVs xs).length = (cmKs xs).length := by simp [cmVs]
theorem idxOf_get {ks : List (List Int)} {l : List Int} (h : l ∈ ks) : ks[ks.idxOf l]? = some l := by
  have hl := List.idxOf_lt_length_iff.2 h
  rw [List.getElem?_eq_getElem hl, List.getElem_idxOf hl]
theorem cm_get (xs : List Int) (x : Int) : ((cmVs xs)[(cmKs xs).idxOf [x]]?).getD (.i 0) = .i (xs.count x) := by
  unfold cmVs
  by_cases h : [x] ∈ cmKs xs
  · rw [List.getElem?_map, idxOf_get h]; rfl
  · have hx : x ∉ xs := fun hx => h ((mem_cmKs xs _).2 ⟨x, hx, rfl⟩)
    have : (cmKs xs).idxOf [x] = (cmKs xs).length := List.idxOf_eq_length h
    rw [this, List.getElem?_eq_none (by simp), List.count_eq_zero.2 hx]; rfl
theorem cm_put (xs : List Int) (x : Int) : putVs (cmKs xs) (cmVs xs) [x] (.i ((xs.count x : Int) + 1)) = cmVs (xs ++ [x]) := by
  have hone : ∀ k ∈ cmKs xs, k = [k.headD 0] := by
    intro k hk
    obtain ⟨y, _, rfl⟩ := (mem_cmKs xs k).1 hk
    rfl
  have hne : ∀ k ∈ cmKs xs, k ≠ [x] → (xs ++ [x]).count (k.headD 0) = xs.count (k.headD 0) := by
    intro k hk hkx
    have : k.headD 0 ≠ x := fun e => hkx (by rw [hone k hk, e])
    have hc : [x].count (k.headD 0) = 0 := List.count_eq_zero.2 (by simpa using this)
    rw [List.count_append, hc, Nat.add_zero]
  have hx : (xs ++ [x]).count x = xs.count x + 1 := by simp
  unfold putVs cmVs
  rw [cmKs_snoc]
  unfold putK
  split
  · rename_i h
    apply List.ext_getElem?
    intro i
    rw [List.getElem?_set]
    by_cases hi : (cmKs xs).idxOf [x] = i
    · subst hi
      rw [if_pos rfl, if_pos (by rw [List.length_map]; exact List.idxOf_lt_length_iff.2 h), List.getElem?_map, idxOf_get h]
      simp
    · rw [if_neg hi, List.getElem?_map, List.getElem?_map]
      cases hk : (cmKs xs)[i]? with
      | none => rfl
      | some k =>
        have hne' : k ≠ [x] := by
          rintro rfl
          have hil := getElemLt hk
          exact hi (by
            have := (cmKs_nodup xs).idxOf_getElem i hil
            rw [List.getElem?_eq_getElem hil] at hk
            rw [← this, Option.some.inj hk])
        simp only [Option.map_some]
        rw [hne k (List.mem_of_getElem? hk) hne']
  · rename_i h
    rw [List.map_append]
    congr 1
    · apply List.map_congr_left
      intro k hk
      rw [hne k hk (fun e => h (e ▸ hk))]
    · simp
theorem cm_nil : cm [] = .map false [] [] := rfl
theorem cm_putB (xs : List Int) (x : Int) : Blk.map false (putK (cmKs xs) [x]) (putVs (cmKs xs) (cmVs xs) [x] (.i ((xs.count x : Int) + 1))) = cm (xs ++ [x]) := by
  rw [cm_put, ← cmKs_snoc]; rfl
mutual
theorem renV_noref (f : Nat → Nat) : ∀ v : V, hasRef v = false → renV f v = v
  | .u, _ | .b _, _ | .i _, _ | .z _, _ | .sl _ _, _ | .pa _, _ | .pn, _ | .yl _, _ => by simp [renV]
  | .ag cs, h | .tp cs, h => by simp only [hasRef] at h; simp only [renV, renL_noref f cs h]
  | .fn g cs, h => by simp only [hasRef] at h; simp only [renV, renL_noref f cs h]
  | .gv q v, h => by simp only [hasRef] at h; simp only [renV, renV_noref f v h]
  | .ad _ _ _, h | .rf _ _ _ _ _, h | .mp _ _, h | .it _ _, h => by simp [hasRef] at h
theorem renL_noref (f : Nat → Nat) : ∀ vs : List V, hasRefL vs = false → renL f vs = vs
  | [], _ => rfl
  | v :: vs, h => by
    simp only [hasRefL, Bool.or_eq_false_iff] at h
    simp only [renL, renV_noref f v h.1, renL_noref f vs h.2]
end
mutual
theorem shV_noref (f : Nat) : ∀ v : V, hasRef v = false → shV f v = v
  | .u, _ | .b _, _ | .i _, _ | .z _, _ | .sl _ _, _ | .pa _, _ | .pn, _ | .yl _, _ => by simp [shV]
  | .ag cs, h | .tp cs, h => by simp only [hasRef] at h; simp only [shV, shL_noref f cs h]
  | .fn g cs, h => by simp only [hasRef] at h; simp only [shV, shL_noref f cs h]
  | .gv q v, h => by simp only [hasRef] at h; simp only [shV, shV_noref f v h]
  | .ad _ _ _, h | .rf _ _ _ _ _, h | .mp _ _, h | .it _ _, h => by simp [hasRef] at h
theorem shL_noref (f : Nat) : ∀ vs : List V, hasRefL vs = false → shL f vs = vs
  | [], _ => rfl
  | v :: vs, h => by
    simp only [hasRefL, Bool.or_eq_false_iff] at h
    simp only [shL, shV_noref f v h.1, shL_noref f vs h.2]
end
theorem noref_cm (xs : List Int) : hasRefL (cmVs xs) = false := by
  unfold cmVs
  generalize cmKs xs = ks
  induction ks with
  | nil => rfl
  | cons k ks ih => rw [List.map_cons]; simp only [hasRefL, hasRef, ih]; rfl
theorem cmKs_get {xs : List Int} {j : Nat} (h : j < (cmKs xs).length) : ∃ x, x ∈ xs ∧ (cmKs xs)[j]? = some [x] ∧ (cmVs xs)[j]? = some (.i (xs.count x)) := by
  have hj : (cmKs xs)[j]? = some ((cmKs xs)[j]) := List.getElem?_eq_getElem h
  obtain ⟨x, hx, e⟩ := (mem_cmKs xs _).1 (List.getElem_mem h)
  rw [e] at hj
  exact ⟨x, hx, hj, by unfold cmVs; rw [List.getElem?_map, hj]; rfl⟩
theorem sum_add (f g : List Int → Int) : ∀ ks : List (List Int), (ks.map fun k => f k + g k).sum = (ks.map f).sum + (ks.map g).sum
  | [] => rfl
  | k :: ks => by simp only [List.map_cons, List.sum_cons, sum_add f g ks]; omega
theorem sum_one (x F : Int) : ∀ ks : List (List Int), ks.Nodup → (∀ k ∈ ks, k = [k.headD 0]) → (ks.map fun k => if k.headD 0 = x then F else 0).sum = if [x] ∈ ks then F else 0
  | [], _, _ => by simp
  | k :: ks, hn, h1 => by
    rw [List.nodup_cons] at hn
    have ih := sum_one x F ks hn.2 fun k' hk' => h1 k' (by simp [hk'])
    have hk := h1 k (by simp)
    rw [List.map_cons, List.sum_cons, ih]
    by_cases e : k.headD 0 = x
    · have e' : k = [x] := by rw [hk, e]
      have : [x] ∉ ks := e' ▸ hn.1
      simp [e', this]
    · have : k ≠ [x] := fun e' => e (by rw [e']; rfl)
      have h2 : ([x] ∈ k :: ks) ↔ [x] ∈ ks := by simp [this.symm]
      simp only [if_neg e, h2, Int.zero_add]
theorem cm_sum (F : Int → Int) (xs : List Int) : ((cmKs xs).map fun k => (xs.count (k.headD 0) : Int) * F (k.headD 0)).sum = (xs.map F).sum := by
  refine list_snoc_ind (p := fun xs => ((cmKs xs).map fun k => (xs.count (k.headD 0) : Int) * F (k.headD 0)).sum = (xs.map F).sum) rfl (fun l x ih => ?_) xs
  have hone : ∀ k ∈ cmKs (l ++ [x]), k = [k.headD 0] := by
    intro k hk
    obtain ⟨y, _, rfl⟩ := (mem_cmKs _ k).1 hk
    rfl
  have hterm : ∀ k : List Int, (((l ++ [x]).count (k.headD 0) : Nat) : Int) * F (k.headD 0) = (l.count (k.headD 0) : Int) * F (k.headD 0) + if k.headD 0 = x then F x else 0 := by
    intro k
    by_cases e : k.headD 0 = x
    · rw [e, List.count_append, if_pos rfl, List.count_singleton_self, Int.natCast_add, Int.add_mul]; simp
    · have hc : [x].count (k.headD 0) = 0 := List.count_eq_zero.2 (by simpa using e)
      rw [List.count_append, hc, if_neg e]; simp
  simp only [hterm]
  rw [sum_add, sum_one x (F x) _ (cmKs_nodup _) hone, if_pos ((mem_cmKs _ _).2 ⟨x, by simp, rfl⟩), List.map_append, List.sum_append]
  have e2 : ((cmKs (l ++ [x])).map fun k => (l.count (k.headD 0) : Int) * F (k.headD 0)).sum = ((cmKs l).map fun k => (l.count (k.headD 0) : Int) * F (k.headD 0)).sum := by
    rw [cmKs_snoc]
    unfold putK
    split
    · rfl
    · rename_i hn
      have : l.count x = 0 := List.count_eq_zero.2 fun hx => hn ((mem_cmKs _ _).2 ⟨x, hx, rfl⟩)
      simp [this]
  rw [e2, ih]
  simp
end Go.Fam
