import Derived.Test.YtgcinomjcgebhaaFam11
set_option linter.all false
/- Regions: in the order of the text, and in any order. -/
namespace Go.Fam
/-- i is to be listed ahead of j -/
inductive Anc (ops : Array Oper) : Nat → Nat → Prop
  | base {i j : Nat} {o : Oper} {e : Edge} (ho : ops[j]? = some o) (he : e ∈ o.after) (hb : Region.binds .any e = true) (h : e.on = i) : Anc ops i j
  | step {i j : Nat} {o : Oper} {e : Edge} (ho : ops[j]? = some o) (he : e ∈ o.after) (hb : Region.binds .any e = true) (h : Anc ops i e.on) : Anc ops i j

theorem ext_drew (S : Nat → Prop) (w : World) (O : OInfo) : Ext S S w { w with drawn := w.drawn + 1 } O O :=
  ⟨fun _ h => ⟨h, rfl⟩, fun _ g ob h => ⟨g, ob, h, Nat.le_refl _, fun _ => ⟨rfl, fun _ cur _ _ hb => ⟨cur, hb, rfl⟩⟩⟩⟩
theorem evol_drew (S : Nat → Prop) (w : World) (O : OInfo) : Evol S S w { w with drawn := w.drawn + 1 } O O :=
  ⟨ext_drew S w O, rfl, rfl, rfl, Nat.le_refl _, fun _ => rfl, fun _ _ _ => rfl, fun _ h => .inl h, fun _ h => .inl h⟩
theorem mat_drew {S : Nat → Prop} {w : World} {O : OInfo} {hp : List Blk} (h : Mat S w O hp) : Mat S { w with drawn := w.drawn + 1 } O hp :=
  h.keep (ext_drew S w O) (Nat.le_refl _) (fun _ _ => rfl) h.lt fun k hk ⟨id, g, ho⟩ => (h.own id g k ho).2 hk

theorem disjB_symm {a b : FP} : disjB a b = disjB b a := by simp [disjB, Bool.and_comm]
theorem apartB_symm {a b : RO} (h : apartB a b = true) : apartB b a = true := by
  obtain ⟨h1, h2⟩ := apartB_spec h
  simp only [apartB, Bool.and_eq_true]
  refine ⟨?_, ?_⟩
  · cases hb : b.dst with
    | none => rfl
    | some d =>
      have h3 := h2 d hb
      have h4 : a.dst ≠ some d := fun h => (h1 d h).2 hb
      simp [h3, h4]
  · cases ha : a.dst with
    | none => rfl
    | some d => have := (h1 d ha).1; simp [this]

section
variable {P : Program} {F : Fence} {n : Nat} {Γ : Gam} {ops : Array Oper} {g : Bool} {base : Nat} {M : FrI} {N : Nat × Nat} {pu : List Nat}

theorem RunD.cons_split {x : Nat × RO × FP} {l : List (Nat × RO × FP)} {σ τ : St} (h : RunD Γ (EqFlat P) g base (x :: l) σ τ) :
    (eff Γ (EqFlat P) g base x.2.1 σ).1 ∧ RunD Γ (EqFlat P) g base l (nextD Γ (EqFlat P) g base x.2.1 σ) τ := by
  obtain ⟨k, o, f⟩ := x
  exact ⟨h.1, h.2.2⟩

theorem any_order (hG : GOk P Γ) (hF : OpenF F) (hg : g = false → ∀ o ∈ ops, o.guard = none) {Q : Exit → Act → World → Prop} {τ : St} :
    ∀ (fuel : Nat) (rest : List (Nat × RO × FP)) (listed : Array Bool) (σ : St) (S : Nat → Prop) (w : World) (O : OInfo) (a : Act),
      rest.length ≤ fuel →
      (∀ i, listed.getD i true = false ↔ ∃ x ∈ rest, x.1 = i) →
      rest.Pairwise (fun x y => x.1 < y.1 ∧ (Anc ops x.1 y.1 ∨ Indep x y)) →
      (∀ x ∈ rest, ∃ o, ops[x.1]? = some o ∧ resO P pu M.nm ops o = some { x.2.1 with nid := none } ∧ ∀ e ∈ o.after, Region.binds .any e = true → e.on < x.1) →
      (∀ i j, Anc ops i j → listed.getD j false = true → listed.getD i false = true) →
      (∀ i, i < ops.size → i < listed.size) →
      RunD Γ (EqFlat P) g base rest σ τ → SR M S w O σ a →
      (∀ S' w' O' a', Evol S S' w w' O O' → SR M S' w' O' τ a' → a'.defers = a.defers → Q .normal a' w') →
      wpAnyIn F n P .any ops Q fuel listed a w := by
  intro fuel
  induction fuel with
  | zero =>
    intro rest listed σ S w O a hf hl _ _ _ _ hrun hsr hK
    have hnil : rest = [] := List.eq_nil_of_length_eq_zero (by omega)
    subst hnil
    simp only [RunD] at hrun
    subst hrun
    refine ⟨?_, hK S w O a (Evol.refl _ _ _) hsr rfl⟩
    rw [List.eq_nil_iff_forall_not_mem]
    intro i hi
    rw [mem_ready] at hi
    obtain ⟨x, hx, _⟩ := (hl i).1 hi.1
    simp at hx
  | succ fuel ih =>
    intro rest listed σ S w O a hf hl hp hr hc hsz hrun hsr hK
    refine ⟨fun hnil => ?_, fun i hi => ?_⟩
    · cases rest with
      | nil =>
        simp only [RunD] at hrun
        subst hrun
        exact hK S w O a (Evol.refl _ _ _) hsr rfl
      | cons x rest =>
        exfalso
        obtain ⟨o, ho, _, hlt⟩ := hr x (by simp)
        have : x.1 ∈ Region.ready .any ops listed := by
          rw [mem_ready]
          refine ⟨(hl x.1).2 ⟨x, by simp, rfl⟩, o, ho, fun e he hb => ?_⟩
          have h1 := hlt e he hb
          have h2 : ¬ listed.getD e.on true = false := by
            rw [hl]
            rintro ⟨y, hy, hye⟩
            rcases List.mem_cons.1 hy with rfl | hy
            · omega
            · have := (List.rel_of_pairwise_cons hp hy).1; omega
          have h3 : x.1 < ops.size := (Array.getElem?_eq_some_iff.1 ho).1
          have h4 := hsz e.on (by omega)
          simp [h4] at h2 ⊢
          exact h2
        rw [hnil] at this
        simp at this
    · have hready := hi
      rw [mem_ready] at hi
      obtain ⟨h0, o, ho, hall⟩ := hi
      obtain ⟨x, hx, hxi⟩ := (hl i).1 h0
      subst hxi
      obtain ⟨A, B, rfl⟩ := List.append_of_mem hx
      obtain ⟨o', ho', hro, hlt⟩ := hr x (by simp)
      rw [ho] at ho'
      cases ho'
      have hpa := List.pairwise_append.1 hp
      have hpb := List.pairwise_cons.1 hpa.2.1
      have hind : ∀ y ∈ A, Indep y x := by
        intro y hy
        rcases (hpa.2.2 y hy x (by simp)).2 with h | h
        · exfalso
          have hy0 : listed.getD y.1 true = false := (hl y.1).2 ⟨y, by simp [hy], rfl⟩
          have hy1 : listed.getD y.1 false = true := by
            cases h with
            | base ho' he hb h =>
              rw [ho] at ho'; cases ho'
              rw [← h]
              exact hall _ he hb
            | step ho' he hb h =>
              rw [ho] at ho'; cases ho'
              exact hc _ _ h (hall _ he hb)
          cases hle : listed[y.1]? with
          | none => simp [hle] at hy0
          | some b => simp [hle] at hy0 hy1; simp_all
        · exact h
      have hmv := RunD.move A σ hrun hind
      obtain ⟨hok, hrest⟩ := hmv.cons_split
      obtain ⟨hs1, hs2⟩ := eff_step hok
      refine op_step hG hF ho hro (fun hgf => hg hgf o (Array.mem_of_getElem? ho)) hsr hs1 ?_
      intro S' w' O' a' hev hsr' hdef
      rw [hs2] at hsr'
      refine ih (A ++ B) (listed.setIfInBounds x.1 true) _ S' w' O' a' ?_ ?_ ?_ ?_ ?_ ?_ hrest hsr' ?_
      · simp at hf ⊢; omega
      · intro i
        by_cases hix : i = x.1
        · subst hix
          have hlt' : x.1 < listed.size := hsz _ (Array.getElem?_eq_some_iff.1 ho).1
          simp [hlt']
          intro k r
          refine ⟨fun hm => ?_, fun hm => ?_⟩
          · have := (hpa.2.2 _ hm x (by simp)).1; simp at this
          · have := (hpb.1 _ hm).1; simp at this
        · rw [getD_set_ne true (Ne.symm hix), hl]
          constructor
          · rintro ⟨y, hy, rfl⟩
            refine ⟨y, ?_, rfl⟩
            simp only [List.mem_append, List.mem_cons] at hy ⊢
            rcases hy with h | h | h
            · exact .inl h
            · subst h; exact absurd rfl hix
            · exact .inr h
          · rintro ⟨y, hy, rfl⟩
            exact ⟨y, by simp only [List.mem_append, List.mem_cons] at hy ⊢; rcases hy with h | h <;> simp [h], rfl⟩
      · refine List.Pairwise.sublist ?_ hp
        exact List.Sublist.append (List.Sublist.refl _) (List.sublist_cons_self _ _)
      · intro y hy
        refine hr y ?_
        simp only [List.mem_append, List.mem_cons] at hy ⊢
        rcases hy with h | h <;> simp [h]
      · intro i j hij hj
        by_cases hjx : j = x.1
        · subst hjx
          refine getD_set_true ?_
          cases hij with
          | base ho' he hb h =>
            rw [ho] at ho'; cases ho'
            rw [← h]
            exact hall _ he hb
          | step ho' he hb h =>
            rw [ho] at ho'; cases ho'
            exact hc _ _ h (hall _ he hb)
        · rw [getD_set_ne false (Ne.symm hjx)] at hj
          exact getD_set_true (hc i j hij hj)
      · intro i hi
        simpa using hsz i hi
      · intro S'' w'' O'' a'' hev' hsr'' hdef'
        exact hK S'' w'' O'' a'' (hev.trans hev') hsr'' (hdef'.trans hdef)

theorem RunD.gh : ∀ (l : List (Nat × RO × FP)) (σ τ : St) {y : List V × Option (List (List V))}, RunD Γ (EqFlat P) g base l σ τ → ghO σ.hp = some y → ghO τ.hp = some y
  | [], σ, τ, y, h, hy => by simp only [RunD] at h; subst h; exact hy
  | (k, o, f) :: l, σ, τ, y, h, hy => RunD.gh l _ _ h.2.2 (eff_gh h.1 hy)

/-! ### regions, resolved -/
structure AnyOp where
  o : RO
  js : List Nat
  an : List Nat

/-- a run in the text's order, with the footprints met -/
def runX (Γ : Gam) (E : TypeId → Nat → Prop) (g : Bool) (base : Nat) : List AnyOp → List FP → St → (St → Prop) → Prop
  | [], _, σ, K => K σ
  | x :: l, done, σ, K => (eff Γ E g base x.o σ).1 ∧ (x.js.all fun j => disjB (done.getD j ⟨none, []⟩) (fpR g base x.o σ)) = true ∧ runX Γ E g base l (done ++ [fpR g base x.o σ]) (nextD Γ E g base x.o σ) K

def RX.quiet : RX → Bool | .q _ => true | .w _ => false | .o _ _ => false

/-- the pairs that may change places are apart -/
def pairsB (l : List AnyOp) : Bool :=
  (List.range l.length).all fun j => match l[j]? with
    | none => true
    | some y => (List.range j).all fun i => match l[i]? with
      | none => true
      | some x => y.an.contains i || (apartB x.o y.o && (y.js.contains i || (x.o.x.quiet && y.o.x.quiet)))

/-- the lists of ancestors are sound, and the text's order is one of the orders -/
def ancB (ops : Array Oper) (l : List AnyOp) : Bool :=
  (List.range ops.size).all fun j => match ops[j]?, l[j]? with
    | some o, some y => (o.after.all fun e => !(Region.binds .any e) || decide (e.on < j)) &&
        y.an.all fun i => o.after.any fun e => Region.binds .any e && (e.on == i || match l[e.on]? with | some z => z.an.contains i | none => false)
    | _, _ => false

theorem ancB_spec {l : List AnyOp} (h : ancB ops l = true) : ∀ (j : Nat) (y : AnyOp), l[j]? = some y → j < ops.size → (∀ i ∈ y.an, Anc ops i j) ∧ ∀ o, ops[j]? = some o → ∀ e ∈ o.after, Region.binds .any e = true → e.on < j := by
  intro j
  induction j using Nat.strongRecOn with
  | _ j ih =>
    intro y hy hj
    have h1 := List.all_eq_true.1 h j (by simpa using hj)
    obtain ⟨o, ho⟩ : ∃ o, ops[j]? = some o := ⟨ops[j], by simp [hj]⟩
    simp only [ho, hy, Bool.and_eq_true] at h1
    have hlt : ∀ e ∈ o.after, Region.binds .any e = true → e.on < j := by
      intro e he hb
      have := Array.all_eq_true_iff_forall_mem.1 h1.1 e he
      simpa [hb] using this
    refine ⟨fun i hi => ?_, fun o' ho' => by rw [ho] at ho'; cases ho'; exact hlt⟩
    have h2 := List.all_eq_true.1 h1.2 i hi
    rw [Array.any_eq_true] at h2
    obtain ⟨k, hk, h3⟩ := h2
    simp only [Bool.and_eq_true, Bool.or_eq_true] at h3
    have hmem : o.after[k] ∈ o.after := Array.getElem_mem hk
    rcases h3.2 with h4 | h4
    · exact .base ho hmem h3.1 (by simpa using h4)
    · cases hz : l[(o.after[k]).on]? with
      | none => simp [hz] at h4
      | some z =>
        simp only [hz] at h4
        have hl := hlt _ hmem h3.1
        exact .step ho hmem h3.1 ((ih _ hl z hz (by omega)).1 i (by simpa using h4))

theorem runX_runD {l : List AnyOp} : ∀ (k : Nat) (done : List FP) (σ : St) (K : St → Prop), runX Γ (EqFlat P) g base l done σ K → k = done.length →
    ∃ fs : List FP, ∃ τ, fs.length = l.length ∧ RunD Γ (EqFlat P) g base ((List.range' k l.length).zip ((l.map (·.o)).zip fs)) σ τ ∧ K τ ∧
      ∀ q y f, l[q]? = some y → fs[q]? = some f → ∀ j ∈ y.js, disjB ((done ++ fs).getD j ⟨none, []⟩) f = true ∨ k + q ≤ j := by
  induction l with
  | nil => intro k done σ K h _; exact ⟨[], σ, rfl, (by simp [RunD]), h, by simp⟩
  | cons x l ih =>
    intro k done σ K h hk
    obtain ⟨h1, h2, h3⟩ := h
    obtain ⟨fs, τ, hl, hrun, hK, hd⟩ := ih (k + 1) _ _ _ h3 (by simp [hk])
    refine ⟨fpR g base x.o σ :: fs, τ, by simp [hl], ?_, hK, ?_⟩
    · simp only [List.length_cons, List.range'_succ, List.map_cons, List.zip_cons_cons, RunD]
      exact ⟨h1, trivial, hrun⟩
    · intro q y f hy hf j hj
      cases q with
      | zero =>
        simp at hy hf
        subst hy hf
        by_cases hjk : k ≤ j
        · exact .inr (by omega)
        · left
          have := List.all_eq_true.1 h2 j hj
          have hlt : j < done.length := by omega
          simpa [List.getElem?_append_left hlt] using this
      | succ q =>
        simp at hy hf
        have := hd q y f hy hf j hj
        rcases this with h | h
        · left; simpa using h
        · right; omega

theorem RunD.quiet : ∀ (l : List (Nat × RO × FP)) (σ τ : St), RunD Γ (EqFlat P) g base l σ τ → ∀ x ∈ l, x.2.1.x.quiet = true → x.2.2.wr = []
  | [], _, _, _ => by simp
  | (k, o, f) :: l, σ, τ, h => by
    intro x hx hq
    obtain ⟨_, h2, h3⟩ := h
    rcases List.mem_cons.1 hx with rfl | hx
    · simp only at hq ⊢
      rw [← h2]
      unfold fpR
      cases ho : o.x with
      | q q => rfl
      | w q => rw [ho] at hq; cases hq
      | o f xs => rfl
    · exact RunD.quiet l _ _ h3 x hx hq

def AnyOps (P : Program) (pu : List Nat) (N : Nat × Nat) (ops : Array Oper) (l : List AnyOp) : Prop :=
  ops.toList.map (fun o => resO P pu N ops o) = l.map fun x => some { x.o with nid := none }

theorem region_any (hG : GOk P Γ) (hF : OpenF F) (hm : P.follows .mixedOrders = true) {l : List AnyOp} (hl : AnyOps P pu M.nm ops l) (hp : pairsB l = true) (ha : ancB ops l = true)
    (hg : g = false → ∀ o ∈ ops, o.guard = none) {Q : Exit → Act → World → Prop} {σ : St} {S : Nat → Prop} {w : World} {O : OInfo} {a : Act} {K : St → Prop} {id : Nat}
    (hrun : runX Γ (EqFlat P) g base l [] σ K) (hsr : SR M S w O σ a)
    (hK : ∀ τ S' w' O' a', K τ → (∀ y, ghO σ.hp = some y → ghO τ.hp = some y) → Evol S S' w w' O O' → SR M S' w' O' τ a' → a'.defers = a.defers → Q .normal a' w') : (Code.region id ops true).wpIn F n P Q a w := by
  obtain ⟨fs, τ, hfs, hr, hKτ, hd⟩ := runX_runD 0 [] σ K hrun rfl
  have hlen : l.length = ops.size := by
    have := congrArg List.length hl
    simpa using this.symm
  refine wpIn_region_any hm ?_
  have hget : ∀ x ∈ (List.range' 0 l.length).zip ((l.map (·.o)).zip fs), ∃ y, l[x.1]? = some y ∧ y.o = x.2.1 ∧ fs[x.1]? = some x.2.2 := by
    rintro ⟨i, o, f⟩ hx
    obtain ⟨q, hq⟩ := List.getElem?_of_mem hx
    rw [List.getElem?_zip_eq_some] at hq
    obtain ⟨q1, q2⟩ := hq
    rw [List.getElem?_zip_eq_some] at q2
    obtain ⟨q2, q3⟩ := q2
    have hqi : i = q := by
      rw [List.getElem?_range'] at q1
      · simpa using q1.symm
      · have := getElemLt q1; simpa using this
    subst hqi
    rw [List.getElem?_map, Option.map_eq_some_iff] at q2
    obtain ⟨y, hy, rfl⟩ := q2
    exact ⟨y, hy, rfl, q3⟩
  have hopl : ∀ (i : Nat) (y : AnyOp), l[i]? = some y → ∃ o, ops[i]? = some o ∧ resO P pu M.nm ops o = some { y.o with nid := none } := by
    intro i y hy
    have hlt : i < ops.size := by rw [← hlen]; exact getElemLt hy
    refine ⟨ops[i], by simp [hlt], ?_⟩
    have := congrArg (fun l => l[i]?) hl
    simpa [hy, hlt] using this
  have hz : ∀ i x f, l[i]? = some x → fs[i]? = some f → (i, x.o, f) ∈ (List.range' 0 l.length).zip ((l.map (·.o)).zip fs) := by
    intro i x f hx hf
    refine List.mem_of_getElem? (i := i) ?_
    rw [List.getElem?_zip_eq_some]
    have := getElemLt hx
    refine ⟨by rw [List.getElem?_range' this]; simp, ?_⟩
    rw [List.getElem?_zip_eq_some]
    exact ⟨by simp [hx], hf⟩
  have hpairs : ∀ i j x y, l[i]? = some x → l[j]? = some y → i < j → Anc ops i j ∨ ∀ fx fy, fs[i]? = some fx → fs[j]? = some fy → Indep (i, x.o, fx) (j, y.o, fy) := by
    intro i j x y hx hy hij
    have hjl := getElemLt hy
    have h1 := List.all_eq_true.1 hp j (by simpa using hjl)
    simp only [hy] at h1
    have h2 := List.all_eq_true.1 h1 i (by simpa using hij)
    simp only [hx, Bool.or_eq_true, Bool.and_eq_true] at h2
    rcases h2 with h2 | ⟨h2, h3⟩
    · exact .inl ((ancB_spec ha j y hy (by omega)).1 i (by simpa using h2))
    · right
      intro fx fy hfx hfy
      refine ⟨h2, ?_⟩
      rcases h3 with h3 | h3
      · have := hd j y fy hy hfy i (by simpa using h3)
        rcases this with h4 | h4
        · simpa [hfx] using h4
        · omega
      · have e1 := RunD.quiet _ _ _ hr _ (hz i x fx hx hfx) h3.1
        have e2 := RunD.quiet _ _ _ hr _ (hz j y fy hy hfy) h3.2
        simp only at e1 e2
        simp [disjB, hits, e1, e2]
  refine any_order hG hF hg (pu := pu) (M := M) ops.size _ _ σ S _ O a ?_ ?_ ?_ ?_ ?_ ?_ hr ?_ ?_
  · simp [hlen, hfs]
  · intro i
    constructor
    · intro h
      have hi : i < ops.size := by
        rcases Nat.lt_or_ge i ops.size with h' | h'
        · exact h'
        · simp [Nat.not_lt.2 h'] at h
      have h1 : i < l.length := by omega
      have h2 : i < fs.length := by omega
      exact ⟨_, hz i l[i] fs[i] (by simp [h1]) (by simp [h2]), rfl⟩
    · rintro ⟨x, hx, rfl⟩
      obtain ⟨y, hy, _⟩ := hget x hx
      have := getElemLt hy
      have h2 : x.1 < ops.size := by omega
      simp [h2]
  · rw [List.pairwise_iff_getElem]
    intro i j hi hj hij
    obtain ⟨x, hx, hxo, hxf⟩ := hget _ (List.getElem_mem hi)
    obtain ⟨y, hy, hyo, hyf⟩ := hget _ (List.getElem_mem hj)
    have ei : (((List.range' 0 l.length).zip ((l.map (·.o)).zip fs))[i]).1 = i := by simp
    have ej : (((List.range' 0 l.length).zip ((l.map (·.o)).zip fs))[j]).1 = j := by simp
    rw [ei] at hx hxf
    rw [ej] at hy hyf
    rw [ei, ej]
    refine ⟨hij, (hpairs i j x y hx hy hij).imp (fun h => h) fun h => ?_⟩
    have := h _ _ hxf hyf
    rw [hxo, hyo] at this
    exact this
  · intro x hx
    obtain ⟨y, hy, hyo, _⟩ := hget x hx
    obtain ⟨o, ho, hr'⟩ := hopl _ _ hy
    refine ⟨o, ho, by rw [← hyo]; exact hr', fun e he hb => ?_⟩
    exact (ancB_spec ha _ y hy (Array.getElem?_eq_some_iff.1 ho).1).2 o ho e he hb
  · intro i j _ hj
    exfalso
    by_cases h : j < ops.size <;> simp [h] at hj
  · intro i hi
    simpa using hi
  · exact ⟨hsr.size, hsr.kept, hsr.fr.ext (ext_drew _ _ _), mat_drew hsr.mat⟩
  · intro S' w' O' a' hev hsr' hdef
    exact hK τ S' w' O' a' hKτ (fun y hy => RunD.gh _ _ _ hr hy) ((evol_drew S w O).trans hev) hsr' hdef

theorem run_ops (hG : GOk P Γ) (hF : OpenF F) (hg : g = false → ∀ o ∈ ops, o.guard = none) {Q : Exit → Act → World → Prop} {K : St → Prop} :
    ∀ (l : List RO) (k : Nat) (σ : St) (S : Nat → Prop) (w : World) (O : OInfo) (a : Act), (∀ q r, l[q]? = some r → ∃ o, ops[k + q]? = some o ∧ resO P pu M.nm ops o = some { r with nid := none }) →
      runR Γ (EqFlat P) g base l σ K → SR M S w O σ a →
      (∀ τ S' w' O' a', K τ → (∀ y, ghO σ.hp = some y → ghO τ.hp = some y) → Evol S S' w w' O O' → SR M S' w' O' τ a' → a'.defers = a.defers → Q .normal a' w') →
      wpOpsIn F n P ops Q (List.range' k l.length) a w := by
  intro l
  induction l with
  | nil => intro k σ S w O a _ hrun hsr hK; exact hK σ S w O a hrun (fun _ h => h) (Evol.refl _ _ _) hsr rfl
  | cons r l ih =>
    intro k σ S w O a hops hrun hsr hK
    obtain ⟨hok, hrun⟩ := hrun
    rw [List.length_cons, List.range'_succ, wpOpsIn_cons]
    obtain ⟨o, ho, hro⟩ := hops 0 r rfl
    refine op_step hG hF ho hro (fun hgf => hg hgf o (Array.mem_of_getElem? ho)) hsr hok ?_
    intro S' w' O' a' hev hsr' hdef
    refine ih (k + 1) _ S' w' O' a' ?_ hrun hsr' fun τ S'' w'' O'' a'' hKτ hgh hev' hsr'' hdef' => hK τ S'' w'' O'' a'' hKτ (fun y hy => hgh y (step_gh hok hy)) (hev.trans hev') hsr'' (hdef'.trans hdef)
    intro q r' hr'
    have := hops (q + 1) r' (by simpa using hr')
    rwa [Nat.add_comm q 1, ← Nat.add_assoc] at this

def RegOps (P : Program) (pu : List Nat) (N : Nat × Nat) (ops : Array Oper) (l : List RO) : Prop :=
  ops.toList.map (fun o => resO P pu N ops o) = l.map fun x => some { x with nid := none }

theorem region_text (hG : GOk P Γ) (hF : OpenF F) {l : List RO} (hl : RegOps P pu M.nm ops l)
    (hg : g = false → ∀ o ∈ ops, o.guard = none) {Q : Exit → Act → World → Prop} {σ : St} {S : Nat → Prop} {w : World} {O : OInfo} {a : Act} {K : St → Prop} {id : Nat}
    (hrun : runR Γ (EqFlat P) g base l σ K) (hsr : SR M S w O σ a)
    (hK : ∀ τ S' w' O' a', K τ → (∀ y, ghO σ.hp = some y → ghO τ.hp = some y) → Evol S S' w w' O O' → SR M S' w' O' τ a' → a'.defers = a.defers → Q .normal a' w') : (Code.region id ops false).wpIn F n P Q a w := by
  have hlen : l.length = ops.size := by
    have := congrArg List.length hl
    simpa using this.symm
  refine wpIn_region ?_
  rw [List.range_eq_range', ← hlen]
  refine run_ops hG hF hg (pu := pu) (g := g) l 0 σ S w O a ?_ hrun hsr hK
  intro q r hq
  have hlt : q < ops.size := by rw [← hlen]; exact getElemLt hq
  refine ⟨ops[q], by simp [hlt], ?_⟩
  have := congrArg (fun l => l[q]?) hl
  simpa [hq, hlt] using this
end
end Go.Fam
