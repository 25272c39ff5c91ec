import Derived.Test.YtgcinomjcgebhaaG1
set_option linter.all false
/- Regions: in the order of the text, and in any order. -/
namespace Go.Fam
/-- i is to be listed ahead of j -/
inductive Anc (ops : Array Oper) : Nat → Nat → Prop
  | base {i j : Nat} {o : Oper} {e : Edge} (ho : ops[j]? = some o) (he : e ∈ o.after) (hb : Region.binds .any e = true) (h : e.on = i) : Anc ops i j
  | step {i j : Nat} {o : Oper} {e : Edge} (ho : ops[j]? = some o) (he : e ∈ o.after) (hb : Region.binds .any e = true) (h : Anc ops i e.on) : Anc ops i j

theorem ext_drew (S : Nat → Prop) (w : World) (O : OInfo) : Ext S S w { w with drawn := w.drawn + 1 } O O :=
  ⟨fun _ h => ⟨h, rfl⟩, fun _ g ob h => ⟨g, ob, h, Nat.le_refl _, fun _ => ⟨rfl, fun _ cur _ _ hb => ⟨cur, hb, rfl⟩⟩⟩⟩
theorem evol_drew (S : Nat → Prop) (w : World) (O : OInfo) : Evol S S w { w with drawn := w.drawn + 1 } O O :=
  ⟨ext_drew S w O, rfl, rfl, rfl, Nat.le_refl _, fun _ => rfl, fun _ _ _ => rfl, fun _ h => .inl h, fun _ h => .inl h⟩
theorem mat_drew {S : Nat → Prop} {w : World} {O : OInfo} {hp : List Blk} (h : Mat S w O hp) : Mat S { w with drawn := w.drawn + 1 } O hp :=
  h.keep (ext_drew S w O) (Nat.le_refl _) (fun _ _ => rfl) h.lt fun k hk ⟨id, g, ho⟩ => (h.own id g k ho).2 hk

section
variable {P : Program} {F : Fence} {n : Nat} {Γ : Gam} {ops : Array Oper} {g : Bool} {base : Nat} {M : FrI} {N : Nat × Nat} {pu : List Nat}

theorem RunD.cons_split {x : Nat × RO × FP} {l : List (Nat × RO × FP)} {σ τ : St} (h : RunD Γ (EqFlat P) g base (x :: l) σ τ) :
    (eff Γ (EqFlat P) g base x.2.1 σ).1 ∧ RunD Γ (EqFlat P) g base l (nextD Γ (EqFlat P) g base x.2.1 σ) τ := by
  obtain ⟨k, o, f⟩ := x
  exact ⟨h.1, h.2.2⟩

theorem any_order (hG : GOk P Γ) (hF : OpenF F) (hg : g = false → ∀ o ∈ ops, o.guard = none) {Q : Exit → Act → World → Prop} {τ : St} :
    ∀ (fuel : Nat) (rest : List (Nat × RO × FP)) (listed : Array Bool) (σ : St) (S : Nat → Prop) (w : World) (O : OInfo) (a : Act),
      rest.length ≤ fuel →
      (∀ i, listed.getD i true = false ↔ ∃ x ∈ rest, x.1 = i) →
      rest.Pairwise (fun x y => x.1 < y.1 ∧ (Anc ops x.1 y.1 ∨ Indep x y)) →
      (∀ x ∈ rest, ∃ o, ops[x.1]? = some o ∧ resO P pu M.nm ops o = some { x.2.1 with nid := none } ∧ ∀ e ∈ o.after, Region.binds .any e = true → e.on < x.1) →
      (∀ i j, Anc ops i j → listed.getD j false = true → listed.getD i false = true) →
      (∀ i, i < ops.size → i < listed.size) →
      RunD Γ (EqFlat P) g base rest σ τ → SR M S w O σ a →
      (∀ S' w' O' a', Evol S S' w w' O O' → SR M S' w' O' τ a' → a'.defers = a.defers → Q .normal a' w') →
      wpAnyIn F n P .any ops Q fuel listed a w := by
  intro fuel
  induction fuel with
  | zero =>
    intro rest listed σ S w O a hf hl _ _ _ _ hrun hsr hK
    have hnil : rest = [] := List.eq_nil_of_length_eq_zero (by omega)
    subst hnil
    simp only [RunD] at hrun
    subst hrun
    refine ⟨?_, hK S w O a (Evol.refl _ _ _) hsr rfl⟩
    rw [List.eq_nil_iff_forall_not_mem]
    intro i hi
    rw [mem_ready] at hi
    obtain ⟨x, hx, _⟩ := (hl i).1 hi.1
    simp at hx
  | succ fuel ih =>
    intro rest listed σ S w O a hf hl hp hr hc hsz hrun hsr hK
    refine ⟨fun hnil => ?_, fun i hi => ?_⟩
    · cases rest with
      | nil =>
        simp only [RunD] at hrun
        subst hrun
        exact hK S w O a (Evol.refl _ _ _) hsr rfl
      | cons x rest =>
        exfalso
        obtain ⟨o, ho, _, hlt⟩ := hr x (by simp)
        have : x.1 ∈ Region.ready .any ops listed := by
          rw [mem_ready]
          refine ⟨(hl x.1).2 ⟨x, by simp, rfl⟩, o, ho, fun e he hb => ?_⟩
          have h1 := hlt e he hb
          have h2 : ¬ listed.getD e.on true = false := by
            rw [hl]
            rintro ⟨y, hy, hye⟩
            rcases List.mem_cons.1 hy with rfl | hy
            · omega
            · have := (List.rel_of_pairwise_cons hp hy).1; omega
          have h3 : x.1 < ops.size := (Array.getElem?_eq_some_iff.1 ho).1
          have h4 := hsz e.on (by omega)
          simp [h4] at h2 ⊢
          exact h2
        rw [hnil] at this
        simp at this
    · have hready := hi
      rw [mem_ready] at hi
      obtain ⟨h0, o, ho, hall⟩ := hi
      obtain ⟨x, hx, hxi⟩ := (hl i).1 h0
      subst hxi
      obtain ⟨A, B, rfl⟩ := List.append_of_mem hx
      obtain ⟨o', ho', hro, hlt⟩ := hr x (by simp)
      rw [ho] at ho'
      cases ho'
      have hpa := List.pairwise_append.1 hp
      have hpb := List.pairwise_cons.1 hpa.2.1
      have hind : ∀ y ∈ A, Indep y x := by
        intro y hy
        rcases (hpa.2.2 y hy x (by simp)).2 with h | h
        · exfalso
          have hy0 : listed.getD y.1 true = false := (hl y.1).2 ⟨y, by simp [hy], rfl⟩
          have hy1 : listed.getD y.1 false = true := by
            cases h with
            | base ho' he hb h =>
              rw [ho] at ho'; cases ho'
              rw [← h]
              exact hall _ he hb
            | step ho' he hb h =>
              rw [ho] at ho'; cases ho'
              exact hc _ _ h (hall _ he hb)
          cases hle : listed[y.1]? with
          | none => simp [hle] at hy0
          | some b => simp [hle] at hy0 hy1; simp_all
        · exact h
      have hmv := RunD.move A σ hrun hind
      obtain ⟨hok, hrest⟩ := hmv.cons_split
      obtain ⟨hs1, hs2⟩ := eff_step hok
      refine op_step hG hF ho hro (fun hgf => hg hgf o (Array.mem_of_getElem? ho)) hsr hs1 ?_
      intro S' w' O' a' hev hsr' hdef
      rw [hs2] at hsr'
      refine ih (A ++ B) (listed.setIfInBounds x.1 true) _ S' w' O' a' ?_ ?_ ?_ ?_ ?_ ?_ hrest hsr' ?_
      · simp at hf ⊢; omega
      · intro i
        by_cases hix : i = x.1
        · subst hix
          have hlt' : x.1 < listed.size := hsz _ (Array.getElem?_eq_some_iff.1 ho).1
          simp [hlt']
          intro k r
          refine ⟨fun hm => ?_, fun hm => ?_⟩
          · have := (hpa.2.2 _ hm x (by simp)).1; simp at this
          · have := (hpb.1 _ hm).1; simp at this
        · rw [getD_set_ne true (Ne.symm hix), hl]
          constructor
          · rintro ⟨y, hy, rfl⟩
            refine ⟨y, ?_, rfl⟩
            simp only [List.mem_append, List.mem_cons] at hy ⊢
            rcases hy with h | h | h
            · exact .inl h
            · subst h; exact absurd rfl hix
            · exact .inr h
          · rintro ⟨y, hy, rfl⟩
            exact ⟨y, by simp only [List.mem_append, List.mem_cons] at hy ⊢; rcases hy with h | h <;> simp [h], rfl⟩
      · refine List.Pairwise.sublist ?_ hp
        exact List.Sublist.append (List.Sublist.refl _) (List.sublist_cons_self _ _)
      · intro y hy
        refine hr y ?_
        simp only [List.mem_append, List.mem_cons] at hy ⊢
        rcases hy with h | h <;> simp [h]
      · intro i j hij hj
        by_cases hjx : j = x.1
        · subst hjx
          refine getD_set_true ?_
          cases hij with
          | base ho' he hb h =>
            rw [ho] at ho'; cases ho'
            rw [← h]
            exact hall _ he hb
          | step ho' he hb h =>
            rw [ho] at ho'; cases ho'
            exact hc _ _ h (hall _ he hb)
        · rw [getD_set_ne false (Ne.symm hjx)] at hj
          exact getD_set_true (hc i j hij hj)
      · intro i hi
        simpa using hsz i hi
      · intro S'' w'' O'' a'' hev' hsr'' hdef'
        exact hK S'' w'' O'' a'' (hev.trans hev') hsr'' (hdef'.trans hdef)

theorem RunD.gh : ∀ (l : List (Nat × RO × FP)) (σ τ : St) {y : List V × Option (List (List V))}, RunD Γ (EqFlat P) g base l σ τ → ghO σ.hp = some y → ghO τ.hp = some y
  | [], σ, τ, y, h, hy => by simp only [RunD] at h; subst h; exact hy
  | (k, o, f) :: l, σ, τ, y, h, hy => RunD.gh l _ _ h.2.2 (eff_gh h.1 hy)

/-! ### regions, resolved -/
structure AnyOp where
  o : RO
  js : List Nat
  an : List Nat

/-- a run in the text's order, with the footprints met -/
def runX (Γ : Gam) (E : TypeId → Nat → Prop) (g : Bool) (base : Nat) : List AnyOp → List FP → St → (St → Prop) → Prop
  | [], _, σ, K => K σ
  | x :: l, done, σ, K => (eff Γ E g base x.o σ).1 ∧ (x.js.all fun j => disjB (done.getD j ⟨none, []⟩) (fpR Γ g base x.o σ)) = true ∧ runX Γ E g base l (done ++ [fpR Γ g base x.o σ]) (nextD Γ E g base x.o σ) K

def RX.quiet : RX → Bool | .q _ => true | .w _ => false | .o _ _ => false

/-- the pairs that may change places are apart -/
def pairsB (l : List AnyOp) : Bool :=
  (List.range l.length).all fun j => match l[j]? with
    | none => true
    | some y => (List.range j).all fun i => match l[i]? with
      | none => true
      | some x => y.an.contains i || (apartB x.o y.o && (y.js.contains i || (x.o.x.quiet && y.o.x.quiet)))

/-- the lists of ancestors are sound, and the text's order is one of the orders -/
def ancB (ops : Array Oper) (l : List AnyOp) : Bool :=
  (List.range ops.size).all fun j => match ops[j]?, l[j]? with
    | some o, some y => (o.after.all fun e => !(Region.binds .any e) || decide (e.on < j)) &&
        y.an.all fun i => o.after.any fun e => Region.binds .any e && (e.on == i || match l[e.on]? with | some z => z.an.contains i | none => false)
    | _, _ => false

theorem ancB_spec {l : List AnyOp} (h : ancB ops l = true) : ∀ (j : Nat) (y : AnyOp), l[j]? = some y → j < ops.size → (∀ i ∈ y.an, Anc ops i j) ∧ ∀ o, ops[j]? = some o → ∀ e ∈ o.after, Region.binds .any e = true → e.on < j := by
  intro j
  induction j using Nat.strongRecOn with
  | _ j ih =>
    intro y hy hj
    have h1 := List.all_eq_true.1 h j (by simpa using hj)
    obtain ⟨o, ho⟩ : ∃ o, ops[j]? = some o := ⟨ops[j], by simp [hj]⟩
    simp only [ho, hy, Bool.and_eq_true] at h1
    have hlt : ∀ e ∈ o.after, Region.binds .any e = true → e.on < j := by
      intro e he hb
      have := Array.all_eq_true_iff_forall_mem.1 h1.1 e he
      simpa [hb] using this
    refine ⟨fun i hi => ?_, fun o' ho' => by rw [ho] at ho'; cases ho'; exact hlt⟩
    have h2 := List.all_eq_true.1 h1.2 i hi
    rw [Array.any_eq_true] at h2
    obtain ⟨k, hk, h3⟩ := h2
    simp only [Bool.and_eq_true, Bool.or_eq_true] at h3
    have hmem : o.after[k] ∈ o.after := Array.getElem_mem hk
    rcases h3.2 with h4 | h4
    · exact .base ho hmem h3.1 (by simpa using h4)
    · cases hz : l[(o.after[k]).on]? with
      | none => simp [hz] at h4
      | some z =>
        simp only [hz] at h4
        have hl := hlt _ hmem h3.1
        exact .step ho hmem h3.1 ((ih _ hl z hz (by omega)).1 i (by simpa using h4))

theorem runX_runD {l : List AnyOp} : ∀ (k : Nat) (done : List FP) (σ : St) (K : St → Prop), runX Γ (EqFlat P) g base l done σ K → k = done.length →
    ∃ fs : List FP, ∃ τ, fs.length = l.length ∧ RunD Γ (EqFlat P) g base ((List.range' k l.length).zip ((l.map (·.o)).zip fs)) σ τ ∧ K τ ∧
      ∀ q y f, l[q]? = some y → fs[q]? = some f → ∀ j ∈ y.js, disjB ((done ++ fs).getD j ⟨none, []⟩) f = true ∨ k + q ≤ j := by
  induction l with
  | nil => intro k done σ K h _; exact ⟨[], σ, rfl, (by simp [RunD]), h, by simp⟩
  | cons x l ih =>
    intro k done σ K h hk
    obtain ⟨h1, h2, h3⟩ := h
    obtain ⟨fs, τ, hl, hrun, hK, hd⟩ := ih (k + 1) _ _ _ h3 (by simp [hk])
    refine ⟨fpR Γ g base x.o σ :: fs, τ, by simp [hl], ?_, hK, ?_⟩
    · simp only [List.length_cons, List.range'_succ, List.map_cons, List.zip_cons_cons, RunD]
      exact ⟨h1, trivial, hrun⟩
    · intro q y f hy hf j hj
      cases q with
      | zero =>
        simp at hy hf
        subst hy hf
        by_cases hjk : k ≤ j
        · exact .inr (by omega)
        · left
          have := List.all_eq_true.1 h2 j hj
          have hlt : j < done.length := by omega
          simpa [List.getElem?_append_left hlt] using this
      | succ q =>
        simp at hy hf
        have := hd q y f hy hf j hj
        rcases this with h | h
        · left; simpa using h
        · right; omega

theorem RunD.quiet : ∀ (l : List (Nat × RO × FP)) (σ τ : St), RunD Γ (EqFlat P) g base l σ τ → ∀ x ∈ l, x.2.1.x.quiet = true → x.2.2.wr = []
  | [], _, _, _ => by simp
  | (k, o, f) :: l, σ, τ, h => by
    intro x hx hq
    obtain ⟨_, h2, h3⟩ := h
    rcases List.mem_cons.1 hx with rfl | hx
    · simp only at hq ⊢
      rw [← h2]
      unfold fpR
      cases ho : o.x with
      | q q => rfl
      | w q => rw [ho] at hq; cases hq
      | o f xs => rw [ho] at hq; cases hq
    · exact RunD.quiet l _ _ h3 x hx hq

def AnyOps (P : Program) (pu : List Nat) (N : Nat × Nat) (ops : Array Oper) (l : List AnyOp) : Prop :=
  ops.toList.map (fun o => resO P pu N ops o) = l.map fun x => some { x.o with nid := none }

theorem region_any (hG : GOk P Γ) (hF : OpenF F) (hm : P.follows .mixedOrders = true) {l : List AnyOp} (hl : AnyOps P pu M.nm ops l) (hp : pairsB l = true) (ha : ancB ops l = true)
    (hg : g = false → ∀ o ∈ ops, o.guard = none) {Q : Exit → Act → World → Prop} {σ : St} {S : Nat → Prop} {w : World} {O : OInfo} {a : Act} {K : St → Prop} {id : Nat}
    (hrun : runX Γ (EqFlat P) g base l [] σ K) (hsr : SR M S w O σ a)
    (hK : ∀ τ S' w' O' a', K τ → (∀ y, ghO σ.hp = some y → ghO τ.hp = some y) → Evol S S' w w' O O' → SR M S' w' O' τ a' → a'.defers = a.defers → Q .normal a' w') : (Code.region id ops true).wpIn F n P Q a w := by
  obtain ⟨fs, τ, hfs, hr, hKτ, hd⟩ := runX_runD 0 [] σ K hrun rfl
  have hlen : l.length = ops.size := by
    have := congrArg List.length hl
    simpa using this.symm
  refine wpIn_region_any hm ?_
  have hget : ∀ x ∈ (List.range' 0 l.length).zip ((l.map (·.o)).zip fs), ∃ y, l[x.1]? = some y ∧ y.o = x.2.1 ∧ fs[x.1]? = some x.2.2 := by
    rintro ⟨i, o, f⟩ hx
    obtain ⟨q, hq⟩ := List.getElem?_of_mem hx
    rw [List.getElem?_zip_eq_some] at hq
    obtain ⟨q1, q2⟩ := hq
    rw [List.getElem?_zip_eq_some] at q2
    obtain ⟨q2, q3⟩ := q2
    have hqi : i = q := by
      rw [List.getElem?_range'] at q1
      · simpa using q1.symm
      · have := getElemLt q1; simpa using this
    subst hqi
    rw [List.getElem?_map, Option.map_eq_some_iff] at q2
    obtain ⟨y, hy, rfl⟩ := q2
    exact ⟨y, hy, rfl, q3⟩
  have hopl : ∀ (i : Nat) (y : AnyOp), l[i]? = some y → ∃ o, ops[i]? = some o ∧ resO P pu M.nm ops o = some { y.o with nid := none } := by
    intro i y hy
    have hlt : i < ops.size := by rw [← hlen]; exact getElemLt hy
    refine ⟨ops[i], by simp [hlt], ?_⟩
    have := congrArg (fun l => l[i]?) hl
    simpa [hy, hlt] using this
  have hz : ∀ i x f, l[i]? = some x → fs[i]? = some f → (i, x.o, f) ∈ (List.range' 0 l.length).zip ((l.map (·.o)).zip fs) := by
    intro i x f hx hf
    refine List.mem_of_getElem? (i := i) ?_
    rw [List.getElem?_zip_eq_some]
    have := getElemLt hx
    refine ⟨by rw [List.getElem?_range' this]; simp, ?_⟩
    rw [List.getElem?_zip_eq_some]
    exact ⟨by simp [hx], hf⟩
  have hpairs : ∀ i j x y, l[i]? = some x → l[j]? = some y → i < j → Anc ops i j ∨ ∀ fx fy, fs[i]? = some fx → fs[j]? = some fy → Indep (i, x.o, fx) (j, y.o, fy) := by
    intro i j x y hx hy hij
    have hjl := getElemLt hy
    have h1 := List.all_eq_true.1 hp j (by simpa using hjl)
    simp only [hy] at h1
    have h2 := List.all_eq_true.1 h1 i (by simpa using hij)
    simp only [hx, Bool.or_eq_true, Bool.and_eq_true] at h2
    rcases h2 with h2 | ⟨h2, h3⟩
    · exact .inl ((ancB_spec ha j y hy (by omega)).1 i (by simpa using h2))
    · right
      intro fx fy hfx hfy
      refine ⟨h2, ?_⟩
      rcases h3 with h3 | h3
      · have := hd j y fy hy hfy i (by simpa using h3)
        rcases this with h4 | h4
        · simpa [hfx] using h4
        · omega
      · have e1 := RunD.quiet _ _ _ hr _ (hz i x fx hx hfx) h3.1
        have e2 := RunD.quiet _ _ _ hr _ (hz j y fy hy hfy) h3.2
        simp only at e1 e2
        simp [disjB, hits, e1, e2]
  refine any_order hG hF hg (pu := pu) (M := M) ops.size _ _ σ S _ O a ?_ ?_ ?_ ?_ ?_ ?_ hr ?_ ?_
  · simp [hlen, hfs]
  · intro i
    constructor
    · intro h
      have hi : i < ops.size := by
        rcases Nat.lt_or_ge i ops.size with h' | h'
        · exact h'
        · simp [Nat.not_lt.2 h'] at h
      have h1 : i < l.length := by omega
      have h2 : i < fs.length := by omega
      exact ⟨_, hz i l[i] fs[i] (by simp [h1]) (by simp [h2]), rfl⟩
    · rintro ⟨x, hx, rfl⟩
      obtain ⟨y, hy, _⟩ := hget x hx
      have := getElemLt hy
      have h2 : x.1 < ops.size := by omega
      simp [h2]
  · rw [List.pairwise_iff_getElem]
    intro i j hi hj hij
    obtain ⟨x, hx, hxo, hxf⟩ := hget _ (List.getElem_mem hi)
    obtain ⟨y, hy, hyo, hyf⟩ := hget _ (List.getElem_mem hj)
    have ei : (((List.range' 0 l.length).zip ((l.map (·.o)).zip fs))[i]).1 = i := by simp
    have ej : (((List.range' 0 l.length).zip ((l.map (·.o)).zip fs))[j]).1 = j := by simp
    rw [ei] at hx hxf
    rw [ej] at hy hyf
    rw [ei, ej]
    refine ⟨hij, (hpairs i j x y hx hy hij).imp (fun h => h) fun h => ?_⟩
    have := h _ _ hxf hyf
    rw [hxo, hyo] at this
    exact this
  · intro x hx
    obtain ⟨y, hy, hyo, _⟩ := hget x hx
    obtain ⟨o, ho, hr'⟩ := hopl _ _ hy
    refine ⟨o, ho, by rw [← hyo]; exact hr', fun e he hb => ?_⟩
    exact (ancB_spec ha _ y hy (Array.getElem?_eq_some_iff.1 ho).1).2 o ho e he hb
  · intro i j _ hj
    exfalso
    by_cases h : j < ops.size <;> simp [h] at hj
  · intro i hi
    simpa using hi
  · exact ⟨hsr.size, hsr.kept, hsr.fr.ext (ext_drew _ _ _), mat_drew hsr.mat⟩
  · intro S' w' O' a' hev hsr' hdef
    exact hK τ S' w' O' a' hKτ (fun y hy => RunD.gh _ _ _ hr hy) ((evol_drew S w O).trans hev) hsr' hdef

theorem run_ops (hG : GOk P Γ) (hF : OpenF F) (hg : g = false → ∀ o ∈ ops, o.guard = none) {Q : Exit → Act → World → Prop} {K : St → Prop} :
    ∀ (l : List RO) (k : Nat) (σ : St) (S : Nat → Prop) (w : World) (O : OInfo) (a : Act), (∀ q r, l[q]? = some r → ∃ o, ops[k + q]? = some o ∧ resO P pu M.nm ops o = some { r with nid := none }) →
      runR Γ (EqFlat P) g base l σ K → SR M S w O σ a →
      (∀ τ S' w' O' a', K τ → (∀ y, ghO σ.hp = some y → ghO τ.hp = some y) → Evol S S' w w' O O' → SR M S' w' O' τ a' → a'.defers = a.defers → Q .normal a' w') →
      wpOpsIn F n P ops Q (List.range' k l.length) a w := by
  intro l
  induction l with
  | nil => intro k σ S w O a _ hrun hsr hK; exact hK σ S w O a hrun (fun _ h => h) (Evol.refl _ _ _) hsr rfl
  | cons r l ih =>
    intro k σ S w O a hops hrun hsr hK
    obtain ⟨hok, hrun⟩ := hrun
    rw [List.length_cons, List.range'_succ, wpOpsIn_cons]
    obtain ⟨o, ho, hro⟩ := hops 0 r rfl
    refine op_step hG hF ho hro (fun hgf => hg hgf o (Array.mem_of_getElem? ho)) hsr hok ?_
    intro S' w' O' a' hev hsr' hdef
    refine ih (k + 1) _ S' w' O' a' ?_ hrun hsr' fun τ S'' w'' O'' a'' hKτ hgh hev' hsr'' hdef' => hK τ S'' w'' O'' a'' hKτ (fun y hy => hgh y (step_gh hok hy)) (hev.trans hev') hsr'' (hdef'.trans hdef)
    intro q r' hr'
    have := hops (q + 1) r' (by simpa using hr')
    rwa [Nat.add_comm q 1, ← Nat.add_assoc] at this

def RegOps (P : Program) (pu : List Nat) (N : Nat × Nat) (ops : Array Oper) (l : List RO) : Prop :=
  ops.toList.map (fun o => resO P pu N ops o) = l.map fun x => some { x with nid := none }

theorem region_text (hG : GOk P Γ) (hF : OpenF F) {l : List RO} (hl : RegOps P pu M.nm ops l)
    (hg : g = false → ∀ o ∈ ops, o.guard = none) {Q : Exit → Act → World → Prop} {σ : St} {S : Nat → Prop} {w : World} {O : OInfo} {a : Act} {K : St → Prop} {id : Nat}
    (hrun : runR Γ (EqFlat P) g base l σ K) (hsr : SR M S w O σ a)
    (hK : ∀ τ S' w' O' a', K τ → (∀ y, ghO σ.hp = some y → ghO τ.hp = some y) → Evol S S' w w' O O' → SR M S' w' O' τ a' → a'.defers = a.defers → Q .normal a' w') : (Code.region id ops false).wpIn F n P Q a w := by
  have hlen : l.length = ops.size := by
    have := congrArg List.length hl
    simpa using this.symm
  refine wpIn_region ?_
  rw [List.range_eq_range', ← hlen]
  refine run_ops hG hF hg (pu := pu) (g := g) l 0 σ S w O a ?_ hrun hsr hK
  intro q r hq
  have hlt : q < ops.size := by rw [← hlen]; exact getElemLt hq
  refine ⟨ops[q], by simp [hlt], ?_⟩
  have := congrArg (fun l => l[q]?) hl
  simpa [hq, hlt] using this
end
end Go.Fam
/- Resolved code, its meaning on abstract states, and its soundness. -/
namespace Go.Fam
def lkp : List (Nat × V) → Nat → V
  | [], _ => .u
  | (k, v) :: l, t => if t = k then v else lkp l t

mutual
def upV (n : Nat) : V → V
  | .ad id g off => if id < n then .u else .ad id g off
  | .rf id g off len es => if id < n then .u else .rf id g off len es
  | .mp id g => if id < n then .u else .mp id g
  | .it id g => if id < n then .u else .it id g
  | .ag cs => .ag (upL n cs)
  | .tp cs => .tp (upL n cs)
  | .fn f cs => .fn f (upL n cs)
  | .gv q v => .gv q (upV n v)
  | v => v
def upL (n : Nat) : List V → List V
  | [] => []
  | v :: vs => upV n v :: upL n vs
end
def upB (n : Nat) : Blk → Blk
  | .cells g vs => .cells g (upL n vs)
  | .map st ks vs => .map st ks (upL n vs)
  | .iter mid k l c => if mid < n then .dead 0 else .iter mid k l c
  | b => b

theorem upL_length (n : Nat) : ∀ vs : List V, (upL n vs).length = vs.length
  | [] => rfl
  | _ :: vs => by simp [upL, upL_length n vs]

def fromO (O : OInfo) (n : Nat) : OInfo := fun id => if id < n then none else O id

mutual
theorem up_rep {S : Nat → Prop} {w : World} {O : OInfo} {n : Nat} : ∀ (v : V) (c : Value), Rep S w O v c → Rep S w (fromO O n) (upV n v) c
  | .u, _, _ => by simp [upV, Rep]
  | .b x, c, h => by simpa [upV, Rep] using h
  | .i x, c, h => by simpa [upV, Rep] using h
  | .z es, c, h => by simpa [upV, Rep] using h
  | .sl es rows, c, h => by simpa only [upV, Rep] using h
  | .pa cs, c, h => by simpa only [upV, Rep] using h
  | .pn, c, h => by simpa [upV, Rep] using h
  | .yl l, c, h => by simpa [upV, Rep] using h
  | .ag cs, c, h => by
    simp only [upV, Rep] at h ⊢
    obtain ⟨ccs, hc, hn, hr⟩ := h
    exact ⟨ccs, hc, by rw [upL_length]; exact hn, upL_rep cs _ hr⟩
  | .tp cs, c, h => by
    simp only [upV, Rep] at h ⊢
    obtain ⟨ccs, hc, hn, hr⟩ := h
    exact ⟨ccs, hc, by rw [upL_length]; exact hn, upL_rep cs _ hr⟩
  | .fn f cs, c, h => by
    simp only [upV, Rep] at h ⊢
    obtain ⟨ccs, hc, hn, hr⟩ := h
    exact ⟨ccs, hc, by rw [upL_length]; exact hn, upL_rep cs _ hr⟩
  | .gv q v, c, h => by
    simp only [upV, Rep] at h ⊢
    exact ⟨fun hq => up_rep v c (h.1 hq), h.2⟩
  | .ad id g off, c, h => by
    simp only [upV]
    split
    · simp [Rep]
    · rename_i hl; simpa only [Rep, fromO, if_neg hl] using h
  | .rf id g off len es, c, h => by
    simp only [upV]
    split
    · simp [Rep]
    · rename_i hl; simpa only [Rep, fromO, if_neg hl] using h
  | .mp id g, c, h => by
    simp only [upV]
    split
    · simp [Rep]
    · rename_i hl; simpa only [Rep, fromO, if_neg hl] using h
  | .it id g, c, h => by
    simp only [upV]
    split
    · simp [Rep]
    · rename_i hl; simpa only [Rep, fromO, if_neg hl] using h
theorem upL_rep {S : Nat → Prop} {w : World} {O : OInfo} {n : Nat} : ∀ (vs : List V) (cs : List Value), RepL S w O vs cs → RepL S w (fromO O n) (upL n vs) cs
  | [], _, _ => by simp [upL, RepL]
  | _ :: _, [], h => by simp [RepL] at h
  | v :: vs, c :: cs, h => by
    simp only [upL, RepL] at h ⊢
    exact ⟨up_rep v c h.1, upL_rep vs cs h.2⟩
end


/-- the blocks from n on alone -/
def hpF (n : Nat) (hp : List Blk) : List Blk := (hp.take n).map (fun _ => .hole) ++ (hp.drop n).map (upB n)
mutual
/-- blocks from n on become pure data -/
def cutV (hp : List Blk) (n : Nat) : V → V
  | .ad id g off => if id < n then .ad id g off else vw (hpF n hp) 8 (.ad id g off)
  | .rf id g off len es => if id < n then .rf id g off len es else vw (hpF n hp) 8 (.rf id g off len es)
  | .mp id g => if id < n then .mp id g else .u
  | .it id g => if id < n then .it id g else .u
  | .ag cs => .ag (cutL hp n cs)
  | .tp cs => .tp (cutL hp n cs)
  | .fn f cs => .fn f (cutL hp n cs)
  | .gv q v => .gv q (cutV hp n v)
  | v => v
def cutL (hp : List Blk) (n : Nat) : List V → List V
  | [] => []
  | v :: vs => cutV hp n v :: cutL hp n vs
end
def cutB (hp : List Blk) (n : Nat) : Blk → Blk
  | .cells g vs => .cells g (cutL hp n vs)
  | .map st ks vs => .map st ks (cutL hp n vs)
  | .iter mid k l c => if mid < n then .iter mid k l c else .dead 0
  | b => b

theorem cutL_length (hp : List Blk) (n : Nat) : ∀ vs : List V, (cutL hp n vs).length = vs.length
  | [] => rfl
  | _ :: vs => by simp [cutL, cutL_length hp n vs]

def restO (O : OInfo) (n : Nat) : OInfo := fun id => if id < n then O id else none
def cutS (S : Nat → Prop) (O : OInfo) (n : Nat) : Nat → Prop := fun k => S k ∨ Own (fromO O n) k

theorem fromO_some {O : OInfo} {n id : Nat} {x : Nat × Option Nat} (h : fromO O n id = some x) : n ≤ id ∧ O id = some x := by
  unfold fromO at h
  split at h
  · cases h
  · rename_i hl; exact ⟨by omega, h⟩
theorem restO_some {O : OInfo} {n id : Nat} {x : Nat × Option Nat} (h : restO O n id = some x) : id < n ∧ O id = some x := by
  unfold restO at h
  split at h
  · rename_i hl; exact ⟨hl, h⟩
  · cases h

theorem from_mat {S : Nat → Prop} {w : World} {O : OInfo} {hp : List Blk} (h : Mat S w O hp) (n : Nat) : Mat S w (fromO O n) (hpF n hp) := by
  have hx : Ext S S w w O O := Ext.refl S w O
  refine ⟨h.lt, fun id g b ho => h.own id g b (fromO_some ho).2, fun id id' g g' b h1 h2 => h.inj id id' g g' b (fromO_some h1).2 (fromO_some h2).2, fun id g ob ho => ?_⟩
  obtain ⟨hl, ho⟩ := fromO_some ho
  have hb := h.blk id g ob ho
  have hlt : id < hp.length := by
    rcases Nat.lt_or_ge id hp.length with h' | h'
    · exact h'
    · rw [List.getElem?_eq_none h'] at hb; exact hb.elim
  have hg : (hpF n hp)[id]? = (hp[id]?).map (upB n) := by
    unfold hpF
    rw [List.getElem?_append_right (by simp; omega)]
    simp only [List.length_map, List.length_take, List.getElem?_map, List.getElem?_drop]
    congr 2
    omega
  rw [hg]
  cases hid : hp[id]? with
  | none => rw [hid] at hb; exact hb.elim
  | some b =>
    rw [hid] at hb
    cases b with
    | hole => exact hb.elim
    | gh c y => exact hb.elim
    | dead g' => exact hb
    | map st ks vs =>
      simp only [BlkOk, Option.map_some, upB] at hb ⊢
      obtain ⟨h0, b, es, hob, hh, h1, h3, h4, h5⟩ := hb
      exact ⟨h0, b, es, hob, hh, h1, upL_rep _ _ h3, by rw [upL_length]; exact h4, h5⟩
    | iter mid k l c =>
      simp only [BlkOk, Option.map_some, upB] at hb ⊢
      obtain ⟨h0, b, m, seen, hob, hh, h1, h2⟩ := hb
      by_cases hmid : mid < n
      · rw [if_pos hmid]; exact h0.symm
      · rw [if_neg hmid]
        refine ⟨h0, b, m, seen, hob, hh, ?_, h2⟩
        have := up_rep (n := n) (.mp mid 0) _ h1
        simpa only [upV, if_neg hmid] using this
    | cells g' vs =>
      simp only [BlkOk, Option.map_some, upB] at hb ⊢
      refine ⟨hb.1, ?_⟩
      cases ob with
      | none => simp only at hb ⊢; rw [hb.2]; rfl
      | some b =>
        obtain ⟨cur, e, hh, hrl, h1⟩ := hb.2
        exact ⟨cur, e, hh, upL_rep _ _ hrl, h1⟩

mutual
theorem cut_rep {S : Nat → Prop} {w : World} {O : OInfo} {hp : List Blk} (hm : Mat S w O hp) (n : Nat) : ∀ (v : V) (c : Value), Rep S w O v c → Rep (cutS S O n) w (restO O n) (cutV hp n v) c
  | .u, _, _ => by simp [cutV, Rep]
  | .b x, c, h => by simpa [cutV, Rep] using h
  | .i x, c, h => by simpa [cutV, Rep] using h
  | .z es, c, h => by simpa [cutV, Rep] using h
  | .sl es rows, c, h => by
    have h' : Rep S w noO (.sl es rows) c := by simpa only [Rep] using h
    simpa only [cutV] using Rep.ext ⟨fun k hk => ⟨.inl hk, rfl⟩, fun _ _ _ h => by cases h⟩ _ _ h'
  | .pa cs, c, h => by
    have h' : Rep S w noO (.pa cs) c := by simpa only [Rep] using h
    simpa only [cutV] using Rep.ext ⟨fun k hk => ⟨.inl hk, rfl⟩, fun _ _ _ h => by cases h⟩ _ _ h'
  | .pn, c, h => by simpa [cutV, Rep] using h
  | .yl l, c, h => by simpa [cutV, Rep] using h
  | .ag cs, c, h => by
    simp only [cutV, Rep] at h ⊢
    obtain ⟨ccs, hc, hn, hr⟩ := h
    exact ⟨ccs, hc, by rw [cutL_length]; exact hn, cutL_rep hm n cs _ hr⟩
  | .tp cs, c, h => by
    simp only [cutV, Rep] at h ⊢
    obtain ⟨ccs, hc, hn, hr⟩ := h
    exact ⟨ccs, hc, by rw [cutL_length]; exact hn, cutL_rep hm n cs _ hr⟩
  | .fn f cs, c, h => by
    simp only [cutV, Rep] at h ⊢
    obtain ⟨ccs, hc, hn, hr⟩ := h
    exact ⟨ccs, hc, by rw [cutL_length]; exact hn, cutL_rep hm n cs _ hr⟩
  | .gv q v, c, h => by
    simp only [cutV, Rep] at h ⊢
    exact ⟨fun hq => cut_rep hm n v c (h.1 hq), h.2⟩
  | .ad id g off, c, h => by
    simp only [cutV]
    split
    · rename_i hl; simpa only [Rep, restO, if_pos hl] using h
    · rename_i hl
      have h' : Rep S w (fromO O n) (.ad id g off) c := by simpa only [Rep, fromO, if_neg hl] using h
      exact rep_noO (vw_rep (from_mat hm n) 8 _ _ h')
  | .rf id g off len es, c, h => by
    simp only [cutV]
    split
    · rename_i hl; simpa only [Rep, restO, if_pos hl] using h
    · rename_i hl
      have h' : Rep S w (fromO O n) (.rf id g off len es) c := by simpa only [Rep, fromO, if_neg hl] using h
      exact rep_noO (vw_rep (from_mat hm n) 8 _ _ h')
  | .mp id g, c, h => by
    simp only [cutV]
    split
    · rename_i hl; simpa only [Rep, restO, if_pos hl] using h
    · simp [Rep]
  | .it id g, c, h => by
    simp only [cutV]
    split
    · rename_i hl; simpa only [Rep, restO, if_pos hl] using h
    · simp [Rep]
theorem cutL_rep {S : Nat → Prop} {w : World} {O : OInfo} {hp : List Blk} (hm : Mat S w O hp) (n : Nat) : ∀ (vs : List V) (cs : List Value), RepL S w O vs cs → RepL (cutS S O n) w (restO O n) (cutL hp n vs) cs
  | [], _, _ => by simp [cutL, RepL]
  | _ :: _, [], h => by simp [RepL] at h
  | v :: vs, c :: cs, h => by
    simp only [cutL, RepL] at h ⊢
    exact ⟨cut_rep hm n v c h.1, cutL_rep hm n vs cs h.2⟩
end

theorem cut_mat {S : Nat → Prop} {w : World} {O : OInfo} {hp : List Blk} (h : Mat S w O hp) (n : Nat) : Mat (cutS S O n) w (restO O n) ((hp.take n).map (cutB hp n)) := by
  refine ⟨fun k hk => ?_, fun id g b ho => ?_, fun id id' g g' b h1 h2 => h.inj id id' g g' b (restO_some h1).2 (restO_some h2).2, fun id g ob ho => ?_⟩
  · rcases hk with hk | ⟨id, g, ho⟩
    · exact h.lt k hk
    · exact (h.own id g k (fromO_some ho).2).1
  · obtain ⟨hl, ho⟩ := restO_some ho
    refine ⟨(h.own id g b ho).1, ?_⟩
    rintro (hS | ⟨id', g', ho'⟩)
    · exact (h.own id g b ho).2 hS
    · have := h.inj id id' g g' b ho (fromO_some ho').2
      have := (fromO_some ho').1
      omega
  obtain ⟨hl, ho⟩ := restO_some ho
  have hb := h.blk id g ob ho
  rw [List.getElem?_map, List.getElem?_take, if_pos hl]
  cases hid : hp[id]? with
  | none => rw [hid] at hb; exact hb.elim
  | some b =>
    rw [hid] at hb
    cases b with
    | hole => exact hb.elim
    | gh c y => exact hb.elim
    | dead g' => exact hb
    | map st ks vs =>
      simp only [Option.map_some, cutB, BlkOk] at hb ⊢
      obtain ⟨h0, b, es, hob, hh, h1, h3, h4, h5⟩ := hb
      exact ⟨h0, b, es, hob, hh, h1, cutL_rep h n _ _ h3, by rw [cutL_length]; exact h4, h5⟩
    | iter mid k l c =>
      simp only [Option.map_some, cutB, BlkOk] at hb ⊢
      obtain ⟨h0, b, m, seen, hob, hh, h1, h2⟩ := hb
      by_cases hmid : mid < n
      · rw [if_pos hmid]
        refine ⟨h0, b, m, seen, hob, hh, ?_, h2⟩
        have := cut_rep h n (.mp mid 0) _ h1
        simpa only [cutV, if_pos hmid] using this
      · rw [if_neg hmid]; exact h0.symm
    | cells g' vs =>
      simp only [Option.map_some, cutB, BlkOk] at hb ⊢
      refine ⟨hb.1, ?_⟩
      cases ob with
      | none => simp only at hb ⊢; rw [hb.2]; rfl
      | some b =>
        obtain ⟨cur, e, hh, hrl, h1⟩ := hb.2
        exact ⟨cur, e, hh, cutL_rep h n _ _ hrl, h1⟩

theorem Evol.cut {S S' : Nat → Prop} {w w' : World} {O : OInfo} (h : Evol S S' w w' noO O) (n : Nat) : Evol S (cutS S' O n) w w' noO (restO O n) := by
  refine ⟨⟨fun k hk => ⟨.inl (h.ext.keep k hk).1, (h.ext.keep k hk).2⟩, fun _ _ _ h => (by cases h)⟩, h.os, h.tape, h.output, h.size, h.fz, h.old, fun k ⟨id, g, ho⟩ => h.fresh k ⟨id, g, (restO_some ho).2⟩, ?_⟩
  rintro k (hk | ⟨id, g, ho⟩)
  · exact h.grow k hk
  · exact .inr (h.fresh k ⟨id, g, (fromO_some ho).2⟩)

theorem Evol.less {S S' : Nat → Prop} {w w' : World} {O O' : OInfo} (h : Evol S S' w w' noO O) (ho : ∀ n, Own O' n → Own O n) : Evol S S' w w' noO O' :=
  ⟨⟨h.ext.keep, fun _ _ _ h => by cases h⟩, h.os, h.tape, h.output, h.size, h.fz, h.old, fun n hn => h.fresh n (ho n hn), h.grow⟩

/-- the list of blocks, cut -/
def cutH (n : Nat) (hp : List Blk) : List Blk := (hp.take n).map (cutB hp n)

/-! blocks change places -/
def sw (i j : Nat) (k : Nat) : Nat := if k = i then j else if k = j then i else k
mutual
def renV (f : Nat → Nat) : V → V
  | .ad id g off => .ad (f id) g off
  | .rf id g off len es => .rf (f id) g off len es
  | .mp id g => .mp (f id) g
  | .it id g => .it (f id) g
  | .ag cs => .ag (renL f cs)
  | .tp cs => .tp (renL f cs)
  | .fn g cs => .fn g (renL f cs)
  | .gv q v => .gv q (renV f v)
  | v => v
def renL (f : Nat → Nat) : List V → List V
  | [] => []
  | v :: vs => renV f v :: renL f vs
end
def renB (f : Nat → Nat) : Blk → Blk
  | .cells g vs => .cells g (renL f vs)
  | .map st ks vs => .map st ks (renL f vs)
  | .iter mid n l c => .iter (f mid) n l c
  | b => b
def swH (i j : Nat) (hp : List Blk) : List Blk := match hp[i]?, hp[j]? with
  | some a, some b => ((hp.set i b).set j a).map (renB (sw i j))
  | _, _ => []

inductive RC where
  | skip | reg (g : Bool) (l : List RO) | any (g : Bool) (m : Nat) (l : List AnyOp) | seq (a b : RC) | mid (a b : RC) | cond (c : Od) (a b : RC)
  | block (id : Nat) (a : RC) | loop (l : List Nat) (d : Option Nat) (a : RC) | exit (id : Nat) | ret
  | keep (l : List Nat) (a : RC) | drp (n : Nat) (a : RC) | own (t es : Nat) (a : RC) | ownc (t off es : Nat) (a : RC)
  | nxt (d m it : Nat) | rfn (f : Od) (ps : List Nat) (lo : Nat) (b a : RC) | yrg (g : Bool) (l1 : List RO) (y : RO) (ks : List Nat) (l2 : List RO)
  | swp (i j : Nat) (a : RC) | crl (g : Bool) (l1 : List RO) (y : RO) (l2 : List RO)

instance : Inhabited RC := ⟨.skip⟩

/-- the state at a loop's head: slots kept, blocks kept -/
def kp (l : List Nat) (d : Option Nat) (σ : St) : St := match d with
  | none => ⟨lkp (l.map fun t => (t, σ.fr t)), σ.hp⟩
  | some n => ⟨lkp (l.map fun t => (t, cutV σ.hp n (σ.fr t))), cutH n σ.hp⟩

def thenQ (K : St → Prop) (Q : Exit → St → Prop) : Exit → St → Prop
  | .normal, σ => K σ
  | e, σ => Q e σ
def blockQ (id : Nat) (Q : Exit → St → Prop) : Exit → St → Prop
  | .exit id', σ => if id' = id then Q .normal σ else Q (.exit id') σ
  | e, σ => Q e σ
/-- on behind an iterator's assignment -/
def rnQ (K : St → Prop) : Exit → St → Prop
  | .normal, σ => K σ
  | _, _ => False
/-- a round's end -/
def rndQ (Q : Exit → St → Prop) (lo : Nat) (fr0 : Nat → V) (I : List Blk → Prop) : Exit → St → Prop
  | .normal, σ => I (cutH lo σ.hp)
  | .exit id, σ => Q (.exit id) ⟨fr0, cutH lo σ.hp⟩
  | _, _ => False
def updL (fr : Nat → V) : List Nat → List V → Nat → V
  | p :: ps, v :: vs => updL (upd fr (some p) v) ps vs
  | _, _ => fr
/-- values that hang on no memory -/
def sfree : V → Bool
  | .yl _ => true
  | v => flat v
def yres (gd : Option (Nat × Bool)) (b : Bool) : V := match gd with | none => .b b | some _ => .gv true (.b b)
def slots (l : List Nat) (fr : Nat → V) : List (Nat × V) := l.map fun t => (t, fr t)

def wpR (Γ : Gam) (E : TypeId → Nat → Prop) : RC → (Exit → St → Prop) → St → Prop
  | .skip, Q, σ => Q .normal σ
  | .reg g l, Q, σ => runR Γ E g 0 l σ (Q .normal)
  | .any g m l, Q, σ => runX Γ E g σ.hp.length l [] ⟨σ.fr, σ.hp ++ List.replicate m .hole⟩ (Q .normal)
  | .seq a b, Q, σ => wpR Γ E a (thenQ (wpR Γ E b Q) Q) σ
  | .mid a b, Q, σ => ∃ M : St → Prop, wpR Γ E a (thenQ M Q) σ ∧ ∀ σ', M σ' → wpR Γ E b Q σ'
  | .cond c a b, Q, σ => match evO σ.fr c with
    | .b t => (t = true → wpR Γ E a Q σ) ∧ (t = false → wpR Γ E b Q σ)
    | _ => False
  | .block id a, Q, σ => wpR Γ E a (blockQ id Q) σ
  | .loop l d a, Q, σ => ∃ I : Nat → St → Prop, (∃ k, I k (kp l d σ)) ∧ ∀ k σ', I k σ' → wpR Γ E a (thenQ (fun σ'' => ∃ j, j < k ∧ I j (kp l d σ'')) Q) σ'
  | .exit id, Q, σ => Q (.exit id) σ
  | .ret, Q, σ => Q .ret σ
  | .keep l a, Q, σ => wpR Γ E a Q ⟨lkp (l.map fun t => (t, σ.fr t)), σ.hp⟩
  | .drp n a, Q, σ => wpR Γ E a Q ⟨fun t => cutV σ.hp n (σ.fr t), cutH n σ.hp⟩
  | .own t es a, Q, σ => match σ.fr t with
    | .z _ => wpR Γ E a Q ⟨upd σ.fr (some t) (.rf σ.hp.length 0 0 0 es), σ.hp ++ [.cells 0 []]⟩
    | _ => False
  | .ownc t off es a, Q, σ => match σ.fr t with
    | .ad id g o => match σ.hp[id]? with
      | some (.cells g' vs) => match vs[o + off]? with
        | some (.z _) => g' = g ∧ wpR Γ E a Q ⟨σ.fr, σ.hp.set id (.cells g (vs.set (o + off) (.rf σ.hp.length 0 0 0 es))) ++ [.cells 0 []]⟩
        | _ => False
      | _ => False
    | _ => False
  | .nxt d m it, Q, σ => match σ.fr it with
    | .it id g => match σ.hp[id]? with
      | some (.iter mid n left _) => match σ.hp[mid]? with
        | some (.map _ ks _) => g = 0 ∧ ks.length = n ∧ (left = [] → Q .normal ⟨upd (upd σ.fr (some d) .u) (some m) (.b false), σ.hp⟩) ∧
            ∀ j ∈ left, Q .normal ⟨upd (upd σ.fr (some d) .u) (some m) (.b true), σ.hp.set id (.iter mid n (left.erase j) (some j))⟩
        | _ => False
      | _ => False
    | _ => False
  | .rfn f ps lo b a, Q, σ => match evO σ.fr f with
    | .fn gf caps => match Γ (2000000 + gf) (caps.map (vw σ.hp 8)) with
      | (ok, .sl 0 ys) => gf < 1000000 ∧ ok ∧ hasRefL caps = false ∧ (∀ x ∈ ys, x.length = ps.length) ∧ ∃ I : Nat → List Blk → Prop, I 0 (cutH lo σ.hp) ∧
          (∀ k x hp, ys[k]? = some x → I k hp → wpR Γ E b (rnQ (wpR Γ E a (rndQ Q lo (fun t => cutV σ.hp lo (σ.fr t)) (I (k + 1))))) ⟨updL (fun t => cutV σ.hp lo (σ.fr t)) ps x, hp⟩) ∧
          ∀ hp, I ys.length hp → Q .normal ⟨fun t => cutV σ.hp lo (σ.fr t), hp⟩
      | _ => False
    | _ => False
  | .swp i j a, Q, σ => i < σ.hp.length ∧ j < σ.hp.length ∧ wpR Γ E a Q ⟨fun t => renV (sw i j) (σ.fr t), swH i j σ.hp⟩
  | .crl g l1 y l2, Q, σ => runR Γ E g 0 l1 σ fun σ1 => match y.x with
    | .o f args => match opv g σ1.fr f with
      | .fn gf caps => needW g y σ1.fr ∧ gf < 1000000 ∧ hasRefL (args.map (opv g σ1.fr) ++ caps) = false ∧ (Γ (3000000 + gf) ((args.map (opv g σ1.fr) ++ caps).map (vw σ1.hp 8))).1 ∧
          ∀ r bs, (Γ (4000000 + gf) (.tp (r :: bs) :: (args.map (opv g σ1.fr) ++ caps).map (vw σ1.hp 8))).1 →
            runR Γ E g 0 l2 ⟨upd σ1.fr y.dst (shV σ1.hp.length r), σ1.hp ++ (bs.map vB).map (shB σ1.hp.length)⟩ (Q .normal)
      | _ => False
    | _ => False
  | .yrg g l1 y ks l2, Q, σ => runR Γ E g 0 l1 σ fun σ1 => match condB σ1.fr y.gd with
    | none => False
    | some false => runR Γ E g 0 l2 ⟨upd σ1.fr y.dst (.gv false .u), σ1.hp⟩ (Q .normal)
    | some true => match y.x with
      | .o f args => match opv g σ1.fr f, σ1.hp with
        | .yl l, [.gh caps (some (x :: rest))] => needW g y σ1.fr ∧ caps[0]? = some (.yl l) ∧ args.map (opv g σ1.fr) = x ∧ flatL x = true ∧ (∀ t ∈ ks, sfree (σ1.fr t) = true ∨ caps[t]? = some (σ1.fr t)) ∧
            ∀ b, runR Γ E g 0 l2 ⟨upd (lkp (slots ks σ1.fr)) y.dst (yres y.gd b), [.gh caps (if b then some rest else none)]⟩ (Q .normal)
        | _, _ => False
      | _ => False

/-! ### the program's code, resolved ('r': the layout wanted, with its notes) -/
def noGuard (ops : Array Oper) : Bool := ops.all fun o => o.guard.isNone

def isNxt (N : Nat × Nat) (o1 o2 : Oper) (d m it : Nat) : Bool :=
  (match o1.dst, o1.op, o1.guard with
    | some d', .next (.tmp it') false, none => d' == d && it' == it && dstOk N (some d)
    | _, _, _ => false) &&
  (match o2.dst, o2.op, o2.guard with
    | some m', .extract (.tmp d') 0, none => m' == m && d' == d && dstOk N (some m)
    | _, _, _ => false)

/-- the call of yield in a region -/
def resY (P : Program) (N : Nat × Nat) (ops : Array Oper) (o : Oper) : Option RO :=
  if dstOk N o.dst && o.dst.isSome then
    match gdOf ops o.guard, resOc P o with
    | some gd, some x => some ⟨o.dst, gd, o.op.operands.toList.filterMap tmpOf, none, .o x.1 x.2⟩
    | _, _ => none
  else none

def resC (P : Program) (N : Nat × Nat) (o : Oper) : Option RO :=
  if dstOk N o.dst && o.guard.isNone then (resOc P o).map fun x => ⟨o.dst, none, o.op.operands.toList.filterMap tmpOf, none, .o x.1 x.2⟩ else none

def dOk (lo : Nat) : Option Nat → Bool | some n => decide (lo ≤ n) | none => true

/- top: 0 a round's body, 1 a function, 2 an iterator -/
def comp (P : Program) (pu : List Nat) (N : Nat × Nat) : Nat → Nat → RC → Code → Option RC
  | lo, top, .keep l a, c => (comp P pu N lo top a c).map (.keep l)
  | lo, top, .drp n a, c => if lo ≤ n then (comp P pu N lo top a c).map (.drp n) else none
  | lo, top, .own t es a, c => (comp P pu N lo top a c).map (.own t es)
  | lo, top, .ownc t off es a, c => (comp P pu N lo top a c).map (.ownc t off es)
  | _, _, .skip, .skip => some .skip
  | _, _, .reg g _, .region _ ops false => if g || noGuard ops then (ops.toList.mapM fun o => resO P pu N ops o).map (.reg g) else none
  | _, _, .nxt d m it, .region _ ops false => match ops.toList with
    | [o1, o2] => if isNxt N o1 o2 d m it then some (.nxt d m it) else none
    | _ => none
  | lo, top, .swp i j a, c => if top == 1 && lo == 0 then (comp P pu N lo top a c).map (.swp i j) else none
  | _, _, .crl g l1 _ l2, .region _ ops false => if g || noGuard ops then
      match ops[l1.length]? with
      | some o => match (ops.toList.take l1.length).mapM (fun o => resO P pu N ops o), resC P N o, (ops.toList.drop (l1.length + 1)).mapM (fun o => resO P pu N ops o) with
        | some r1, some y, some r2 => if r1.length == l1.length then some (.crl g r1 y r2) else none
        | _, _, _ => none
      | none => none
    else none
  | _, top, .yrg g l1 _ ks l2, .region _ ops false => if top == 2 && (g || noGuard ops) then
      match ops[l1.length]? with
      | some o => match (ops.toList.take l1.length).mapM (fun o => resO P pu N ops o), resY P N ops o, (ops.toList.drop (l1.length + 1)).mapM (fun o => resO P pu N ops o) with
        | some r1, some y, some r2 => if r1.length == l1.length then some (.yrg g r1 y ks r2) else none
        | _, _, _ => none
      | none => none
    else none
  | _, _, .any g m l, .region _ ops true =>
    if (g || noGuard ops) then
      match ops.toList.mapM fun o => resO P pu N ops o with
      | some rs =>
        let l' := rs.zipWith (fun r (x : AnyOp) => (⟨{ r with nid := x.o.nid }, x.js, x.an⟩ : AnyOp)) l
        if pairsB l' && ancB ops l' && decide (l'.length = rs.length) then some (.any g m l') else none
      | none => none
    else none
  | lo, top, .seq a b, .seq x y => match comp P pu N lo top a x, comp P pu N lo top b y with
    | some a', some b' => some (.seq a' b')
    | _, _ => none
  | lo, top, .mid a b, .seq x y => match comp P pu N lo top a x, comp P pu N lo top b y with
    | some a', some b' => some (.mid a' b')
    | _, _ => none
  | lo, top, .cond _ a b, .cond c x y => match rOd P 0 c, comp P pu N lo top a x, comp P pu N lo top b y with
    | some c', some a', some b' => some (.cond c' a' b')
    | _, _, _ => none
  | lo, top, .block _ a, .block id x => (comp P pu N lo top a x).map (.block id)
  | lo, top, .loop l d a, .loop x => if dOk lo d then (comp P pu N lo top a x).map (.loop l d) else none
  | lo, top, .rfn _ _ lo' b a, .rangeFunc f ps x y => if top == 1 && decide (lo ≤ lo') && ps.all (fun p => dstOk N (some p)) then
      match rOd P 0 f, comp P pu N lo' 0 b x, comp P pu N lo' 0 a y with
      | some f', some b', some a' => some (.rfn f' ps.toList lo' b' a')
      | _, _, _ => none
    else none
  | _, _, .exit _, .exit id => some (.exit id)
  | _, _, .ret, .ret => some .ret
  | _, _, _, _ => none
end Go.Fam
/- Resolved code is sound. -/
namespace Go.Fam
theorem resO_nid {P : Program} {pu : List Nat} {N : Nat × Nat} {ops : Array Oper} {o : Oper} {r : RO} (h : resO P pu N ops o = some r) : r.nid = none := by
  unfold resO at h
  split at h
  · split at h
    · cases h
    · split at h
      · split at h
        · rw [Option.map_eq_some_iff] at h
          obtain ⟨_, _, rfl⟩ := h
          rfl
        · cases h
      · split at h
        · cases h; rfl
        · split at h
          · rw [Option.map_eq_some_iff] at h
            obtain ⟨_, _, rfl⟩ := h
            rfl
          · cases h
  · cases h

theorem mapM_some {α β : Type} {f : α → Option β} : ∀ {l : List α} {r : List β}, l.mapM f = some r → l.map f = r.map some
  | [], r, h => by simp at h; subst h; rfl
  | x :: l, r, h => by
    rw [List.mapM_cons] at h
    simp only [Option.bind_eq_bind, Option.bind_eq_some_iff, Option.pure_def, Option.some.injEq] at h
    obtain ⟨y, hy, ys, hys, rfl⟩ := h
    simp [hy, mapM_some hys]

/-- the least number with a property -/
theorem least_ex {p : Nat → Prop} (h : ∃ k, p k) : ∃ k, p k ∧ ∀ j, p j → k ≤ j := by
  obtain ⟨k, hk⟩ := h
  induction k using Nat.strongRecOn with
  | _ k ih =>
    by_cases hj : ∃ j, j < k ∧ p j
    · obtain ⟨j, hj, hp⟩ := hj
      exact ih j hj hp
    · exact ⟨k, hk, fun j hpj => Nat.le_of_not_lt fun hlt => hj ⟨j, hlt, hpj⟩⟩

open Classical in
noncomputable def leastN (p : Nat → Prop) : Nat := if h : ∃ k, p k then (least_ex h).choose else 0
theorem leastN_spec {p : Nat → Prop} (h : ∃ k, p k) : p (leastN p) ∧ ∀ j, p j → leastN p ≤ j := by
  unfold leastN
  rw [dif_pos h]
  exact (least_ex h).choose_spec

theorem wpIn_loopN {F : Fence} {n : Nat} {P : Program} {c : Code} {Q : Exit → Act → World → Prop} {a : Act} {w : World} (I : Nat → Act → World → Prop) (h0 : ∃ k, I k a w)
    (round : ∀ k a w, I k a w → c.wpIn F n P (Exit.then (fun a' w' => ∃ j, j < k ∧ I j a' w') Q) a w) : (Code.loop c).wpIn F n P Q a w := by
  refine wpIn_loop (fun a w => ∃ k, I k a w) (fun a w => leastN fun k => I k a w) h0 fun a w h => ?_
  refine wpIn_mono (round _ a w (leastN_spec h).1) fun e a' w' he => ?_
  cases e <;> first | exact he | skip
  obtain ⟨j, hj, hI⟩ := he
  exact ⟨⟨j, hI⟩, Nat.lt_of_le_of_lt ((leastN_spec ⟨j, hI⟩).2 j hI) hj⟩

/-- what is carried along -/
abbrev Ctx := (Nat → Prop) → World → OInfo → List Deferred → Option (List V × Option (List (List V))) → Prop
abbrev col (D : Nat) : Deferred := { target := .collected D, args := #[] }
abbrev Gh := Option (List V × Option (List (List V)))

structure CtxOk (P : Program) (F : Fence) (n : Nat) (M : FrI) (C : Ctx) (lo : Nat) (top : Nat) (base : Nat) : Prop where
  evol : ∀ {S S' : Nat → Prop} {w w' : World} {O O' : OInfo} {ds : List Deferred} {h h' : Gh}, C S w O ds h → (∀ k, S k → k < w.heap.size) → Evol S S' w w' O O' → (∀ y, h = some y → h' = some y) → C S' w' O' ds h'
  cut : ∀ {S : Nat → Prop} {w : World} {O : OInfo} {ds : List Deferred} {h h' : Gh} {k : Nat}, C S w O ds h → lo ≤ k → (1 ≤ lo → ∀ y, h = some y → h' = some y) → C (cutS S O k) w (restO O k) ds h'
  rnd : top = 1 → F.round = none
  big : top = 1 → ∀ {S : Nat → Prop} {w : World} {O : OInfo} {ds : List Deferred} {h : Gh}, C S w O ds h → base ≤ w.heap.size
  turn : top = 1 → ∀ {S : Nat → Prop} {w : World} {O : OInfo} {ds : List Deferred} {h : Gh} {L : Nat} {r r' : Loop}, C S w O ds h → w.heap[L]? = some (.loop r) → ¬ S L → ¬ Own O L → base ≤ L → C S (w.putObj L (.loop r')) O ds h
  enter : top = 1 → ∀ {S : Nat → Prop} {w : World} {O : OInfo} {ds : List Deferred} {h : Gh} {r : Loop}, C S w O ds h → (∀ k, S k → k < w.heap.size) → (∀ k, Own O k → k < w.heap.size) →
    C S ((w.alloc (.deferred (some []))).alloc (.loop r)) O (col w.heap.size :: ds) h
  ren : top = 1 → lo = 0 → ∀ {S : Nat → Prop} {w : World} {O O' : OInfo} {ds : List Deferred} {h h' : Gh}, C S w O ds h → (∀ k, Own O' k → Own O k) → C S w O' ds h'
  yld : top = 2 → ∀ {S : Nat → Prop} {w : World} {O : OInfo} {ds : List Deferred} {caps x : List V} {rest : List (List V)} {cx : Array Value} {l : Nat}, C S w O ds (some (caps, some (x :: rest))) → (∀ k, S k → k < w.heap.size) → (∀ id, O id = none) → caps[0]? = some (.yl l) →
    RepL (fun _ => False) w noO x cx.toList → cx.size = x.length → YieldAt F (n - 1) P l cx w fun e W' => ∃ b S', e = .returned (.bool b) ∧ C S' W' noO ds (some (caps, if b then some rest else none)) ∧
      (∀ k, S' k → k < W'.heap.size) ∧ ∀ t v, caps[t]? = some v → t < M.md ∧ Rep S' W' noO v (M.T t)

structure At (C : Ctx) (M : FrI) (S : Nat → Prop) (w : World) (O : OInfo) (σ : St) (a : Act) : Prop where
  ctx : C S w O a.defers (ghO σ.hp)
  sr : SR M S w O σ a

section
variable {P : Program} {F : Fence} {n : Nat} {Γ : Gam} {pu : List Nat} {M : FrI} {C : Ctx} {lo base : Nat} {top : Nat}

theorem ghO_cut {hp : List Blk} {y : List V × Option (List (List V))} (h : ghO hp = some y) {k : Nat} (hk : 1 ≤ k) : ghO (cutH k hp) = some y := by
  refine ghO_of ?_
  have := ghO_at h
  unfold cutH
  rw [List.getElem?_map, List.getElem?_take, if_pos (by omega), this]
  rfl

theorem lkp_rep (l : List Nat) (fr : Nat → V) (t : Nat) : lkp (l.map fun t => (t, fr t)) t = fr t ∨ lkp (l.map fun t => (t, fr t)) t = .u := by
  induction l with
  | nil => exact .inr rfl
  | cons k l ih =>
    simp only [List.map_cons, lkp]
    split
    · rename_i e; subst e; exact .inl rfl
    · exact ih

theorem lkp_out (l : List Nat) (fr : Nat → V) (t : Nat) (h : t ∉ l) : lkp (l.map fun t => (t, fr t)) t = .u := by
  induction l with
  | nil => rfl
  | cons k l ih =>
    simp only [List.mem_cons, not_or] at h
    simp only [List.map_cons, lkp]
    rw [if_neg h.1]
    exact ih h.2

theorem frM_keep {S : Nat → Prop} {w : World} {O : OInfo} {fr : Nat → V} {a : Act} (h : FrM S w O fr a) (l : List Nat) : FrM S w O (lkp (l.map fun t => (t, fr t))) a := by
  intro t
  rcases lkp_rep l fr t with e | e
  · rw [e]; exact h t
  · rw [e]; simp [Rep]

theorem At.keep {S : Nat → Prop} {w : World} {O : OInfo} {σ : St} {a : Act} (h : At C M S w O σ a) (l : List Nat) : At C M S w O ⟨lkp (l.map fun t => (t, σ.fr t)), σ.hp⟩ a :=
  ⟨h.ctx, ⟨h.sr.size, h.sr.kept, frM_keep h.sr.fr l, h.sr.mat⟩⟩
theorem At.drp (hC : CtxOk P F n M C lo top base) {S : Nat → Prop} {w : World} {O : OInfo} {σ : St} {a : Act} (h : At C M S w O σ a) {k : Nat} (hk : lo ≤ k) :
    At C M (cutS S O k) w (restO O k) ⟨fun t => cutV σ.hp k (σ.fr t), cutH k σ.hp⟩ a :=
  ⟨hC.cut h.ctx hk fun hl y hy => ghO_cut hy (by omega), ⟨h.sr.size, h.sr.kept, fun t => cut_rep h.sr.mat k _ _ (h.sr.fr t), cut_mat h.sr.mat k⟩⟩
theorem At.kp (hC : CtxOk P F n M C lo top base) {S : Nat → Prop} {w : World} {O : OInfo} {σ : St} {a : Act} (h : At C M S w O σ a) (l : List Nat) (d : Option Nat) (hd : ∀ k, d = some k → lo ≤ k) :
    ∃ S' O', At C M S' w O' (Fam.kp l d σ) a := by
  cases d with
  | none => exact ⟨S, O, h.keep l⟩
  | some k => exact ⟨_, _, (h.drp hC (hd k rfl)).keep l⟩

theorem Later.evol {S : Nat → Prop} {w w' : World} {O : OInfo} (h : Later w w') (hS : ∀ k, S k → k < w.heap.size) (hO : ∀ k, Own O k → k < w.heap.size) : Evol S S w w' O O :=
  ⟨⟨fun k hk => ⟨hk, h.old k (hS k hk)⟩, fun id g ob ho => ⟨g, ob, ho, Nat.le_refl _, fun _ => ⟨rfl, fun b cur e hb hh => ⟨cur, (h.old b (hO b ⟨id, g, by rw [ho, hb]⟩)).trans hh, rfl⟩⟩⟩⟩,
    h.os, h.tape, h.output, h.size, h.fz, fun k hk _ => h.old k hk, fun _ h => .inl h, fun _ h => .inl h⟩

/-- regions, where more follows -/
theorem run_ops' (hG : GOk P Γ) (hF : OpenF F) {ops : Array Oper} {g : Bool} {b0 : Nat} (hg : g = false → ∀ o ∈ ops, o.guard = none) {Q : Exit → Act → World → Prop} {K : St → Prop} (rest : List Nat) :
    ∀ (l : List RO) (k : Nat) (σ : St) (S : Nat → Prop) (w : World) (O : OInfo) (a : Act), (∀ q r, l[q]? = some r → ∃ o, ops[k + q]? = some o ∧ resO P pu M.nm ops o = some { r with nid := none }) →
      runR Γ (EqFlat P) g b0 l σ K → SR M S w O σ a →
      (∀ τ S' w' O' a', K τ → (∀ y, ghO σ.hp = some y → ghO τ.hp = some y) → Evol S S' w w' O O' → SR M S' w' O' τ a' → a'.defers = a.defers → wpOpsIn F n P ops Q rest a' w') →
      wpOpsIn F n P ops Q (List.range' k l.length ++ rest) a w := by
  intro l
  induction l with
  | nil => intro k σ S w O a _ hrun hsr hK; exact hK σ S w O a hrun (fun _ h => h) (Evol.refl _ _ _) hsr rfl
  | cons r l ih =>
    intro k σ S w O a hops hrun hsr hK
    obtain ⟨hok, hrun⟩ := hrun
    rw [List.length_cons, List.range'_succ, List.cons_append, wpOpsIn_cons]
    obtain ⟨o, ho, hro⟩ := hops 0 r rfl
    refine op_step hG hF ho hro (fun hgf => hg hgf o (Array.mem_of_getElem? ho)) hsr hok ?_
    intro S' w' O' a' hev hsr' hdef
    refine ih (k + 1) _ S' w' O' a' ?_ hrun hsr' fun τ S'' w'' O'' a'' hKτ hgh hev' hsr'' hdef' => hK τ S'' w'' O'' a'' hKτ (fun y hy => hgh y (step_gh hok hy)) (hev.trans hev') hsr'' (hdef'.trans hdef)
    intro q r' hr'
    have := hops (q + 1) r' (by simpa using hr')
    rwa [Nat.add_comm q 1, ← Nat.add_assoc] at this

theorem cond_rep {S : Nat → Prop} {w : World} {O : OInfo} {fr : Nat → V} {a : Act} (h : FrM S w O fr a) {k' : Operand} {k1 : Od} {t : Bool} (h0 : rOd P 0 k' = some k1) (hk : evO fr k1 = .b t) : a.eval k' = .bool t := by
  have hrep : Rep S w O (evO fr k1) (a.eval k') := by
    cases k' with
    | tmp t' => simp only [rOd, Option.some.injEq] at h0; subst h0; exact h t'
    | const v =>
      simp only [rOd, Option.map_eq_some_iff] at h0
      obtain ⟨v', hv, rfl⟩ := h0
      exact cV_ok hv S w O
    | func f => simp only [rOd, Option.some.injEq] at h0; subst h0; simp [evO] at hk
    | global g => simp [rOd] at h0
  rw [hk] at hrep
  simpa [Rep] using hrep

theorem evO_rep {S : Nat → Prop} {w : World} {O : OInfo} {fr : Nat → V} {a : Act} (h : FrM S w O fr a) {k' : Operand} {k1 : Od} (h0 : rOd P 0 k' = some k1) : Rep S w O (evO fr k1) (a.eval k') := by
  cases k' with
  | tmp t' => simp only [rOd, Option.some.injEq] at h0; subst h0; exact h t'
  | const v =>
    simp only [rOd, Option.map_eq_some_iff] at h0
    obtain ⟨v', hv, rfl⟩ := h0
    exact cV_ok hv S w O
  | func f =>
    simp only [rOd, Option.some.injEq] at h0
    subst h0
    simp only [evO, Act.eval, Rep]
    exact ⟨#[], rfl, rfl, by simp [RepL]⟩
  | global g => simp [rOd] at h0

theorem dstOk_some {d : Nat} (h : dstOk M.nm (some d) = true) : d < M.n ∧ M.md ≤ d := by
  simp only [dstOk, Bool.and_eq_true] at h
  exact ⟨of_decide_eq_true h.1, of_decide_eq_true h.2⟩

/-- a map's iterator goes on -/
theorem nxt_sound (hF : OpenF F) {N : Nat × Nat} {id' : Nat} {o1 o2 : Oper} {d m it : Nat} {ops : Array Oper} (hops : ops.toList = [o1, o2]) (hx : isNxt M.nm o1 o2 d m it = true)
    {Q : Exit → St → Prop} {Q' : Exit → Act → World → Prop} {σ : St} {S : Nat → Prop} {w : World} {O : OInfo} {a : Act} (hw : wpR Γ (EqFlat P) (.nxt d m it) Q σ) (hsr : SR M S w O σ a)
    (hQ : ∀ σ' w' a', Q .normal σ' → Evol S S w w' O O → (∀ y, ghO σ.hp = some y → ghO σ'.hp = some y) → SR M S w' O σ' a' → a'.defers = a.defers → Q' .normal a' w') : (Code.region id' ops false).wpIn F n P Q' a w := by
  have hops' : ops = #[o1, o2] := by rw [← hops]
  subst hops'
  unfold isNxt at hx
  simp only [Bool.and_eq_true] at hx
  obtain ⟨hx1, hx2⟩ := hx
  split at hx1
  · rename_i d' it' hd1 hop1 hg1
    split at hx2
    · rename_i m' d'' hd2 hop2 hg2
      simp only [Bool.and_eq_true, beq_iff_eq] at hx1 hx2
      obtain ⟨⟨rfl, rfl⟩, hdl⟩ := hx1
      obtain ⟨⟨rfl, rfl⟩, hml⟩ := hx2
      have hdl : d'' < M.n ∧ M.md ≤ d'' := dstOk_some hdl
      have hml : m' < M.n ∧ M.md ≤ m' := dstOk_some hml
      simp only [wpR] at hw
      have r1 := hsr.fr it'
      cases hit : σ.fr it' <;> simp only [hit] at hw <;> try exact hw.elim
      case it id g =>
        rw [hit] at r1
        cases hid : σ.hp[id]? with
        | none => simp [hid] at hw
        | some bk =>
          cases bk <;> simp only [hid] at hw <;> try exact hw.elim
          case iter mid nn left cur =>
            cases hmid : σ.hp[mid]? with
            | none => simp [hmid] at hw
            | some bk2 =>
              cases bk2 <;> simp only [hmid] at hw <;> try exact hw.elim
              case map st ks vs =>
                obtain ⟨rfl, hn, hw0, hw1⟩ := hw
                simp only [Rep] at r1
                obtain ⟨_, g', ob, hO, _, h1⟩ := r1
                have hbk := hsr.mat.blk id g' ob hO
                rw [hid] at hbk
                simp only [BlkOk] at hbk
                obtain ⟨rfl, b, mm, seen, rfl, hbi, hmp, hnd, hleft, hcur⟩ := hbk
                obtain ⟨b', hb', hc⟩ := h1 rfl
                cases hb'
                have hmp' : Rep S w O (.mp mid 0) (.map (some mm)) := by simp only [Rep]; exact hmp
                obtain ⟨b2, es, hO2, hc2, hb2, hes, hvs, hvl, hnd2, hst1⟩ := mp_block hsr.mat hmp' hmid rfl
                cases hc2
                have hes' := mapEs_len hes
                have hborn : ∀ x ∈ es.toList, x.born < nn := by
                  intro x hx
                  obtain ⟨i, hi⟩ := List.getElem?_of_mem hx
                  rw [Array.getElem?_toList] at hi
                  have h1 := hes.2 i x hi
                  have h2 := (Array.getElem?_eq_some_iff.1 hi).1
                  omega
                have hmem : ∀ j e, es[j]? = some e → j ∉ seen.toList → e ∈ (leftOf es seen).toList := by
                  intro j e he hj
                  have := hes.2 j e he
                  simp only [leftOf, Array.toList_filter, List.mem_filter]
                  refine ⟨by have := Array.mem_of_getElem? he; simpa using this, ?_⟩
                  rw [this]; simpa using hj
                have hfr2 : ∀ (c : Value) (bb : Bool) (w' : World), Evol S S w w' O O → Rep S w' O (.b bb) (.bool bb) := fun _ _ _ _ => by simp [Rep]
                have fin : ∀ (tv : Array Value) (bb : Bool) (w' : World) (hp' : List Blk), (execOp a.eval o1).run P w = .ok (.value (.tuple tv)) w' → tv[0]? = some (.bool bb) → Evol S S w w' O O → Mat S w' O hp' →
                    (∀ y, ghO σ.hp = some y → ghO hp' = some y) → Q .normal ⟨upd (upd σ.fr (some d'') .u) (some m') (.b bb), hp'⟩ → (Code.region id' #[o1, o2] false).wpIn F n P Q' a w := by
                  intro tv bb w' hp' hrun htv hev hmat hgh hQn
                  refine wpIn_region ?_
                  show wpOpsIn F n P #[o1, o2] Q' [0, 1] a w
                  rw [wpOpsIn_cons]
                  simp only [wpOpIn, List.getElem?_toArray, List.getElem?_cons_zero]
                  have hw1 : Region.wanted o1 (yielded #[o1, o2] a.tmps) = true := by simp [Region.wanted, hg1]
                  rw [if_pos hw1]
                  refine wpIn_value hF (by simp [hop1]) hrun ?_
                  rw [wpOpsIn_cons]
                  simp only [wpOpIn, List.getElem?_toArray, List.getElem?_cons_succ, List.getElem?_cons_zero]
                  have hw2 : Region.wanted o2 (yielded #[o1, o2] (a.put o1.dst (.tuple tv)).tmps) = true := by simp [Region.wanted, hg2]
                  rw [if_pos hw2]
                  have hlt : d'' < a.tmps.size := by rw [hsr.size]; exact hdl.1
                  have hdv : (a.put o1.dst (.tuple tv)).tmps.getD d'' undef = .tuple tv := by simp [hd1, Act.put, hlt]
                  refine wpIn_value (w' := w') (c := .bool bb) hF (by simp [hop2]) ?_ ?_
                  · have : (a.put o1.dst (.tuple tv)).eval (.tmp d'') = .tuple tv := hdv
                    simp [execOp, hop2, this, Instr.extract, htv]
                  · rw [wpOpsIn]
                    refine hQ _ w' _ hQn hev hgh ⟨by rw [put_size, put_size]; exact hsr.size, ?_, ?_, hmat⟩ (by rw [put_defers, put_defers])
                    · intro t ht
                      rw [put_ne _ _ _ _ (by intro d0 h0; rw [hd2] at h0; cases h0; omega), put_ne _ _ _ _ (by intro d0 h0; rw [hd1] at h0; cases h0; omega)]
                      exact hsr.kept t ht
                    · have f1 : FrM S w' O (upd σ.fr (some d'') .u) (a.put o1.dst (.tuple tv)) := by
                        rw [hd1]
                        exact FrM.put hsr.fr hev.ext (fun d0 h0 => by cases h0; exact hlt) (by simp [Rep])
                      rw [hd2]
                      exact FrM.put (dst := some m') f1 (Ext.refl _ _ _) (fun d0 h0 => by cases h0; rw [put_size, hsr.size]; exact hml.1) (by simp [Rep])
                rcases run_next_at (P := P) w o1.type b mm nn nn seen es es.size hbi hb2 hborn (Nat.le_refl _) with ⟨h0, hrun⟩ | ⟨e, he, w1, hw1', hrun⟩
                · have hl0 : left = [] := by
                    rw [List.eq_nil_iff_forall_not_mem]
                    intro j hj
                    obtain ⟨hj1, hj2⟩ := (hleft j).1 hj
                    obtain ⟨e, he⟩ : ∃ e : MapEntry, es[j]? = some e := ⟨_, Array.getElem?_eq_getElem (by omega)⟩
                    have := hmem j e he hj2
                    have hz : leftOf es seen = #[] := Array.eq_empty_of_size_eq_zero h0
                    rw [hz] at this
                    simp at this
                  refine fin #[.bool false] false w σ.hp ?_ rfl (Evol.refl _ _ _) hsr.mat (fun _ h => h) (hw0 hl0)
                  have hit' : a.eval (.tmp it') = .pointer (some ⟨b, 0, none⟩) := hc
                  simp only [execOp, hop1, hit', hrun, Sem.run_bind, Result.andThen_ok, Sem.run_pure]
                · obtain ⟨j, hj⟩ : ∃ j, es[j]? = some e := by
                    simp only [leftOf, Array.toList_filter, List.mem_filter] at he
                    obtain ⟨j, hj⟩ := List.getElem?_of_mem he.1
                    exact ⟨j, by rwa [Array.getElem?_toList] at hj⟩
                  have hjb := hes.2 j e hj
                  have hjlt := (Array.getElem?_eq_some_iff.1 hj).1
                  have hjs : j ∉ seen.toList := by
                    simp only [leftOf, Array.toList_filter, List.mem_filter] at he
                    have := he.2
                    rw [hjb] at this
                    simpa using this
                  have hjl : j ∈ left := (hleft j).2 ⟨by omega, hjs⟩
                  have hidlt := getElemLt hid
                  obtain ⟨ho, hheap⟩ : (∃ ev : Evol S S w w1 O O, True) ∧ w1.heap = w.heap := by
                    rcases hw1' with rfl | rfl
                    · exact ⟨⟨Evol.refl _ _ _, trivial⟩, rfl⟩
                    · exact ⟨⟨evol_drew S w O, trivial⟩, rfl⟩
                  obtain ⟨ev, _⟩ := ho
                  have hm1 : Mat S w1 O σ.hp := by
                    rcases hw1' with rfl | rfl
                    · exact hsr.mat
                    · exact mat_drew hsr.mat
                  obtain ⟨hev, hmat⟩ := put_obj hm1 hO (o' := .mapIter (some mm) nn (seen.push e.born) nn) (by rw [hheap]; exact hbi) rfl rfl hidlt (x := .iter mid nn (left.erase j) (some j)) fun hx hnew => by
                    refine ⟨rfl, b, mm, seen.push e.born, rfl, hnew, ?_, hnd.erase _, fun k => ?_, fun k hk => ?_⟩
                    · exact Rep.ext (ev.ext.trans hx) _ _ hmp'
                    · rw [hnd.mem_erase_iff, hleft k, hjb]
                      simp only [Array.toList_push, List.mem_append, List.mem_singleton]
                      constructor
                      · rintro ⟨h1, h2, h3⟩; exact ⟨h2, fun h => h.elim h3 h1⟩
                      · rintro ⟨h1, h2⟩; exact ⟨fun h => h2 (.inr h), h1, fun h => h2 (.inl h)⟩
                    · cases hk
                      exact ⟨by rw [hjb]; simp, by omega⟩
                  refine fin #[.bool true, e.key, e.val] true _ _ ?_ rfl (ev.trans hev) hmat (fun y hy => ghO_set hy hid (fun _ _ h => by cases h)) (hw1 j hjl)
                  have hit' : a.eval (.tmp it') = .pointer (some ⟨b, 0, none⟩) := hc
                  simp only [execOp, hop1, hit', hrun, Sem.run_bind, Result.andThen_ok, Sem.run_pure]
                  rw [hes', hn]
                  rfl
    · cases hx2
  · cases hx1

theorem sfree_rep {S S' : Nat → Prop} {w w' : World} {O O' : OInfo} {v : V} {c : Value} (h : sfree v = true) (hr : Rep S w O v c) : Rep S' w' O' v c := by
  cases v <;> simp only [sfree] at h <;> first | exact flat_rep _ _ h hr | skip
  case yl l => simpa only [Rep] using hr

theorem resO_at {ops : Array Oper} {off cnt : Nat} {r1 : List RO} (h : ((ops.toList.drop off).take cnt).mapM (fun o => resO P pu M.nm ops o) = some r1) : ∀ q r, r1[q]? = some r → ∃ o, ops[off + q]? = some o ∧ resO P pu M.nm ops o = some { r with nid := none } := by
  intro q r hq
  have hm := mapM_some h
  have h1 := congrArg (fun l => l[q]?) hm
  simp only [List.getElem?_map, hq, Option.map_some, List.getElem?_take, List.getElem?_drop] at h1
  split at h1
  · rw [Option.map_eq_some_iff] at h1
    obtain ⟨o, ho, hr⟩ := h1
    refine ⟨o, by simpa using ho, ?_⟩
    have := resO_nid hr
    rw [hr]
    cases r; simp_all
  · cases h1

/-- a region with a call of yield -/
theorem yrg_sound (hG : GOk P Γ) (hF : OpenF F) (hC : CtxOk P F n M C lo 2 base) {g : Bool} {r1 r2 : List RO} {y : RO} {ks : List Nat} {id : Nat} {ops : Array Oper} {o : Oper} (hgd : (g || noGuard ops) = true)
    (ho : ops[r1.length]? = some o) (h1 : (ops.toList.take r1.length).mapM (fun o => resO P pu M.nm ops o) = some r1) (hy : resY P M.nm ops o = some y) (h2 : (ops.toList.drop (r1.length + 1)).mapM (fun o => resO P pu M.nm ops o) = some r2)
    {Q : Exit → St → Prop} {Q' : Exit → Act → World → Prop} {σ : St} {S : Nat → Prop} {w : World} {O : OInfo} {a : Act} (hw : wpR Γ (EqFlat P) (.yrg g r1 y ks r2) Q σ) (hat : At C M S w O σ a)
    (hQ : ∀ σ' S' w' O' a', Q .normal σ' → At C M S' w' O' σ' a' → Q' .normal a' w') : (Code.region id ops false).wpIn F n P Q' a w := by
  have hgn : g = false → ∀ o ∈ ops, o.guard = none := by
    intro hg o ho
    subst hg
    simp only [Bool.false_or, noGuard] at hgd
    have := Array.all_eq_true_iff_forall_mem.1 hgd o ho
    simpa using this
  have hlt := (Array.getElem?_eq_some_iff.1 ho).1
  have hl2 : r2.length = ops.size - (r1.length + 1) := by
    have := congrArg List.length (mapM_some h2)
    simpa using this.symm
  refine wpIn_region ?_
  have hrange : List.range ops.size = List.range' 0 r1.length ++ (r1.length :: List.range' (r1.length + 1) r2.length) := by
    rw [List.range_eq_range', ← List.range'_succ]
    have := List.range'_append_1 (s := 0) (m := r1.length) (n := r2.length + 1)
    rw [Nat.zero_add] at this
    rw [this]
    congr 1
    omega
  rw [hrange]
  refine run_ops' hG hF (pu := pu) hgn _ r1 0 σ S w O a (resO_at (off := 0) (cnt := r1.length) (by simpa using h1)) hw hat.sr ?_
  intro σ1 S1 w1 O1 a1 hw1 hgh1 hev1 hsr1 hd1
  have hat1 : At C M S1 w1 O1 σ1 a1 := ⟨by rw [hd1]; exact hC.evol hat.ctx hat.sr.mat.lt hev1 hgh1, hsr1⟩
  have rest : ∀ (σ2 : St) S2 w2 O2 a2, At C M S2 w2 O2 σ2 a2 → runR Γ (EqFlat P) g 0 r2 σ2 (Q .normal) → wpOpsIn F n P ops Q' (List.range' (r1.length + 1) r2.length) a2 w2 := by
    intro σ2 S2 w2 O2 a2 hat2 hrun
    have := run_ops' hG hF (pu := pu) (n := n) (Q := Q') hgn [] r2 (r1.length + 1) σ2 S2 w2 O2 a2 (resO_at (off := r1.length + 1) (cnt := ops.size) (by
      rw [List.take_of_length_le (by simp)]; exact h2)) hrun hat2.sr (fun τ S' w' O' a' hK hgh hev hsr hd => by
        rw [wpOpsIn]
        exact hQ τ S' w' O' a' hK ⟨by rw [hd]; exact hC.evol hat2.ctx hat2.sr.mat.lt hev hgh, hsr⟩)
    simpa using this
  have hrO : ∀ (q : Nat) (r : RO), r2[q]? = some r → True := fun _ _ _ => trivial
  rw [wpOpsIn_cons]
  simp only [wpOpIn, ho]
  -- the call of yield
  unfold resY at hy
  split at hy
  · rename_i hds
    simp only [Bool.and_eq_true] at hds
    obtain ⟨d, hd⟩ : ∃ d, o.dst = some d := by
      cases h : o.dst with
      | none => simp [h] at hds
      | some d => exact ⟨d, rfl⟩
    have hdl : d < M.n ∧ M.md ≤ d := by have := hds.1; rw [hd] at this; exact dstOk_some this
    have hdsz : d < a1.tmps.size := by rw [hsr1.size]; exact hdl.1
    split at hy
    · rename_i gd fx hgdo hroc
      obtain ⟨f, xs⟩ := fx
      simp only [Option.some.injEq] at hy
      subst hy
      simp only [hd] at hw1
      have hkept : ∀ (c : Value) t, t < M.md → (a1.put o.dst c).tmps.getD t undef = M.T t := fun c t ht => (put_ne a1 o.dst c t fun d' hd' => by rw [hd] at hd'; cases hd'; omega).trans (hsr1.kept t ht)
      have wantc : ∀ c, condB σ1.fr gd = some c → Region.wanted o (yielded ops a1.tmps) = c := by
        intro c hc
        cases hgo : o.guard with
        | none =>
          rw [hgo] at hgdo
          simp only [gdOf, Option.some.injEq] at hgdo
          subst hgdo
          simp only [condB, Option.some.injEq] at hc
          simp [Region.wanted, hgo, ← hc]
        | some jw =>
          obtain ⟨j, want⟩ := jw
          rw [hgo] at hgdo
          simp only [gdOf, Option.map_eq_some_iff] at hgdo
          obtain ⟨s, hs, rfl⟩ := hgdo
          exact yield_cond hsr1.fr hgo hs hc
      cases hc : condB σ1.fr gd with
      | none => simp [hc] at hw1
      | some c =>
        have hwant := wantc c hc
        rw [hwant]
        cases c with
        | false =>
          rw [if_neg (by simp)]
          simp only [hc] at hw1
          refine ⟨fun f _ => hF.1 f, ?_⟩
          refine rest ⟨upd σ1.fr (some d) (.gv false .u), σ1.hp⟩ S1 w1 O1 _ ⟨by rw [put_defers]; exact hat1.ctx, ⟨by rw [put_size]; exact hsr1.size, hkept _, ?_, hsr1.mat⟩⟩ hw1
          rw [hd]
          exact FrM.put (dst := some d) hsr1.fr (Ext.refl _ _ _) (fun d0 h0 => by cases h0; exact hdsz) (by simp only [Rep]; exact ⟨fun h => (by cases h), fun _ => trivial⟩)
        | true =>
          rw [if_pos rfl]
          simp only [hc] at hw1
          split at hw1
          · rename_i l caps x rs hfv hhp
            obtain ⟨hneed, hc0, hargs, hflat, hks, hK⟩ := hw1
            have hgh : ghO σ1.hp = some (caps, some (x :: rs)) := by rw [hhp]; rfl
            have hno : ∀ id, O1 id = none := by
              intro id
              cases hO : O1 id with
              | none => rfl
              | some p =>
                exfalso
                have hb := hsr1.mat.blk id p.1 p.2 hO
                rw [hhp] at hb
                cases id with
                | zero => exact hb.elim
                | succ id => exact hb.elim
            have hods : OdsOk P S1 w1 O1 (opv g σ1.fr) a1.eval o := by
              cases g with
              | false => exact odsOk_plain hsr1.fr o
              | true => exact odsOk_guard hsr1.fr o hneed
            unfold resOc at hroc
            unfold OdsOk at hods
            cases hop : o.op <;> rw [hop] at hroc hods <;> simp only [Op.operands] at hods <;> first | (simp at hroc; done) | (try dsimp only at hroc)
            case call cl =>
              split at hroc
              · rename_i f0 hcal
                simp only [Option.bind_eq_bind, Option.bind_eq_some_iff, Option.pure_def, Option.some.injEq, Prod.mk.injEq] at hroc
                obtain ⟨f', hf, ods, hodse, rfl, rfl⟩ := hroc
                have q1 := hods f0 (by simp [Call.operands, hcal]) _ _ hf
                have qs := rOds_rep _ _ _ hodse (fun x hx => hods x (by simp only [Call.operands, Array.mem_append]; exact .inr (by simpa using hx)))
                rw [hfv] at q1
                have hcv : a1.eval f0 = .func (.yield l) #[] #[] := by simpa only [Rep] using q1
                have hxrep : RepL (fun _ => False) w1 noO x (cl.args.map a1.eval).toList := by
                  rw [← hargs] at hflat ⊢
                  exact flatL_rep _ _ hflat (by simpa using qs.1)
                have hcx : (cl.args.map a1.eval).size = x.length := by rw [← hargs]; simp [qs.2]
                have hyl := hC.yld rfl (by have := hat1.ctx; rw [hgh] at this; exact this) hsr1.mat.lt hno hc0 hxrep hcx
                obtain ⟨fn, tm, as, bd, hyr, hround⟩ := hyl
                refine ⟨fun f _ => hF.1 f, ?_⟩
                rw [Oper.semAt_eq _ _ _ (by simp [hop])]
                have hex : (execOp a1.eval o).run P w1 = .ok (.round l fn tm as bd) w1 := by
                  have hdv : (resolve a1.eval cl o.type).run P w1 = .ok { target := .fn (.yield l) #[], args := cl.args.map a1.eval } w1 := by
                    simp [resolve, hcal, hcv, Deferred.ofValue]
                  simp only [execOp, hop, Sem.run_bind, hdv, Result.andThen_ok, invoke]
                  exact hyr
                rw [hex, Oper.uponIn_round]
                refine ⟨fun hh => by simp [hF.2.1] at hh, hround.mono ?_⟩
                rintro e w2 ⟨b, S2, rfl, hctx, hlt2, hcaps⟩
                have := hK b
                refine rest _ S2 w2 noO _ ⟨by rw [put_defers]; exact hctx, ⟨by rw [put_size]; exact hsr1.size, hkept _, ?_, ⟨hlt2, fun _ _ _ h => (by cases h), fun _ _ _ _ _ h => (by cases h), fun _ _ _ h => (by cases h)⟩⟩⟩ this
                intro t
                simp only [hd, upd, Act.put]
                split
                · rename_i e; subst e
                  have : (a1.tmps.setIfInBounds t (.bool b)).getD t undef = .bool b := by simp [hdsz]
                  rw [this]
                  unfold yres
                  cases gd <;> simp [Rep]
                · rename_i e
                  have hne : (a1.tmps.setIfInBounds d (.bool b)).getD t undef = a1.tmps.getD t undef := by simp [Array.getElem?_setIfInBounds_ne (Ne.symm e)]
                  rw [hne]
                  rcases lkp_rep ks σ1.fr t with h0 | h0
                  · unfold slots
                    rw [h0]
                    by_cases htk : t ∈ ks
                    · rcases hks t htk with h3 | h3
                      · exact sfree_rep h3 (hsr1.fr t)
                      · obtain ⟨h4, h5⟩ := hcaps t _ h3
                        have := hsr1.kept t h4
                        rw [this]; exact h5
                    · have : lkp (ks.map fun t => (t, σ1.fr t)) t = .u := lkp_out _ _ _ htk
                      rw [← h0, this]; simp [Rep]
                  · unfold slots; rw [h0]; simp [Rep]
              · cases hroc
          · exact hw1.elim
    · cases hy
  · cases hy

/-! blocks change places -/
theorem sw_sw (i j k : Nat) : sw i j (sw i j k) = k := by
  unfold sw
  split
  · rename_i h
    split
    · rename_i h2; omega
    · rw [if_pos rfl]; exact h.symm
  · rename_i h
    split
    · rename_i h2; rw [if_pos rfl]; exact h2.symm
    · rename_i h2; simp [h, h2]
theorem renL_length (f : Nat → Nat) : ∀ vs : List V, (renL f vs).length = vs.length
  | [] => rfl
  | _ :: vs => by simp [renL, renL_length f vs]
mutual
theorem ren_rep {S : Nat → Prop} {w : World} {O O2 : OInfo} {f : Nat → Nat} (h : ∀ id, O2 (f id) = O id) : ∀ (v : V) (c : Value), Rep S w O v c → Rep S w O2 (renV f v) c
  | .u, _, _ => by simp [renV, Rep]
  | .b x, c, hr => by simpa [renV, Rep] using hr
  | .i x, c, hr => by simpa [renV, Rep] using hr
  | .z es, c, hr => by simpa [renV, Rep] using hr
  | .sl es rows, c, hr => by simpa only [renV, Rep] using hr
  | .pa cs, c, hr => by simpa only [renV, Rep] using hr
  | .pn, c, hr => by simpa [renV, Rep] using hr
  | .yl l, c, hr => by simpa [renV, Rep] using hr
  | .ag cs, c, hr => by
    simp only [renV, Rep] at hr ⊢
    obtain ⟨ccs, hc, hn, hr⟩ := hr
    exact ⟨ccs, hc, by rw [renL_length]; exact hn, renL_rep h cs _ hr⟩
  | .tp cs, c, hr => by
    simp only [renV, Rep] at hr ⊢
    obtain ⟨ccs, hc, hn, hr⟩ := hr
    exact ⟨ccs, hc, by rw [renL_length]; exact hn, renL_rep h cs _ hr⟩
  | .fn g cs, c, hr => by
    simp only [renV, Rep] at hr ⊢
    obtain ⟨ccs, hc, hn, hr⟩ := hr
    exact ⟨ccs, hc, by rw [renL_length]; exact hn, renL_rep h cs _ hr⟩
  | .gv q v, c, hr => by
    simp only [renV, Rep] at hr ⊢
    exact ⟨fun hq => ren_rep h v c (hr.1 hq), hr.2⟩
  | .ad id g off, c, hr => by simpa only [renV, Rep, h id] using hr
  | .rf id g off len es, c, hr => by simpa only [renV, Rep, h id] using hr
  | .mp id g, c, hr => by simpa only [renV, Rep, h id] using hr
  | .it id g, c, hr => by simpa only [renV, Rep, h id] using hr
theorem renL_rep {S : Nat → Prop} {w : World} {O O2 : OInfo} {f : Nat → Nat} (h : ∀ id, O2 (f id) = O id) : ∀ (vs : List V) (cs : List Value), RepL S w O vs cs → RepL S w O2 (renL f vs) cs
  | [], _, _ => by simp [renL, RepL]
  | _ :: _, [], hr => by simp [RepL] at hr
  | v :: vs, c :: cs, hr => by
    simp only [renL, RepL] at hr ⊢
    exact ⟨ren_rep h v c hr.1, renL_rep h vs cs hr.2⟩
end
theorem ren_blk {S : Nat → Prop} {w : World} {O O2 : OInfo} {f : Nat → Nat} {g : Nat} {ob : Option Nat} (h : ∀ id, O2 (f id) = O id) {x : Option Blk} (hx : BlkOk S w O g ob x) : BlkOk S w O2 g ob (x.map (renB f)) := by
  unfold BlkOk at hx
  split at hx
  · rename_i g' vs
    simp only [Option.map_some, renB, BlkOk]
    refine ⟨hx.1, ?_⟩
    cases ob with
    | none => have := hx.2; simp only at this ⊢; rw [this]; rfl
    | some b =>
      obtain ⟨cur, e, hb, hr, h1⟩ := hx.2
      exact ⟨cur, e, hb, renL_rep h _ _ hr, h1⟩
  · simp only [Option.map_some, renB, BlkOk]
    obtain ⟨h0, b, es, hob, hb, h1, h3, h4, h5⟩ := hx
    exact ⟨h0, b, es, hob, hb, h1, renL_rep h _ _ h3, by rw [renL_length]; exact h4, h5⟩
  · rename_i mid n left cur
    simp only [Option.map_some, renB, BlkOk]
    obtain ⟨h0, b, m, seen, hob, hb, h1, h2⟩ := hx
    exact ⟨h0, b, m, seen, hob, hb, ren_rep h (.mp mid 0) _ h1, h2⟩
  · exact hx.elim
  · simpa only [Option.map_some, renB, BlkOk] using hx
  · exact hx.elim
  · exact hx.elim
theorem swH_get {i j : Nat} {hp : List Blk} (hi : i < hp.length) (hj : j < hp.length) (k : Nat) : (swH i j hp)[k]? = (hp[sw i j k]?).map (renB (sw i j)) := by
  unfold swH
  rw [List.getElem?_eq_getElem hi, List.getElem?_eq_getElem hj]
  simp only [List.getElem?_map]
  congr 1
  unfold sw
  by_cases h2 : k = j
  · subst h2
    rw [List.getElem?_set_self (by rw [List.length_set]; exact hj)]
    split
    · rename_i h; subst h; rw [List.getElem?_eq_getElem hi]
    · rw [if_pos rfl, List.getElem?_eq_getElem hi]
  · rw [List.getElem?_set_ne (Ne.symm h2)]
    by_cases h1 : k = i
    · subst h1
      rw [List.getElem?_set_self hi, if_pos rfl, List.getElem?_eq_getElem hj]
    · rw [List.getElem?_set_ne (Ne.symm h1), if_neg h1, if_neg h2]
theorem sw_mat {S : Nat → Prop} {w : World} {O : OInfo} {hp : List Blk} (h : Mat S w O hp) {i j : Nat} (hi : i < hp.length) (hj : j < hp.length) : Mat S w (fun id => O (sw i j id)) (swH i j hp) := by
  refine ⟨h.lt, fun id g b ho => h.own _ g b ho, fun id id' g g' b h1 h2 => ?_, fun id g ob ho => ?_⟩
  · have := h.inj _ _ g g' b h1 h2
    rw [← sw_sw i j id, this, sw_sw]
  · rw [swH_get hi hj]
    exact ren_blk (fun id => by rw [sw_sw]) (h.blk _ g ob ho)

/-- a region with a call whose result is not determined -/
theorem crl_sound (hG : GOk P Γ) (hF : OpenF F) (hC : CtxOk P F n M C lo top base) {g : Bool} {r1 r2 : List RO} {y : RO} {id : Nat} {ops : Array Oper} {o : Oper} (hgd : (g || noGuard ops) = true)
    (ho : ops[r1.length]? = some o) (h1 : (ops.toList.take r1.length).mapM (fun o => resO P pu M.nm ops o) = some r1) (hy : resC P M.nm o = some y) (h2 : (ops.toList.drop (r1.length + 1)).mapM (fun o => resO P pu M.nm ops o) = some r2)
    {Q : Exit → St → Prop} {Q' : Exit → Act → World → Prop} {σ : St} {S : Nat → Prop} {w : World} {O : OInfo} {a : Act} (hw : wpR Γ (EqFlat P) (.crl g r1 y r2) Q σ) (hat : At C M S w O σ a)
    (hQ : ∀ σ' S' w' O' a', Q .normal σ' → At C M S' w' O' σ' a' → Q' .normal a' w') : (Code.region id ops false).wpIn F n P Q' a w := by
  have hgn : g = false → ∀ o ∈ ops, o.guard = none := by
    intro hg o ho
    subst hg
    simp only [Bool.false_or, noGuard] at hgd
    have := Array.all_eq_true_iff_forall_mem.1 hgd o ho
    simpa using this
  have hlt := (Array.getElem?_eq_some_iff.1 ho).1
  have hl2 : r2.length = ops.size - (r1.length + 1) := by
    have := congrArg List.length (mapM_some h2)
    simpa using this.symm
  refine wpIn_region ?_
  have hrange : List.range ops.size = List.range' 0 r1.length ++ (r1.length :: List.range' (r1.length + 1) r2.length) := by
    rw [List.range_eq_range', ← List.range'_succ]
    have := List.range'_append_1 (s := 0) (m := r1.length) (n := r2.length + 1)
    rw [Nat.zero_add] at this
    rw [this]
    congr 1
    omega
  rw [hrange]
  refine run_ops' hG hF (pu := pu) hgn _ r1 0 σ S w O a (resO_at (off := 0) (cnt := r1.length) (by simpa using h1)) hw hat.sr ?_
  intro σ1 S1 w1 O1 a1 hw1 hgh1 hev1 hsr1 hd1
  have hat1 : At C M S1 w1 O1 σ1 a1 := ⟨by rw [hd1]; exact hC.evol hat.ctx hat.sr.mat.lt hev1 hgh1, hsr1⟩
  have rest : ∀ (σ2 : St) S2 w2 O2 a2, At C M S2 w2 O2 σ2 a2 → runR Γ (EqFlat P) g 0 r2 σ2 (Q .normal) → wpOpsIn F n P ops Q' (List.range' (r1.length + 1) r2.length) a2 w2 := by
    intro σ2 S2 w2 O2 a2 hat2 hrun
    have := run_ops' hG hF (pu := pu) (n := n) (Q := Q') hgn [] r2 (r1.length + 1) σ2 S2 w2 O2 a2 (resO_at (off := r1.length + 1) (cnt := ops.size) (by
      rw [List.take_of_length_le (by simp)]; exact h2)) hrun hat2.sr (fun τ S' w' O' a' hK hgh hev hsr hd => by
        rw [wpOpsIn]
        exact hQ τ S' w' O' a' hK ⟨by rw [hd]; exact hC.evol hat2.ctx hat2.sr.mat.lt hev hgh, hsr⟩)
    simpa using this
  rw [wpOpsIn_cons]
  simp only [wpOpIn, ho]
  unfold resC at hy
  split at hy
  · rename_i hds
    simp only [Bool.and_eq_true] at hds
    obtain ⟨hdo, hgo⟩ := hds
    have hgo' : o.guard = none := by simpa using hgo
    rw [Option.map_eq_some_iff] at hy
    obtain ⟨⟨f, xs⟩, hroc, rfl⟩ := hy
    simp only at hw1
    have hdl : ∀ d, o.dst = some d → d < M.n ∧ M.md ≤ d := fun d hd => by rw [hd] at hdo; exact dstOk_some hdo
    have hkept : ∀ (c : Value) t, t < M.md → (a1.put o.dst c).tmps.getD t undef = M.T t := fun c t ht => (put_ne a1 o.dst c t fun d' hd' => by have := (hdl d' hd').2; omega).trans (hsr1.kept t ht)
    have hwant : Region.wanted o (yielded ops a1.tmps) = true := by simp [Region.wanted, hgo']
    rw [if_pos hwant]
    split at hw1
    · rename_i gf caps hfv
      obtain ⟨hneed, hg6, href, hpre, hK⟩ := hw1
      obtain ⟨hen, hrel⟩ := hG.rel gf _ hg6 hpre
      have hods : OdsOk P S1 w1 O1 (opv g σ1.fr) a1.eval o := by
        cases g with
        | false => exact odsOk_plain hsr1.fr o
        | true => exact odsOk_guard hsr1.fr o hneed
      unfold resOc at hroc
      unfold OdsOk at hods
      cases hop : o.op <;> rw [hop] at hroc hods <;> simp only [Op.operands] at hods <;> first | (simp at hroc; done) | (try dsimp only at hroc)
      case call cl =>
        split at hroc
        · rename_i f0 hcal
          simp only [Option.bind_eq_bind, Option.bind_eq_some_iff, Option.pure_def, Option.some.injEq, Prod.mk.injEq] at hroc
          obtain ⟨f', hf, ods, hodse, rfl, rfl⟩ := hroc
          have q1 := hods f0 (by simp [Call.operands, hcal]) _ _ hf
          have qs := rOds_rep _ _ _ hodse (fun x hx => hods x (by simp only [Call.operands, Array.mem_append]; exact .inr (by simpa using hx)))
          rw [hfv] at q1
          simp only [Rep] at q1
          obtain ⟨ccs, hc, hn, hrl⟩ := q1
          have hall := RepL.append _ _ _ _ qs.1 (by simp [qs.2]) hrl
          have hcalls := rel_call hrel hsr1.mat (cargs := cl.args.map a1.eval ++ ccs) (by simp [qs.2, hn]) (vwL_noref _ _ href (by simpa using hall))
          refine wpIn_enter (w' := w1) (f := gf) (args := cl.args.map a1.eval ++ ccs) hF (by simp [hop]) ?_ (hcalls.mono ?_)
          · have hd : (resolve a1.eval cl o.type).run P w1 = .ok { target := .fn (.func gf) ccs, args := cl.args.map a1.eval } w1 := by
              simp [resolve, hcal, hc, Deferred.ofValue]
            simp only [execOp, hop, Sem.run_bind, hd, Result.andThen_ok, invoke]
            exact hen _ _
          · rintro e w2 ⟨v, S2, O2, r, bs0, rfl, ⟨bs, rfl, hR⟩, hev, hmat, hrep⟩
            refine ⟨v, rfl, rest _ S2 w2 O2 _ ⟨?_, ⟨by rw [put_size]; exact hsr1.size, hkept _, ?_, hmat⟩⟩ (hK r bs hR)⟩
            · rw [put_defers]
              exact hC.evol hat1.ctx hsr1.mat.lt hev fun y hy => ghO_app hy
            · exact FrM.put hsr1.fr hev.ext (fun d hd => by rw [hsr1.size]; exact (hdl d hd).1) hrep
        · cases hroc
    · exact hw1.elim
  · cases hy

/-- 'Ext' for the blocks below lo -/
structure ExtN (lo : Nat) (S S' : Nat → Prop) (w w' : World) (O O' : OInfo) : Prop where
  keep : ∀ n, S n → S' n ∧ w'.heap[n]? = w.heap[n]?
  own : ∀ id g ob, id < lo → O id = some (g, ob) → ∃ g' ob', O' id = some (g', ob') ∧ g ≤ g' ∧ (g' = g → ob' = ob ∧
    (∀ b cur e, ob = some b → w.heap[b]? = some (.cells cur e (0, 0)) → ∃ cur', w'.heap[b]? = some (.cells cur' e (0, 0)) ∧ cur'.size = cur.size))
theorem ExtN.refl (lo : Nat) (S : Nat → Prop) (w : World) (O : OInfo) : ExtN lo S S w w O O :=
  ⟨fun _ h => ⟨h, rfl⟩, fun _ g ob _ h => ⟨g, ob, h, Nat.le_refl _, fun _ => ⟨rfl, fun _ cur _ _ hb => ⟨cur, hb, rfl⟩⟩⟩⟩
theorem ExtN.then {lo : Nat} {S S' S'' : Nat → Prop} {w w' w'' : World} {O O' O'' : OInfo} (h : ExtN lo S S' w w' O O') (k : Ext S' S'' w' w'' O' O'') : ExtN lo S S'' w w'' O O'' := by
  refine ⟨fun n hn => ⟨(k.keep n (h.keep n hn).1).1, ((k.keep n (h.keep n hn).1).2).trans (h.keep n hn).2⟩, fun id g ob hl ho => ?_⟩
  obtain ⟨g', ob', ho', hg, h1⟩ := h.own id g ob hl ho
  obtain ⟨g'', ob'', ho'', hg', h2⟩ := k.own id g' ob' ho'
  refine ⟨g'', ob'', ho'', Nat.le_trans hg hg', fun e => ?_⟩
  obtain ⟨a1, a2⟩ := h1 (by omega)
  obtain ⟨b1, b2⟩ := h2 (by omega)
  refine ⟨b1.trans a1, fun b cur e hb hh => ?_⟩
  obtain ⟨cur', hh', hs⟩ := a2 b cur e hb hh
  obtain ⟨cur'', hh'', hs'⟩ := b2 b cur' e (a1.trans hb) hh'
  exact ⟨cur'', hh'', hs'.trans hs⟩
theorem ExtN.cut {lo : Nat} {S S' : Nat → Prop} {w w' : World} {O O' : OInfo} (h : ExtN lo S S' w w' O O') {k : Nat} (hk : lo ≤ k) : ExtN lo S (cutS S' O' k) w w' O (restO O' k) := by
  refine ⟨fun n hn => ⟨.inl (h.keep n hn).1, (h.keep n hn).2⟩, fun id g ob hl ho => ?_⟩
  obtain ⟨g', ob', ho', h1⟩ := h.own id g ob hl ho
  exact ⟨g', ob', by unfold restO; rw [if_pos (by omega)]; exact ho', h1⟩
theorem ExtN.ext {lo : Nat} {S S' : Nat → Prop} {w w' : World} {O O' : OInfo} (h : ExtN lo S S' w w' O O') (hO : ∀ id x, O id = some x → id < lo) : Ext S S' w w' O O' :=
  ⟨h.keep, fun id g ob ho => h.own id g ob (hO id _ ho) ho⟩

/-- a loop's record turned: nobody sees it -/
theorem ext_turn {S : Nat → Prop} {w : World} {O : OInfo} {L : Nat} (o' : Obj) (hS : ¬ S L) (hO : ¬ Own O L) : Ext S S w (w.putObj L o') O O := by
  have hoth : ∀ k, k ≠ L → (w.putObj L o').heap[k]? = w.heap[k]? := fun k hk => World.putObj_heap_other hk
  refine ⟨fun k hk => ⟨hk, hoth k (by rintro rfl; exact hS hk)⟩, fun id g ob ho => ⟨g, ob, ho, Nat.le_refl _, fun _ => ⟨rfl, fun b cur e hb hh => ⟨cur, ?_, rfl⟩⟩⟩⟩
  rw [hoth b (by rintro rfl; exact hO ⟨id, g, by rw [ho, hb]⟩)]
  exact hh
theorem mat_turn {S : Nat → Prop} {w : World} {O : OInfo} {hp : List Blk} (h : Mat S w O hp) {L : Nat} (o' : Obj) (hS : ¬ S L) (hO : ¬ Own O L) : Mat S (w.putObj L o') O hp := by
  refine h.keep (ext_turn o' hS hO) (by simp) (fun b hb => World.putObj_heap_other (by rintro rfl; exact hO hb)) (fun k hk => by simpa using h.lt k hk) fun k hk ⟨id, g, ho⟩ => (h.own id g k ho).2 hk
theorem sr_turn {S : Nat → Prop} {w : World} {O : OInfo} {σ : St} {a : Act} (h : SR M S w O σ a) {L : Nat} (o' : Obj) (hS : ¬ S L) (hO : ¬ Own O L) : SR M S (w.putObj L o') O σ a :=
  ⟨h.size, h.kept, h.fr.ext (ext_turn o' hS hO), mat_turn h.mat o' hS hO⟩

theorem later_alloc (w : World) (o : Obj) (ho : o.isCells = false) : Later w (w.alloc o) :=
  ⟨rfl, rfl, rfl, by simp, fun a => frozen_alloc_other w o ho a, fun n hn => heap_alloc_old w o hn⟩
theorem Later.trans {w w' w'' : World} (h : Later w w') (k : Later w' w'') : Later w w'' :=
  ⟨k.os.trans h.os, k.tape.trans h.tape, k.output.trans h.output, Nat.le_trans h.size k.size, fun a => (k.fz a).trans (h.fz a), fun n hn => (k.old n (Nat.lt_of_lt_of_le hn h.size)).trans (h.old n hn)⟩
theorem mat_own_lt {S : Nat → Prop} {w : World} {O : OInfo} {hp : List Blk} (h : Mat S w O hp) : ∀ k, Own O k → k < w.heap.size := fun k ⟨id, g, ho⟩ => (h.own id g k ho).1
theorem mat_evol {S : Nat → Prop} {w w' : World} {O : OInfo} {hp : List Blk} (h : Mat S w O hp) (hl : Later w w') : Mat S w' O hp :=
  h.keep (hl.evol h.lt (mat_own_lt h)).ext hl.size (fun b hb => hl.old b (mat_own_lt h b hb)) (fun k hk => Nat.lt_of_lt_of_le (h.lt k hk) hl.size) fun k hk ⟨id, g, ho⟩ => (h.own id g k ho).2 hk

theorem fold_frM {S : Nat → Prop} {w : World} {O : OInfo} : ∀ (ps : List Tmp) (x : List V) (cx : List Value) (fr : Nat → V) (a : Act), FrM S w O fr a → x.length = ps.length → cx.length = ps.length → (∀ p ∈ ps, p < a.tmps.size) → RepL (fun _ => False) w noO x cx →
    FrM S w O (updL fr ps x) { a with tmps := (ps.zip cx).foldl (fun t (p, v) => t.setIfInBounds p v) a.tmps }
  | [], x, cx, fr, a, h, hx, hc, hp, hr => by
    have : x = [] := List.eq_nil_of_length_eq_zero (by simpa using hx)
    subst this
    simpa [updL] using h
  | p :: ps, [], cx, fr, a, h, hx, hc, hp, hr => by simp at hx
  | p :: ps, v :: x, [], fr, a, h, hx, hc, hp, hr => by simp at hc
  | p :: ps, v :: x, c :: cx, fr, a, h, hx, hc, hp, hr => by
    simp only [RepL] at hr
    have hrep : Rep S w O v c := rep_noO (Rep.ext (S := fun _ => False) ⟨fun _ h => h.elim, fun _ _ _ h => by cases h⟩ _ _ hr.1)
    have h1 := FrM.put (dst := some p) (c := c) h (Ext.refl _ _ _) (fun d hd => by cases hd; exact hp p (by simp)) hrep
    have := fold_frM ps x cx (upd fr (some p) v) (a.put (some p) c) h1 (by simpa using hx) (by simpa using hc) (fun q hq => by rw [put_size]; exact hp q (by simp [hq])) hr.2
    simpa [updL, Act.put] using this
theorem fold_size : ∀ (l : List (Tmp × Value)) (t : Array Value), (l.foldl (fun t (p, v) => t.setIfInBounds p v) t).size = t.size
  | [], t => rfl
  | (p, v) :: l, t => by simp [fold_size l]
theorem fold_ne : ∀ (l : List (Tmp × Value)) (t : Array Value) (k : Nat), (∀ p ∈ l, p.1 ≠ k) → (l.foldl (fun t (p, v) => t.setIfInBounds p v) t).getD k undef = t.getD k undef
  | [], t, k, _ => rfl
  | (p, v) :: l, t, k, h => by
    rw [List.foldl_cons, fold_ne l _ k fun q hq => h q (by simp [hq])]
    have : p ≠ k := h (p, v) (by simp)
    simp [Array.getElem?_setIfInBounds_ne this]

def SoundAt (Γ : Gam) (P : Program) (M : FrI) (F : Fence) (n lo : Nat) (top : Nat) (r' : RC) (c : Code) : Prop :=
  ∀ (C : Ctx) (base : Nat), CtxOk P F n M C lo top base → ∀ (Q : Exit → St → Prop) (Q' : Exit → Act → World → Prop) (σ : St) (S : Nat → Prop) (w : World) (O : OInfo) (a : Act),
    wpR Γ (EqFlat P) r' Q σ → At C M S w O σ a → (∀ e σ' S' w' O' a', Q e σ' → At C M S' w' O' σ' a' → Q' e a' w') → c.wpIn F n P Q' a w

theorem openF_in (hF : OpenF F) (l : Nat) : OpenF (F.inRound l) := hF

set_option maxHeartbeats 1000000 in
/-- a range over a function -/
theorem rfn_sound (hG : GOk P Γ) (hF : OpenF F) (hC : CtxOk P F n M C lo 1 base) {f0 : Operand} {f : Od} (hf : rOd P 0 f0 = some f) {ps : Array Tmp} {lo' : Nat} (hlo : lo ≤ lo') (hps : ∀ p ∈ ps.toList, p < M.n ∧ M.md ≤ p) {b' a' : RC} {cx cy : Code}
    (hb : ∀ l, SoundAt Γ P M (F.inRound l) (n - 1 - 1) lo' 0 b' cx) (ha : ∀ l, SoundAt Γ P M (F.inRound l) (n - 1 - 1) lo' 0 a' cy)
    {Q : Exit → St → Prop} {Q' : Exit → Act → World → Prop} {σ : St} {S : Nat → Prop} {w : World} {O : OInfo} {a : Act} (hw : wpR Γ (EqFlat P) (.rfn f ps.toList lo' b' a') Q σ) (hat : At C M S w O σ a)
    (hQ : ∀ e σ' S' w' O' a', Q e σ' → At C M S' w' O' σ' a' → Q' e a' w') : (Code.rangeFunc f0 ps cx cy).wpIn F n P Q' a w := by
  simp only [wpR] at hw
  have hrf := evO_rep hat.sr.fr hf
  split at hw
  · rename_i gf caps hfv
    rw [hfv] at hrf
    split at hw
    · rename_i ok ys hΓ
      obtain ⟨hg6, hok, href, hlen, I, hI0, hround, hdone⟩ := hw
      simp only [Rep] at hrf
      obtain ⟨ccs, hcf, hcn, hcr⟩ := hrf
      obtain ⟨hen, hit⟩ := hG.iter gf _ ys hg6 (by rw [hΓ]; exact hok) (by rw [hΓ])
      have hat1 := hat.drp hC hlo
      obtain ⟨S1, hS1⟩ : ∃ S1, S1 = cutS S O lo' := ⟨_, rfl⟩
      obtain ⟨O1, hO1⟩ : ∃ O1, O1 = restO O lo' := ⟨_, rfl⟩
      obtain ⟨fr0, hfr0⟩ : ∃ fr0 : Nat → V, fr0 = fun t => cutV σ.hp lo' (σ.fr t) := ⟨_, rfl⟩
      rw [← hS1, ← hO1, ← hfr0] at hat1
      rw [← hfr0] at hround hdone
      have hO1lt : ∀ id x, O1 id = some x → id < lo' := fun id x h => by rw [hO1] at h; exact (restO_some h).1
      have hSS1 : ∀ m, S m → S1 m := fun m h => by rw [hS1]; exact .inl h
      refine wpIn_rangeFunc ?_
      intro fn hfn
      rw [hC.rnd rfl]
      obtain ⟨rec, hrec⟩ : ∃ rec : LoopState → Option Code → Loop, rec = fun st pe => { state := st, pending := pe, fn, tmps := a.tmps, params := ps, assign := cx, body := cy, defers := w.heap.size } := ⟨_, rfl⟩
      obtain ⟨W1, hW1⟩ : ∃ W1, (w.alloc (.deferred (some []))).alloc (.loop (rec .ready none)) = W1 := ⟨_, rfl⟩
      obtain ⟨L, hL⟩ : ∃ L, L = w.heap.size + 1 := ⟨_, rfl⟩
      have hL1 : W1.heap[L]? = some (.loop (rec .ready none)) := by
        rw [← hW1, hL]; have := World.alloc_heap_new (w.alloc (.deferred (some []))) (.loop (rec .ready none)); rwa [World.size_alloc] at this
      have hlat : Later w W1 := by rw [← hW1]; exact (later_alloc w _ rfl).trans (later_alloc _ _ rfl)
      have hbase := hC.big rfl hat.ctx
      -- the rounds' invariant
      obtain ⟨J, hJ⟩ : ∃ J : Nat → World → Prop, J = fun k W => ∃ S2 O2 hp, I k hp ∧ C S2 W O2 (col w.heap.size :: a.defers) (ghO hp) ∧ FrM S2 W O2 fr0 a ∧ Mat S2 W O2 hp ∧ (∀ id x, O2 id = some x → id < lo') ∧ ¬ S2 L ∧ ¬ Own O2 L ∧
        W.heap[L]? = some (.loop (rec .ready none)) ∧ (∀ m, S m → S2 m ∧ W.heap[m]? = w.heap[m]?) ∧ W1.heap.size ≤ W.heap.size := ⟨_, rfl⟩
      obtain ⟨Jx, hJx⟩ : ∃ Jx : Nat → World → Prop, Jx = fun _ W => ∃ id S2 O2 hp, Q (.exit id) ⟨fr0, hp⟩ ∧ C S2 W O2 (col w.heap.size :: a.defers) (ghO hp) ∧ FrM S2 W O2 fr0 a ∧ Mat S2 W O2 hp ∧ ¬ S2 L ∧ ¬ Own O2 L ∧
        W.heap[L]? = some (.loop (rec .done (some (.exit id)))) ∧ (∀ m, S m → S2 m ∧ W.heap[m]? = w.heap[m]?) ∧ W1.heap.size ≤ W.heap.size := ⟨_, rfl⟩
      have hJl : ∀ k W W', J k W → Later W W' → J k W' := by
        intro k W W' h hl
        rw [hJ] at h ⊢
        obtain ⟨S2, O2, hp, h1, h2, h3, h4, h5, h6, h7, h8, h9, h10⟩ := h
        have ev := hl.evol h4.lt (mat_own_lt h4)
        refine ⟨S2, O2, hp, h1, hC.evol h2 h4.lt ev (fun _ h => h), h3.ext ev.ext, mat_evol h4 hl, h5, h6, h7, (hl.old L (Array.getElem?_eq_some_iff.1 h8).1).trans h8, fun m hm => ⟨(h9 m hm).1, ?_⟩, Nat.le_trans h10 hl.size⟩
        rw [hl.old m (h4.lt m (h9 m hm).1)]
        exact (h9 m hm).2
      have hJxl : ∀ k W W', Jx k W → Later W W' → Jx k W' := by
        intro k W W' h hl
        rw [hJx] at h ⊢
        obtain ⟨id, S2, O2, hp, h1, h2, h3, h4, h6, h7, h8, h9, h10⟩ := h
        have ev := hl.evol h4.lt (mat_own_lt h4)
        refine ⟨id, S2, O2, hp, h1, hC.evol h2 h4.lt ev (fun _ h => h), h3.ext ev.ext, mat_evol h4 hl, h6, h7, (hl.old L (Array.getElem?_eq_some_iff.1 h8).1).trans h8, fun m hm => ⟨(h9 m hm).1, ?_⟩, Nat.le_trans h10 hl.size⟩
        rw [hl.old m (h4.lt m (h9 m hm).1)]
        exact (h9 m hm).2
      have hJ0 : J 0 W1 := by
        rw [hJ]
        have ev := hlat.evol hat1.sr.mat.lt (mat_own_lt hat1.sr.mat)
        refine ⟨S1, O1, cutH lo' σ.hp, hI0, ?_, hat1.sr.fr.ext ev.ext, mat_evol hat1.sr.mat hlat, hO1lt, fun h => ?_, fun h => ?_, hL1, fun m hm => ⟨hSS1 m hm, hlat.old m (hat.sr.mat.lt m hm)⟩, Nat.le_refl _⟩
        · rw [← hW1]
          exact hC.enter rfl hat1.ctx hat1.sr.mat.lt (mat_own_lt hat1.sr.mat)
        · have := hat1.sr.mat.lt L h; omega
        · have := mat_own_lt hat1.sr.mat L h; omega
      have hbL : base ≤ L := by omega
      refine ⟨L, [{ target := .collected w.heap.size, args := #[] }], W1, { target := .fn (.func gf) ccs, args := #[.func (.yield L) #[] #[]] }, W1, gf,
        #[.func (.yield L) #[] #[]] ++ ccs, W1, ?_, ?_, ?_, ?_, fun h => by simp [hF.2.1] at h, ?_⟩
      · rw [← hW1, hrec, hL]; exact run_enterLoop_outer _ _ _ _ _
      · simp only [resolve, hcf]
        simp [go_sem]
      · intro f' hf'; exact hF.1 f'
      · simp only [invoke]; exact hen _ _
      · refine (hit F (n - 1) S W1 ccs L J Jx hF (hC.rnd rfl) (fun m hm => Nat.lt_of_lt_of_le (hat.sr.mat.lt m hm) hlat.size) (by simpa using hcn) ?_ hJl hJxl ?_ ?_ hJ0).mono ?_
        · have h0 := vwL_noref (hp := σ.hp) _ _ href hcr
          exact RepL.ext ⟨fun m hm => ⟨hm, hlat.old m (hat.sr.mat.lt m hm)⟩, fun _ _ _ h => by cases h⟩ _ _ h0
        · rintro k W (h | h)
          · rw [hJ] at h
            obtain ⟨S2, O2, hp, h1, h2, h3, h4, h5, h6, h7, h8, h9, h10⟩ := h
            exact ⟨h10, fun m hm => (h9 m hm).2.trans (hlat.old m (hat.sr.mat.lt m hm)).symm⟩
          · rw [hJx] at h
            obtain ⟨id, S2, O2, hp, h1, h2, h3, h4, h6, h7, h8, h9, h10⟩ := h
            exact ⟨h10, fun m hm => (h9 m hm).2.trans (hlat.old m (hat.sr.mat.lt m hm)).symm⟩
        · -- ONE ROUND
          intro k x W cxs hx h hxr hxs
          rw [hJ] at h
          obtain ⟨S2, O2, hp, h1, h2, h3, h4, h5, h6, h7, h8, h9, h10⟩ := h
          have hxl : x.length = ps.size := by have := hlen x (List.mem_of_getElem? hx); simpa using this
          have hy := run_yield (P := P) (args := cxs) h8 (by rw [hrec]; show cxs.size = ps.size; omega)
          rw [hrec] at hy
          refine ⟨fn, _, cx, cy, hy, roundIn_of_wpIn hfn ?_⟩
          obtain ⟨Cb, hCb⟩ : ∃ Cb : Loop → Ctx, Cb = fun r S' W' O' ds' h' => ds' = [] ∧ C S' W' O' (col w.heap.size :: a.defers) h' ∧ ExtN lo' S2 S' W W' O2 O' ∧ ¬ S' L ∧ ¬ Own O' L ∧ W'.heap[L]? = some (.loop r) ∧ W.heap.size ≤ W'.heap.size := ⟨_, rfl⟩
          have hCbOk : ∀ r, CtxOk P (F.inRound L) (n - 1 - 1) M (Cb r) lo' 0 0 := by
            intro r
            rw [hCb]
            refine ⟨?_, ?_, fun h => (by cases h), fun h => (by cases h), fun h => (by cases h), fun h => (by cases h), fun h => (by cases h), fun h => (by cases h)⟩
            · rintro S' S'' W' W'' O' O'' ds g g' ⟨k1, k2, k3, k4, k5, k6, k7⟩ hlt ev hg
              have hLlt := (Array.getElem?_eq_some_iff.1 k6).1
              refine ⟨k1, hC.evol k2 hlt ev hg, k3.then ev.ext, fun hS => ?_, fun hO => ?_, (ev.old L hLlt k5).trans k6, Nat.le_trans k7 ev.size⟩
              · rcases ev.grow L hS with h | h | h
                · exact k4 h
                · exact k5 h
                · omega
              · rcases ev.fresh L hO with h | h
                · exact k5 h
                · omega
            · rintro S' W' O' ds g g' kk ⟨k1, k2, k3, k4, k5, k6, k7⟩ hkk hg
              refine ⟨k1, hC.cut k2 (Nat.le_trans hlo hkk) (fun hl => hg (Nat.le_trans hl hlo)), k3.cut hkk, ?_, fun ⟨id, g2, ho⟩ => k5 ⟨id, g2, (restO_some ho).2⟩, k6, k7⟩
              rintro (h | ⟨id, g2, ho⟩)
              · exact k4 h
              · exact k5 ⟨id, g2, (fromO_some ho).2⟩
          have hpsz : ∀ p ∈ ps.toList, p < a.tmps.size := fun p hp => by rw [hat.sr.size]; exact (hps p hp).1
          refine hb L (Cb (rec .ready none)) 0 (hCbOk _) _ _ ⟨updL fr0 ps.toList x, hp⟩ S2 W O2 _ (hround k x hp hx h1) ⟨?_, ⟨?_, ?_, ?_, h4⟩⟩ ?_
          · rw [hCb]; exact ⟨rfl, h2, ExtN.refl _ _ _ _, h6, h7, h8, Nat.le_refl _⟩
          · show ((ps.zip cxs).foldl (fun t (x : Tmp × Value) => t.setIfInBounds x.1 x.2) a.tmps).size = _
            rw [← Array.foldl_toList, fold_size, hat.sr.size]
          · intro t ht
            show ((ps.zip cxs).foldl (fun t (x : Tmp × Value) => t.setIfInBounds x.1 x.2) a.tmps).getD t undef = _
            rw [← Array.foldl_toList, fold_ne]
            · exact hat.sr.kept t ht
            · rintro ⟨p, v⟩ hpv
              have : p ∈ ps.toList := by
                rw [Array.toList_zip] at hpv
                exact (List.of_mem_zip hpv).1
              have := (hps p this).2
              intro h
              have h : p = t := h
              rw [h] at this
              exact absurd this (Nat.not_le.2 ht)
          · have := fold_frM ps.toList x cxs.toList fr0 { tmps := a.tmps, defers := [] } h3 (by simpa using hxl) (by simp; omega) hpsz hxr
            have e : (ps.zip cxs).foldl (fun t (x : Tmp × Value) => t.setIfInBounds x.1 x.2) a.tmps = (ps.toList.zip cxs.toList).foldl (fun t (x : Tmp × Value) => t.setIfInBounds x.1 x.2) a.tmps := by
              rw [← Array.foldl_toList, Array.toList_zip]
            show FrM S2 W O2 (updL fr0 ps.toList x) { tmps := (ps.zip cxs).foldl (fun t (x : Tmp × Value) => t.setIfInBounds x.1 x.2) a.tmps, defers := [] }
            rw [e]
            exact this
          · -- behind the assignment
            intro e σ1 S3 W3 O3 a3 he hat3
            cases e <;> first | exact he.elim | skip
            have hctx3 := hat3.ctx
            rw [hCb] at hctx3
            obtain ⟨k1, k2, k3, k4, k5, k6, k7⟩ := hctx3
            have hbeg := run_beginRound (P := P) k6 (by rw [hrec])
            refine ⟨_, hbeg, ?_⟩
            have hL3 := (Array.getElem?_eq_some_iff.1 k6).1
            refine ha L (Cb { rec .ready none with state := .busy }) 0 (hCbOk _) _ _ σ1 S3 _ O3 a3 he ⟨?_, sr_turn hat3.sr _ k4 k5⟩ ?_
            · rw [hCb]
              exact ⟨k1, hC.turn rfl k2 k6 k4 k5 hbL, k3.then (ext_turn _ k4 k5), k4, k5, World.putObj_heap_same hL3, by simpa using k7⟩
            · -- a round's end
              intro e σ5 S5 W5 O5 a5 he5 hat5
              have hctx5 := hat5.ctx
              rw [hCb] at hctx5
              obtain ⟨m1, m2, m3, m4, m5, m6, m7⟩ := hctx5
              have hL5 := (Array.getElem?_eq_some_iff.1 m6).1
              have c4 : ¬ cutS S5 O5 lo' L := by
                rintro (h | ⟨id, g2, ho⟩)
                · exact m4 h
                · exact m5 ⟨id, g2, (fromO_some ho).2⟩
              have c5 : ¬ Own (restO O5 lo') L := fun ⟨id, g2, ho⟩ => m5 ⟨id, g2, (restO_some ho).2⟩
              have hc := hC.cut (h' := ghO (cutH lo' σ5.hp)) m2 hlo fun hl y hy => ghO_cut hy (by omega)
              have hx5 : Ext S2 (cutS S5 O5 lo') W W5 O2 (restO O5 lo') := (m3.cut (Nat.le_refl _)).ext h5
              have common : ∀ r : Loop, C (cutS S5 O5 lo') (W5.putObj L (.loop r)) (restO O5 lo') (col w.heap.size :: a.defers) (ghO (cutH lo' σ5.hp)) ∧ FrM (cutS S5 O5 lo') (W5.putObj L (.loop r)) (restO O5 lo') fr0 a ∧
                  Mat (cutS S5 O5 lo') (W5.putObj L (.loop r)) (restO O5 lo') (cutH lo' σ5.hp) := fun r =>
                ⟨hC.turn rfl hc m6 c4 c5 hbL, (h3.ext hx5).ext (ext_turn _ c4 c5), mat_turn (cut_mat hat5.sr.mat lo') _ c4 c5⟩
              have hrdy : ∀ jump : Option Code, ({ ({ rec .ready none with state := .busy } : Loop) with state := if jump.isNone then .ready else .done, pending := jump } : Loop) = rec (if jump.isNone then .ready else .done) jump := by
                intro jump; rw [hrec]
              cases e <;> first | exact he5.elim | skip
              case normal =>
                obtain ⟨c1, c2, c3⟩ := common (rec .ready none)
                refine ⟨_, _, run_endRound (P := P) none m6, .inl ⟨rfl, ?_⟩⟩
                rw [hrdy none, hJ]
                simp only [Option.isNone_none, if_true]
                refine ⟨_, _, cutH lo' σ5.hp, he5, c1, c2, c3, fun id x h => (restO_some h).1, c4, c5, World.putObj_heap_same hL5, fun m hm => ?_, ?_⟩
                · have := hx5.keep m (h9 m hm).1
                  refine ⟨this.1, ?_⟩
                  rw [World.putObj_heap_other (by rintro rfl; exact c4 this.1), this.2]
                  exact (h9 m hm).2
                · have : W1.heap.size ≤ W5.heap.size := Nat.le_trans h10 m7
                  simpa using this
              case exit id =>
                obtain ⟨c1, c2, c3⟩ := common (rec .done (some (.exit id)))
                refine ⟨_, _, run_endRound (P := P) (some (.exit id)) m6, .inr ⟨rfl, ?_⟩⟩
                rw [hrdy (some (.exit id)), hJx]
                simp only [Option.isNone_some, Bool.false_eq_true, if_false]
                refine ⟨id, _, _, cutH lo' σ5.hp, he5, c1, c2, c3, c4, c5, World.putObj_heap_same hL5, fun m hm => ?_, ?_⟩
                · have := hx5.keep m (h9 m hm).1
                  refine ⟨this.1, ?_⟩
                  rw [World.putObj_heap_other (by rintro rfl; exact c4 this.1), this.2]
                  exact (h9 m hm).2
                · have : W1.heap.size ≤ W5.heap.size := Nat.le_trans h10 m7
                  simpa using this
        · -- behind the iterator
          rintro e W2 ⟨⟨v, rfl⟩, h | ⟨k, h⟩⟩
          · rw [hJ] at h
            obtain ⟨S2, O2, hp, h1, h2, h3, h4, h5, h6, h7, h8, h9, h10⟩ := h
            refine ⟨none, _, by have := run_endLoop (P := P) h8 (by rw [hrec]; simp); rw [hrec] at this; exact this, ?_⟩
            have s := sr_turn (σ := ⟨fr0, hp⟩) ⟨hat.sr.size, hat.sr.kept, h3, h4⟩ (.loop { rec .ready none with state := .exhausted }) h6 h7
            rw [hrec] at s
            exact hQ _ ⟨fr0, hp⟩ S2 _ O2 _ (hdone hp h1) ⟨hC.turn rfl h2 h8 h6 h7 hbL, ⟨s.size, s.kept, s.fr, s.mat⟩⟩
          · rw [hJx] at h
            obtain ⟨id, S2, O2, hp, h1, h2, h3, h4, h6, h7, h8, _, _⟩ := h
            refine ⟨some (.exit id), _, by have := run_endLoop (P := P) h8 (by rw [hrec]; simp); rw [hrec] at this; exact this, ?_⟩
            have s := sr_turn (σ := ⟨fr0, hp⟩) ⟨hat.sr.size, hat.sr.kept, h3, h4⟩ (.loop { rec .done (some (.exit id)) with state := .exhausted }) h6 h7
            rw [hrec] at s
            exact wpIn_exit (hQ _ ⟨fr0, hp⟩ S2 _ O2 _ h1 ⟨hC.turn rfl h2 h8 h6 h7 hbL, ⟨s.size, s.kept, s.fr, s.mat⟩⟩)
    · exact hw.elim
  · exact hw.elim

theorem set_self' {α : Type} {l : List α} {i : Nat} {x : α} (h : l[i]? = some x) : l.set i x = l := by
  apply List.ext_getElem?
  intro j
  rw [List.getElem?_set]
  split
  · rename_i e; subst e
    split
    · exact h.symm
    · rename_i hl; rw [List.getElem?_eq_none (by omega)]
  · rfl

/-- RESOLVED CODE IS SOUND -/
theorem wpR_sound (hG : GOk P Γ) (hm : P.follows .mixedOrders = true) :
    ∀ (r : RC) (c : Code) (r' : RC) (F : Fence) (n lo : Nat) (top : Nat), OpenF F → comp P pu M.nm lo top r c = some r' → SoundAt Γ P M F n lo top r' c := by
  intro r
  induction r with
  | skip =>
    intro c r' F n lo top hF hc C base hC Q Q' σ S w O a hw hat hQ
    cases c <;> (try simp only [comp] at hc) <;> try (cases hc; done)
    cases hc
    exact wpIn_skip (hQ _ _ _ _ _ _ hw hat)
  | reg g l =>
    intro c r' F n lo top hF hc C base hC Q Q' σ S w O a hw hat hQ
    cases c <;> (try simp only [comp] at hc) <;> try (cases hc; done)
    case region id ops draw =>
      cases draw <;> (try simp only [comp] at hc) <;> try (cases hc; done)
      split at hc
      · rename_i hgd
        rw [Option.map_eq_some_iff] at hc
        obtain ⟨rs, hrs, rfl⟩ := hc
        have hmap := mapM_some hrs
        have hRO : RegOps P pu M.nm ops rs := by
          unfold RegOps
          rw [hmap]
          apply List.map_congr_left
          intro x hx
          obtain ⟨i, hi⟩ := List.getElem?_of_mem hx
          have h1 := congrArg (fun l => l[i]?) hmap
          simp only [List.getElem?_map, hi, Option.map_some] at h1
          rw [Option.map_eq_some_iff] at h1
          obtain ⟨o, _, ho⟩ := h1
          have := resO_nid ho
          cases x; simp_all
        refine region_text hG hF hRO (g := g) (base := 0) ?_ hw hat.sr ?_
        · intro hg o ho
          subst hg
          simp only [Bool.false_or, noGuard] at hgd
          have := Array.all_eq_true_iff_forall_mem.1 hgd o ho
          simpa using this
        · intro τ S' w' O' a' hK hgh hev hsr hd
          exact hQ _ _ _ _ _ _ hK ⟨by rw [hd]; exact hC.evol hat.ctx hat.sr.mat.lt hev hgh, hsr⟩
      · cases hc
  | nxt d m it =>
    intro c r' F n lo top hF hc C base hC Q Q' σ S w O a hw hat hQ
    cases c <;> (try simp only [comp] at hc) <;> try (cases hc; done)
    case region id ops draw =>
      cases draw <;> (try simp only [comp] at hc) <;> try (cases hc; done)
      split at hc
      · rename_i o1 o2 hops
        split at hc
        · rename_i hx
          cases hc
          refine nxt_sound hF (M := M) (N := M.nm) hops hx hw hat.sr ?_
          intro σ' w' a' hK hev hgh hsr hd
          exact hQ _ _ _ _ _ _ hK ⟨by rw [hd]; exact hC.evol hat.ctx hat.sr.mat.lt hev hgh, hsr⟩
        · cases hc
      · cases hc
  | yrg g l1 y ks l2 =>
    intro c r' F n lo top hF hc C base hC Q Q' σ S w O a hw hat hQ
    cases c <;> (try simp only [comp] at hc) <;> try (cases hc; done)
    case region id ops draw =>
      cases draw <;> (try simp only [comp] at hc) <;> try (cases hc; done)
      split at hc
      · rename_i htg
        simp only [Bool.and_eq_true, beq_iff_eq] at htg
        obtain ⟨rfl, hgd⟩ := htg
        split at hc
        · rename_i o ho
          split at hc
          · rename_i r1 y' r2 h1 hy h2
            split at hc
            · rename_i hl
              cases hc
              have hl' : r1.length = l1.length := by simpa using hl
              rw [← hl'] at ho h1 h2
              exact yrg_sound hG hF hC hgd ho h1 hy h2 hw hat fun σ' S' w' O' a' => hQ _ σ' S' w' O' a'
            · cases hc
          · cases hc
        · cases hc
      · cases hc
  | crl g l1 y l2 =>
    intro c r' F n lo top hF hc C base hC Q Q' σ S w O a hw hat hQ
    cases c <;> (try simp only [comp] at hc) <;> try (cases hc; done)
    case region id ops draw =>
      cases draw <;> (try simp only [comp] at hc) <;> try (cases hc; done)
      split at hc
      · rename_i hgd
        split at hc
        · rename_i o ho
          split at hc
          · rename_i r1 y' r2 h1 hy h2
            split at hc
            · rename_i hl
              cases hc
              have hl' : r1.length = l1.length := by simpa using hl
              rw [← hl'] at ho h1 h2
              exact crl_sound hG hF hC hgd ho h1 hy h2 hw hat fun σ' S' w' O' a' => hQ _ σ' S' w' O' a'
            · cases hc
          · cases hc
        · cases hc
      · cases hc
  | swp i j r ih =>
    intro c r' F n lo top hF hc C base hC Q Q' σ S w O a hw hat hQ
    simp only [comp] at hc
    split at hc
    · rename_i htl
      simp only [Bool.and_eq_true, beq_iff_eq] at htl
      rw [Option.map_eq_some_iff] at hc
      obtain ⟨r1, h1, rfl⟩ := hc
      obtain ⟨hi, hj, hw⟩ := hw
      refine ih c r1 F n lo top hF h1 C base hC Q Q' _ S w (fun id => O (sw i j id)) a hw ⟨hC.ren htl.1 htl.2 hat.ctx fun k ⟨id, g, ho⟩ => ⟨_, g, ho⟩, ⟨hat.sr.size, hat.sr.kept, fun t => ?_, sw_mat hat.sr.mat hi hj⟩⟩ hQ
      exact ren_rep (fun id => by rw [sw_sw]) _ _ (hat.sr.fr t)
    · cases hc
  | any g m l =>
    intro c r' F n lo top hF hc C base hC Q Q' σ S w O a hw hat hQ
    cases c <;> (try simp only [comp] at hc) <;> try (cases hc; done)
    case region id ops draw =>
      cases draw <;> (try simp only [comp] at hc) <;> try (cases hc; done)
      split at hc
      · rename_i hgd
        cases hrs : (ops.toList.mapM fun o => resO P pu M.nm ops o) with
        | none => simp [hrs] at hc
        | some rs =>
          simp only [hrs] at hc
          split at hc
          · rename_i hch
            cases hc
            simp only [Bool.and_eq_true, decide_eq_true_eq] at hch
            obtain ⟨⟨h1, h2⟩, h3⟩ := hch
            have hmap := mapM_some hrs
            have hAO : AnyOps P pu M.nm ops (rs.zipWith (fun r (x : AnyOp) => (⟨{ r with nid := x.o.nid }, x.js, x.an⟩ : AnyOp)) l) := by
              unfold AnyOps
              rw [hmap]
              refine List.ext_getElem? fun i => ?_
              simp only [List.getElem?_map, List.getElem?_zipWith]
              cases hi : rs[i]? with
              | none => simp
              | some x =>
                have hlt := getElemLt hi
                have hll : i < l.length := by
                  rw [List.length_zipWith] at h3; omega
                simp only [Option.map_some, List.getElem?_eq_getElem hll, Option.some.injEq]
                have h1 := congrArg (fun l => l[i]?) hmap
                simp only [List.getElem?_map, hi, Option.map_some] at h1
                rw [Option.map_eq_some_iff] at h1
                obtain ⟨o, _, ho⟩ := h1
                have := resO_nid ho
                cases x; simp_all
            refine region_any hG hF hm hAO h1 h2 (g := g) (base := σ.hp.length) ?_ hw ⟨hat.sr.size, hat.sr.kept, hat.sr.fr, mat_app hat.sr.mat _⟩ ?_
            · intro hg o ho
              subst hg
              simp only [Bool.false_or, noGuard] at hgd
              have := Array.all_eq_true_iff_forall_mem.1 hgd o ho
              simpa using this
            · intro τ S' w' O' a' hK hgh hev hsr hd
              exact hQ _ _ _ _ _ _ hK ⟨by rw [hd]; exact hC.evol hat.ctx hat.sr.mat.lt hev fun y hy => hgh y (ghO_app hy), hsr⟩
          · cases hc
      · cases hc
  | seq r1 r2 ih1 ih2 =>
    intro c r' F n lo top hF hc C base hC Q Q' σ S w O a hw hat hQ
    cases c <;> (try simp only [comp] at hc) <;> try (cases hc; done)
    case seq x y =>
      cases h1 : comp P pu M.nm lo top r1 x with
      | none => simp [h1] at hc
      | some a1 =>
        cases h2 : comp P pu M.nm lo top r2 y with
        | none => simp [h1, h2] at hc
        | some a2 =>
          simp only [h1, h2, Option.some.injEq] at hc
          subst hc
          refine wpIn_seq (ih1 x a1 F n lo top hF h1 C base hC _ _ σ S w O a hw hat ?_)
          intro e σ' S' w' O' a' he hat'
          cases e <;> first | exact hQ _ _ _ _ _ _ he hat' | skip
          exact ih2 y a2 F n lo top hF h2 C base hC _ _ σ' S' w' O' a' he hat' hQ
  | mid r1 r2 ih1 ih2 =>
    intro c r' F n lo top hF hc C base hC Q Q' σ S w O a hw hat hQ
    cases c <;> (try simp only [comp] at hc) <;> try (cases hc; done)
    case seq x y =>
      cases h1 : comp P pu M.nm lo top r1 x with
      | none => simp [h1] at hc
      | some a1 =>
        cases h2 : comp P pu M.nm lo top r2 y with
        | none => simp [h1, h2] at hc
        | some a2 =>
          simp only [h1, h2, Option.some.injEq] at hc
          subst hc
          obtain ⟨Mid, hw1, hw2⟩ := hw
          refine wpIn_seq (ih1 x a1 F n lo top hF h1 C base hC _ _ σ S w O a hw1 hat ?_)
          intro e σ' S' w' O' a' he hat'
          cases e <;> first | exact hQ _ _ _ _ _ _ he hat' | skip
          exact ih2 y a2 F n lo top hF h2 C base hC _ _ σ' S' w' O' a' (hw2 _ he) hat' hQ
  | cond k r1 r2 ih1 ih2 =>
    intro c r' F n lo top hF hc C base hC Q Q' σ S w O a hw hat hQ
    cases c <;> (try simp only [comp] at hc) <;> try (cases hc; done)
    case cond k' x y =>
      cases h0 : rOd P 0 k' with
      | none => simp [h0] at hc
      | some k1 =>
        cases h1 : comp P pu M.nm lo top r1 x with
        | none => simp [h0, h1] at hc
        | some a1 =>
          cases h2 : comp P pu M.nm lo top r2 y with
          | none => simp [h0, h1, h2] at hc
          | some a2 =>
            simp only [h0, h1, h2, Option.some.injEq] at hc
            subst hc
            simp only [wpR] at hw
            cases hk : evO σ.fr k1 <;> simp only [hk] at hw <;> try exact hw.elim
            case b t =>
              refine wpIn_cond_split (cond_rep hat.sr.fr h0 hk) (fun ht => ?_) (fun ht => ?_)
              · exact ih1 x a1 F n lo top hF h1 C base hC Q Q' σ S w O a (hw.1 ht) hat hQ
              · exact ih2 y a2 F n lo top hF h2 C base hC Q Q' σ S w O a (hw.2 ht) hat hQ
  | block id r ih =>
    intro c r' F n lo top hF hc C base hC Q Q' σ S w O a hw hat hQ
    cases c <;> (try simp only [comp] at hc) <;> try (cases hc; done)
    case block id' x =>
      rw [Option.map_eq_some_iff] at hc
      obtain ⟨r1, h1, rfl⟩ := hc
      refine wpIn_block (ih x r1 F n lo top hF h1 C base hC _ _ σ S w O a hw hat ?_)
      intro e σ' S' w' O' a' he hat'
      cases e <;> first | exact hQ _ _ _ _ _ _ he hat' | skip
      case exit id'' =>
        simp only [blockQ] at he
        simp only [Exit.inBlock]
        split
        · rename_i hid; rw [if_pos hid] at he; exact hQ _ _ _ _ _ _ he hat'
        · rename_i hid; rw [if_neg hid] at he; exact hQ _ _ _ _ _ _ he hat'
  | loop l d r ih =>
    intro c r' F n lo top hF hc C base hC Q Q' σ S w O a hw hat hQ
    cases c <;> (try simp only [comp] at hc) <;> try (cases hc; done)
    case loop x =>
      by_cases hlo : dOk lo d = true
      · rw [if_pos hlo] at hc
        rw [Option.map_eq_some_iff] at hc
        obtain ⟨r1, h1, rfl⟩ := hc
        have hd : ∀ k, d = some k → lo ≤ k := by
          rintro k rfl
          exact of_decide_eq_true hlo
        obtain ⟨I, ⟨k0, h0⟩, hround⟩ := hw
        obtain ⟨S1, O1, hat1⟩ := hat.kp hC l d hd
        refine wpIn_loopN (fun k a w => ∃ σ S O, I k σ ∧ At C M S w O σ a) ⟨k0, _, S1, O1, h0, hat1⟩ ?_
        rintro k a1 w1 ⟨σ1, S1, O1, hI, hat1⟩
        refine ih x r1 F n lo top hF h1 C base hC _ _ σ1 S1 w1 O1 a1 (hround k σ1 hI) hat1 ?_
        intro e σ' S' w' O' a' he hat'
        cases e <;> first | exact hQ _ _ _ _ _ _ he hat' | skip
        obtain ⟨j, hj, hI'⟩ := he
        obtain ⟨S2, O2, hat2⟩ := hat'.kp hC l d hd
        exact ⟨j, hj, _, S2, O2, hI', hat2⟩
      · rw [if_neg hlo] at hc; cases hc
  | exit id =>
    intro c r' F n lo top hF hc C base hC Q Q' σ S w O a hw hat hQ
    cases c <;> (try simp only [comp] at hc) <;> try (cases hc; done)
    cases hc
    exact wpIn_exit (hQ _ _ _ _ _ _ hw hat)
  | ret =>
    intro c r' F n lo top hF hc C base hC Q Q' σ S w O a hw hat hQ
    cases c <;> (try simp only [comp] at hc) <;> try (cases hc; done)
    exact wpIn_ret (hQ _ _ _ _ _ _ (by cases hc; exact hw) hat)
  | keep l r ih =>
    intro c r' F n lo top hF hc C base hC Q Q' σ S w O a hw hat hQ
    simp only [comp] at hc
    rw [Option.map_eq_some_iff] at hc
    obtain ⟨r1, h1, rfl⟩ := hc
    exact ih c r1 F n lo top hF h1 C base hC Q Q' _ S w O a hw (hat.keep l) hQ
  | drp k r ih =>
    intro c r' F n lo top hF hc C base hC Q Q' σ S w O a hw hat hQ
    simp only [comp] at hc
    split at hc
    · rename_i hlo
      rw [Option.map_eq_some_iff] at hc
      obtain ⟨r1, h1, rfl⟩ := hc
      exact ih c r1 F n lo top hF h1 C base hC Q Q' _ _ w (restO O k) a hw (hat.drp hC hlo) hQ
    · cases hc
  | own t es r ih =>
    intro c r' F n lo top hF hc C base hC Q Q' σ S w O a hw hat hQ
    simp only [comp] at hc
    rw [Option.map_eq_some_iff] at hc
    obtain ⟨r1, h1, rfl⟩ := hc
    simp only [wpR] at hw
    cases ht : σ.fr t <;> simp only [ht] at hw <;> try exact hw.elim
    case z es' =>
      have hO := mat_none hat.sr.mat
      obtain ⟨hev, hmat⟩ := virt_own (mat_app hat.sr.mat [.cells 0 []]) hO (by simp) rfl
      refine ih c r1 F n lo top hF h1 C base hC Q Q' _ S w _ a hw ⟨hC.evol hat.ctx hat.sr.mat.lt hev fun y hy => ghO_app hy, ⟨hat.sr.size, hat.sr.kept, fun t' => ?_, hmat⟩⟩ hQ
      simp only [upd]
      split
      · rename_i e
        subst e
        have := hat.sr.fr t'
        rw [ht] at this
        simp only [Rep] at this ⊢
        obtain ⟨x, hx⟩ := this
        rw [hx]
        exact ⟨rfl, 0, none, (by simp [updO]), Nat.le_refl _, fun _ => .inr ⟨rfl, trivial, x, rfl⟩⟩
      · exact Rep.ext hev.ext _ _ (hat.sr.fr t')
  | ownc t off es r ih =>
    intro c r' F n lo top hF hc C base hC Q Q' σ S w O a hw hat hQ
    simp only [comp] at hc
    rw [Option.map_eq_some_iff] at hc
    obtain ⟨r1, h1, rfl⟩ := hc
    simp only [wpR] at hw
    cases ht : σ.fr t <;> simp only [ht] at hw <;> try exact hw.elim
    case ad id g o =>
      cases hid : σ.hp[id]? with
      | none => simp [hid] at hw
      | some bk =>
        cases bk <;> simp only [hid] at hw <;> try exact hw.elim
        case cells g' vs =>
          cases hv : vs[o + off]? with
          | none => simp [hv] at hw
          | some v =>
            cases v <;> simp only [hv] at hw <;> try exact hw.elim
            case z es' =>
              obtain ⟨rfl, hw⟩ := hw
              have hO := mat_none hat.sr.mat
              have hidlt := getElemLt hid
              obtain ⟨hev, hmat⟩ := virt_own (mat_app hat.sr.mat [.cells 0 []]) hO (by simp) rfl
              refine ih c r1 F n lo top hF h1 C base hC Q Q' _ S w _ a hw ⟨hC.evol hat.ctx hat.sr.mat.lt hev fun y hy => ghO_app (ghO_set hy hid fun _ _ h => by cases h), ⟨hat.sr.size, hat.sr.kept, hat.sr.fr.ext hev.ext, ?_⟩⟩ hQ
              refine ⟨hmat.lt, hmat.own, hmat.inj, fun j gj ob hj => ?_⟩
              have hb := hmat.blk j gj ob hj
              by_cases hji : j = id
              · subst hji
                rw [List.getElem?_append_left (by rw [List.length_set]; exact hidlt), List.getElem?_set_self hidlt]
                rw [List.getElem?_append_left hidlt, hid] at hb
                simp only [BlkOk] at hb ⊢
                refine ⟨hb.1, ?_⟩
                cases ob with
                | none => have := hb.2; simp only at this; rw [this] at hv; simp at hv
                | some b =>
                  obtain ⟨cur, e, hh, hrl, hone⟩ := hb.2
                  refine ⟨cur, e, hh, ?_, hone⟩
                  obtain ⟨cc, hcc, hrep⟩ := RepL.get _ _ _ _ hrl hv
                  have hrep2 : Rep S w (updO O σ.hp.length (0, none)) (.rf σ.hp.length 0 0 0 es) cc := by
                    simp only [Rep] at hrep ⊢
                    obtain ⟨x, hx⟩ := hrep
                    rw [hx]
                    exact ⟨rfl, 0, none, (by simp [updO]), Nat.le_refl _, fun _ => .inr ⟨rfl, trivial, x, rfl⟩⟩
                  have := RepL.set (o + off) vs cur.toList _ cc hrl hrep2
                  rwa [set_self' hcc] at this
              · have e1 : (σ.hp.set id (Blk.cells g' (vs.set (o + off) (.rf σ.hp.length 0 0 0 es))) ++ [Blk.cells 0 []])[j]? = (σ.hp ++ [Blk.cells 0 []])[j]? := by
                  rw [List.getElem?_append, List.getElem?_append, List.length_set, List.getElem?_set_ne (Ne.symm hji)]
                rw [e1]; exact hb
  | rfn f ps lo' rb ra ihb iha =>
    intro c r' F n lo top hF hc C base hC Q Q' σ S w O a hw hat hQ
    cases c <;> (try simp only [comp] at hc) <;> try (cases hc; done)
    case rangeFunc f0 ps0 x y =>
      split at hc
      · rename_i hch
        simp only [Bool.and_eq_true, decide_eq_true_eq, beq_iff_eq] at hch
        obtain ⟨⟨rfl, hlo⟩, hps⟩ := hch
        cases h0 : rOd P 0 f0 with
        | none => simp [h0] at hc
        | some f1 =>
          cases h1 : comp P pu M.nm lo' 0 rb x with
          | none => simp [h0, h1] at hc
          | some b1 =>
            cases h2 : comp P pu M.nm lo' 0 ra y with
            | none => simp [h0, h1, h2] at hc
            | some a1 =>
              simp only [h0, h1, h2, Option.some.injEq] at hc
              subst hc
              refine rfn_sound hG hF hC h0 hlo (fun p hp => ?_) (fun l => ihb x b1 _ _ lo' 0 (openF_in hF l) h1) (fun l => iha y a1 _ _ lo' 0 (openF_in hF l) h2) hw hat hQ
              have := Array.all_eq_true_iff_forall_mem.1 hps p (by simpa using hp)
              exact dstOk_some this
      · cases hc
end
end Go.Fam
/- A function's contract out of its body. -/
namespace Go.Fam
inductive RV where
  | t (n : Nat) | c (a : Nat) (ag : Bool) (n : Nat)

def rv1 (hp : List Blk) (fr : Nat → V) : RV → Prop × V
  | .t n => (True, fr n)
  | .c a ag n => ldV hp ag n (fr a)
def rvs (hp : List Blk) (fr : Nat → V) : List RV → Prop
  | [] => True
  | r :: l => (rv1 hp fr r).1 ∧ rvs hp fr l
def resV (hp : List Blk) (fr : Nat → V) : List RV → V
  | [r] => (rv1 hp fr r).2
  | l => .tp (l.map fun r => (rv1 hp fr r).2)

def resRV1 (P : Program) : ResultVar → Option RV
  | .tmp t => some (.t t)
  | .cell a t => (ldB P t).map (.c a (isAggB P t))
def resRV (P : Program) (l : List ResultVar) : Option (List RV) := l.mapM (resRV1 P)

/-- what a function's end asks for -/
def endQ (rs : List RV) (r : V) : Exit → St → Prop
  | .normal, σ | .ret, σ => rvs σ.hp σ.fr rs ∧ vw σ.hp 8 (resV σ.hp σ.fr rs) = r
  | _, _ => False

section
variable {P : Program} {F : Fence} {n : Nat} {Γ : Gam} {N : FrI} {pu : List Nat}

def resGet (tmps : Array Value) : ResultVar → Sem Value
  | .tmp t => pure (tmps.getD t undef)
  | .cell a t => do loadVar t (← asAddr (tmps.getD a undef))

theorem results_eq (fn : Func) (tmps : Array Value) : results fn tmps = (do let vs ← fn.results.mapM (resGet tmps); pure (if h : vs.size = 1 then vs[0] else .tuple vs)) := by
  unfold results
  rfl

theorem rv1_run {S : Nat → Prop} {w : World} {O : OInfo} {σ : St} {a : Act} (hsr : SR N S w O σ a) {x : ResultVar} {r : RV} (hr : resRV1 P x = some r) (hok : (rv1 σ.hp σ.fr r).1) :
    ∃ c, (resGet a.tmps x).run P w = .ok c w ∧ Rep S w O (rv1 σ.hp σ.fr r).2 c := by
  cases x with
  | tmp t =>
    simp only [resRV1, Option.some.injEq] at hr
    subst hr
    exact ⟨_, rfl, hsr.fr t⟩
  | cell t ty =>
    simp only [resRV1, Option.map_eq_some_iff] at hr
    obtain ⟨k, hk, rfl⟩ := hr
    simp only [rv1] at hok ⊢
    obtain ⟨c, hrun, hrep⟩ := ld_run hk hsr.mat (hsr.fr t) hok
    refine ⟨c, ?_, hrep⟩
    have hp : ∃ ad, a.tmps.getD t undef = .pointer (some ad) := by
      have h1 := hsr.fr t
      cases hv : σ.fr t <;> rw [hv] at hok h1 <;> first | (simp [ldV] at hok; done) | skip
      case pa cs =>
        simp only [Rep] at h1
        obtain ⟨blk, off, cur, e, fr, h2, _⟩ := h1
        exact ⟨_, h2⟩
      case ad id g off =>
        simp only [ldV] at hok
        split at hok
        · rename_i g' vs hid
          simp only [Rep] at h1
          obtain ⟨_, gO, ob, hO, hle, h2⟩ := h1
          have hb := hsr.mat.blk id gO ob hO
          rw [hid] at hb
          simp only [BlkOk] at hb
          have e : g = gO := hok.1.symm.trans hb.1
          obtain ⟨b, _, h3⟩ := h2 e
          exact ⟨_, h3⟩
        · exact hok.elim
    obtain ⟨ad, had⟩ := hp
    rw [had] at hrun
    simp only [resGet, had, asAddr, Sem.run_bind, Sem.run_pure, Result.andThen_ok]
    simpa [Instr.loadAt, Instr.sureAddr] using hrun

theorem rvs_run {S : Nat → Prop} {w : World} {O : OInfo} {σ : St} {a : Act} (hsr : SR N S w O σ a) : ∀ (xs : List ResultVar) (rs : List RV), resRV P xs = some rs → rvs σ.hp σ.fr rs →
    ∃ cs, (xs.mapM (resGet a.tmps)).run P w = .ok cs w ∧ cs.length = rs.length ∧ RepL S w O (rs.map fun r => (rv1 σ.hp σ.fr r).2) cs
  | [], rs, h, _ => by
    simp [resRV] at h
    subst h
    exact ⟨[], rfl, rfl, by simp [RepL]⟩
  | x :: xs, rs, h, hok => by
    simp only [resRV, List.mapM_cons, Option.bind_eq_bind, Option.bind_eq_some_iff, Option.pure_def, Option.some.injEq] at h
    obtain ⟨r, hr, rs', hrs, rfl⟩ := h
    obtain ⟨h1, h2⟩ := hok
    obtain ⟨c, hc, hrep⟩ := rv1_run hsr hr h1
    obtain ⟨cs, hcs, hl, hreps⟩ := rvs_run hsr xs rs' hrs h2
    refine ⟨c :: cs, ?_, by simp [hl], by simp only [List.map_cons, RepL]; exact ⟨hrep, hreps⟩⟩
    rw [List.mapM_cons]
    simp only [Sem.run_bind, hc, Result.andThen_ok, hcs, Sem.run_pure]

theorem results_run {S : Nat → Prop} {w : World} {O : OInfo} {σ : St} {a : Act} (hsr : SR N S w O σ a) {fn : Func} {rs : List RV} (hr : resRV P fn.results.toList = some rs) (hok : rvs σ.hp σ.fr rs) :
    ∃ c, (results fn a.tmps).run P w = .ok c w ∧ Rep S w O (resV σ.hp σ.fr rs) c := by
  obtain ⟨cs, hcs, hl, hrep⟩ := rvs_run hsr _ _ hr hok
  rw [results_eq, Array.mapM_eq_mapM_toList]
  simp only [Sem.run_bind, map_eq_pure_bind, hcs, Result.andThen_ok, Sem.run_pure]
  refine ⟨_, rfl, ?_⟩
  match rs, cs, hl, hrep with
  | [], [], _, _ => simp [resV, Rep, RepL]
  | [r], [c], _, h => simpa [resV, RepL] using h
  | r :: r' :: rs, c :: c' :: cs, hl, h =>
    simp only [resV, Rep]
    exact ⟨(c :: c' :: cs).toArray, by simp, by simpa using hl, by simpa using h⟩

def zipA : Nat → List V → List (Nat × V)
  | _, [] => []
  | k, v :: vs => (k, v) :: zipA (k + 1) vs

theorem lkp_zipA : ∀ (vs : List V) (k t : Nat), lkp (zipA k vs) t = if k ≤ t then (vs[t - k]?).getD .u else .u
  | [], k, t => by simp [zipA, lkp]
  | v :: vs, k, t => by
    simp only [zipA, lkp]
    split
    · rename_i e; subst e; simp
    · rename_i hne
      rw [lkp_zipA vs (k + 1) t]
      by_cases h : k ≤ t
      · have h1 : k + 1 ≤ t := by omega
        rw [if_pos h, if_pos h1]
        have : t - k = (t - (k + 1)) + 1 := by omega
        rw [this]; simp
      · rw [if_neg h, if_neg (by omega)]

theorem Rep.ext_false {w w' : World} {x : List V} {cs : List Value} (h : RepL (fun _ => False) w noO x cs) : RepL (fun _ => False) w' noO x cs :=
  RepL.ext ⟨fun _ h => h.elim, fun _ _ _ h => by cases h⟩ _ _ h

theorem evol_turn {S0 S : Nat → Prop} {w0 w : World} {O : OInfo} (h : Evol S0 S w0 w noO O) {L : Nat} {o o' : Obj} (hb : w.heap[L]? = some o) (hc : o.isCells = false) (hc' : o'.isCells = false) (hS : ¬ S L) (hL : w0.heap.size ≤ L) :
    Evol S0 S w0 (w.putObj L o') noO O := by
  have hoth : ∀ k, k ≠ L → (w.putObj L o').heap[k]? = w.heap[k]? := fun k hk => World.putObj_heap_other hk
  have hnew : (w.putObj L o').heap[L]? = some o' := World.putObj_heap_same (Array.getElem?_eq_some_iff.1 hb).1
  refine ⟨⟨fun k hk => ⟨(h.ext.keep k hk).1, ?_⟩, fun _ _ _ h => (by cases h)⟩, h.os, h.tape, h.output, by simpa using h.size, fun a => ?_, fun k hk hno => ?_, h.fresh, h.grow⟩
  · rw [hoth k (by rintro rfl; exact hS (h.ext.keep k hk).1)]; exact (h.ext.keep k hk).2
  · refine Eq.trans ?_ (h.fz a)
    by_cases e : a.block = L
    · simp only [World.frozen?, e, hnew, hb]
      cases o <;> cases o' <;> first | rfl | (simp [Obj.isCells] at hc; done) | (simp [Obj.isCells] at hc'; done)
    · simp only [World.frozen?, hoth _ e]
  · rw [hoth k (by omega)]; exact h.old k hk hno

/-- what a function carries along -/
def Cn (S0 : Nat → Prop) (w0 : World) : Ctx := fun S w O ds _ => Evol S0 S w0 w noO O ∧ ∃ Ds : List Nat, ds = Ds.map col ∧ Ds.Nodup ∧ ∀ D ∈ Ds, w.heap[D]? = some (.deferred (some [])) ∧ ¬ S D ∧ ¬ Own O D ∧ w0.heap.size ≤ D

theorem cn_ok {M : FrI} {S0 : Nat → Prop} {w0 : World} (hro : F.round = none) : CtxOk P F n M (Cn S0 w0) 0 1 w0.heap.size := by
  refine ⟨?_, ?_, fun _ => hro, fun _ _ _ _ _ _ h => h.1.size, ?_, ?_, ?_, fun h => (by cases h)⟩
  · rintro S S' w w' O O' ds h h' ⟨h1, Ds, h2, h3, h4⟩ hlt ev _
    refine ⟨h1.trans ev, Ds, h2, h3, fun D hD => ?_⟩
    obtain ⟨a1, a2, a3, a4⟩ := h4 D hD
    have hDlt := (Array.getElem?_eq_some_iff.1 a1).1
    refine ⟨(ev.old D hDlt a3).trans a1, fun hS => ?_, fun hO => ?_, a4⟩
    · rcases ev.grow D hS with h | h | h
      · exact a2 h
      · exact a3 h
      · omega
    · rcases ev.fresh D hO with h | h
      · exact a3 h
      · omega
  · rintro S w O ds h h' k ⟨h1, Ds, h2, h3, h4⟩ _ _
    refine ⟨h1.cut k, Ds, h2, h3, fun D hD => ?_⟩
    obtain ⟨a1, a2, a3, a4⟩ := h4 D hD
    refine ⟨a1, ?_, fun ⟨id, g, ho⟩ => a3 ⟨id, g, (restO_some ho).2⟩, a4⟩
    rintro (h | ⟨id, g, ho⟩)
    · exact a2 h
    · exact a3 ⟨id, g, (fromO_some ho).2⟩
  · rintro _ S w O ds h L r r' ⟨h1, Ds, h2, h3, h4⟩ hL hS hO hb
    refine ⟨evol_turn h1 hL rfl rfl hS hb, Ds, h2, h3, fun D hD => ?_⟩
    obtain ⟨a1, a2, a3, a4⟩ := h4 D hD
    refine ⟨?_, a2, a3, a4⟩
    rw [World.putObj_heap_other (by rintro rfl; rw [hL] at a1; cases a1)]
    exact a1
  · rintro _ S w O ds h r ⟨h1, Ds, h2, h3, h4⟩ hS hO
    have hl : Later w ((w.alloc (.deferred (some []))).alloc (.loop r)) := (later_alloc w _ rfl).trans (later_alloc _ _ rfl)
    refine ⟨h1.trans (hl.evol hS hO), w.heap.size :: Ds, by rw [h2]; rfl, List.nodup_cons.2 ⟨fun hD => ?_, h3⟩, fun D hD => ?_⟩
    · have := (Array.getElem?_eq_some_iff.1 (h4 _ hD).1).1; omega
    · rcases List.mem_cons.1 hD with rfl | hD
      · refine ⟨?_, fun h => ?_, fun h => ?_, h1.size⟩
        · exact (heap_alloc_old _ _ (by simp)).trans (World.alloc_heap_new w _)
        · have := hS _ h; omega
        · have := hO _ h; omega
      · obtain ⟨a1, a2, a3, a4⟩ := h4 D hD
        exact ⟨(hl.old D (Array.getElem?_eq_some_iff.1 a1).1).trans a1, a2, a3, a4⟩

  · rintro _ _ S w O O' ds h h' ⟨h1, Ds, h2, h3, h4⟩ hO
    exact ⟨h1.less hO, Ds, h2, h3, fun D hD => ⟨(h4 D hD).1, (h4 D hD).2.1, fun h => (h4 D hD).2.2.1 (hO D h), (h4 D hD).2.2.2⟩⟩

/-- the way out, past the marks of the ranges over functions -/
theorem leave_marks {M : FrI} {fn : Func} {rs : List RV} (hr : resRV P fn.results.toList = some rs) {S0 S : Nat → Prop} {w0 : World} {O : OInfo} {σ : St} {a : Act} (hok : rvs σ.hp σ.fr rs) {R : Ending → World → Prop}
    (hR : ∀ w' c, Evol S0 S w0 w' noO O → Mat S w' O σ.hp → Rep S w' O (resV σ.hp σ.fr rs) c → R (.returned c) w') :
    ∀ (Ds : List Nat) (w : World), Ds.Nodup → (∀ D ∈ Ds, w.heap[D]? = some (.deferred (some [])) ∧ ¬ S D ∧ ¬ Own O D ∧ w0.heap.size ≤ D) → Evol S0 S w0 w noO O → SR M S w O σ a → LeavesInM F n P fn a.tmps R (Ds.map col) .returning w
  | [], w, _, _, hev, hsr => by
    obtain ⟨c, hrun, hrp⟩ := results_run hsr hr hok
    exact ⟨c, hrun, hR w c hev hsr.mat hrp⟩
  | D :: Ds, w, hnd, hD, hev, hsr => by
    obtain ⟨hn1, hn2⟩ := List.nodup_cons.1 hnd
    obtain ⟨a1, a2, a3, a4⟩ := hD D (by simp)
    refine ⟨by simp, .inl ⟨D, _, rfl, run_takeDeferred a1, ?_⟩⟩
    refine leave_marks hr hok hR Ds _ hn2 (fun D' hD' => ?_) (evol_turn hev a1 rfl rfl a2 a4) (sr_turn hsr _ a2 a3)
    obtain ⟨b1, b2⟩ := hD D' (by simp [hD'])
    exact ⟨(World.putObj_heap_other (by rintro rfl; exact hn1 hD')).trans b1, b2⟩

theorem start_fr {S : Nat → Prop} {w : World} {args : List V} {cargs : Array Value} {nt : Nat} (hsz : cargs.size = args.length) (hn : args.length ≤ nt) (hrep : RepL S w noO args cargs.toList) :
    (cargs ++ Array.replicate (nt - cargs.size) undef).size = nt ∧ FrM S w noO (lkp (zipA 0 args)) { tmps := cargs ++ Array.replicate (nt - cargs.size) undef, defers := [] } ∧
      ∀ t, t < cargs.size → (cargs ++ Array.replicate (nt - cargs.size) undef).getD t undef = cargs.getD t undef := by
  have hlo : ∀ t, t < cargs.size → (cargs ++ Array.replicate (nt - cargs.size) undef).getD t undef = cargs.getD t undef := by
    intro t ht
    simp [Array.getElem?_append, ht]
  refine ⟨by simp; omega, fun t => ?_, hlo⟩
  show Rep S w noO (lkp (zipA 0 args) t) _
  rw [lkp_zipA, if_pos (Nat.zero_le _), Nat.sub_zero]
  cases ht : args[t]? with
  | none => simp [Rep]
  | some v =>
    obtain ⟨cv, hcv, hv⟩ := RepL.get _ _ t v hrep ht
    have hlt : t < cargs.size := by have := getElemLt hcv; simpa using this
    show Rep S w noO v ((cargs ++ Array.replicate (nt - cargs.size) undef).getD t undef)
    rw [hlo t hlt]
    have : cargs.getD t undef = cv := by
      rw [Array.getElem?_toList] at hcv
      have h2 := (Array.getElem?_eq_some_iff.1 hcv).2
      simp [hlt, h2]
    rw [this]
    exact hv

/-- what a body's end asks for -/
def endK (rs : List RV) (K : St → Prop) : Exit → St → Prop
  | .normal, σ | .ret, σ => rvs σ.hp σ.fr rs ∧ K σ
  | _, _ => False

theorem body_calls (hG : GOk P Γ) (hm : P.follows .mixedOrders = true) {f : FuncId} {fn : Func} {c : Code} {rc : RC} {rs : List RV} (hf : P.funcs[f]? = some fn) (hb : fn.body = some c)
    (hc : comp P pu (fn.ntmps, 0) 0 1 rc c = some rc) (hr : resRV P fn.results.toList = some rs) {args : List V} (hn : args.length ≤ fn.ntmps) {K : St → Prop}
    (h : wpR Γ (EqFlat P) rc (endK rs K) ⟨lkp (zipA 0 args), []⟩) {S : Nat → Prop} {w : World} {cargs : Array Value} (hS : ∀ n, S n → n < w.heap.size) (hsz : cargs.size = args.length) (hrep : RepL S w noO args cargs.toList) {R : Ending → World → Prop}
    (hR : ∀ σ S' O' w' c, K σ → Evol S S' w w' noO O' → Mat S' w' O' σ.hp → Rep S' w' O' (resV σ.hp σ.fr rs) c → R (.returned c) w') : Calls P f cargs w R := by
  refine openF_wide.calls (n := 0) (callsIn_of_wp_marks hf hb trivial ?_)
  obtain ⟨h1, h2, h3⟩ := start_fr hsz hn hrep
  obtain ⟨M, hM⟩ : ∃ M : FrI, M = ⟨fn.ntmps, 0, fun _ => undef⟩ := ⟨_, rfl⟩
  have hnm : M.nm = (fn.ntmps, 0) := by rw [hM]; rfl
  have hat : At (Cn S w) M S w noO ⟨lkp (zipA 0 args), []⟩ { tmps := cargs ++ Array.replicate (fn.ntmps - cargs.size) undef, defers := [] } := by
    refine ⟨⟨Evol.refl _ _ _, [], rfl, List.nodup_nil, fun _ h => by cases h⟩, ⟨by rw [hM]; exact h1, fun t ht => by rw [hM] at ht; exact absurd ht (Nat.not_lt_zero _), h2, ⟨hS, fun _ _ _ h => (by cases h), fun _ _ _ _ _ h => (by cases h), fun _ _ _ h => (by cases h)⟩⟩⟩
  refine wpR_sound hG hm (M := M) rc c rc _ 0 0 1 openF_wide (by rw [hnm]; exact hc) (Cn S w) w.heap.size (cn_ok rfl) _ _ _ S w noO _ h hat ?_
  intro e σ' S' w' O' a' he hat'
  have fin : (rvs σ'.hp σ'.fr rs ∧ K σ') → LeavesInM Fence.wide 0 P fn a'.tmps R a'.defers .returning w' := by
    rintro ⟨k1, k2⟩
    obtain ⟨ev, Ds, e1, e2, e3⟩ := hat'.ctx
    rw [e1]
    exact leave_marks hr k1 (fun w2 c hev hmat hrp => hR σ' S' O' w2 c k2 hev hmat hrp) Ds w' e2 e3 ev hat'.sr
  cases e <;> first | exact fin he | exact he.elim

theorem pure_body (hG : GOk P Γ) (hm : P.follows .mixedOrders = true) {f : FuncId} {fn : Func} {c : Code} {rc : RC} {rs : List RV} (hf : P.funcs[f]? = some fn) (hb : fn.body = some c)
    (hc : comp P pu (fn.ntmps, 0) 0 1 rc c = some rc) (hr : resRV P fn.results.toList = some rs) {args : List V} {r : V} (hn : args.length ≤ fn.ntmps)
    (h : wpR Γ (EqFlat P) rc (endQ rs r) ⟨lkp (zipA 0 args), []⟩) : PureCall P f args r := by
  intro S w cargs hS hsz hrep
  have he : endQ rs r = endK rs fun σ => vw σ.hp 8 (resV σ.hp σ.fr rs) = r := by
    funext e σ; cases e <;> rfl
  rw [he] at h
  refine body_calls hG hm hf hb hc hr hn h hS hsz hrep ?_
  intro σ' S' O' w' cv h2 hev hmat hrp
  refine ⟨cv, rfl, ?_, ?_⟩
  · exact ⟨⟨fun k hk => ⟨.inl hk, (hev.ext.keep k hk).2⟩, fun _ _ _ h => by cases h⟩, hev.os, hev.tape, hev.output, hev.size, hev.fz, hev.old, fun k ⟨_, _, h⟩ => (by cases h), fun k hk => hk.imp id fun h => .inr h.1⟩
  · have h3 := vw_rep hmat 8 _ _ hrp
    rw [h2] at h3
    refine Rep.ext ⟨fun k hk => ⟨?_, rfl⟩, fun _ _ _ h => by cases h⟩ _ _ h3
    rcases hk with hk | ⟨id, g, ho⟩
    · rcases hev.grow k hk with h4 | h4 | h4
      · exact .inl h4
      · obtain ⟨_, _, h4⟩ := h4; cases h4
      · exact .inr ⟨h4, hmat.lt k hk⟩
    · rcases hev.fresh k ⟨id, g, ho⟩ with h4 | h4
      · obtain ⟨_, _, h4⟩ := h4; cases h4
      · exact .inr ⟨h4, (hmat.own id g k ho).1⟩

/-- where the result owns blocks -/
def endO (rs : List RV) (r : V) (hp : List Blk) : Exit → St → Prop
  | .normal, σ | .ret, σ => rvs σ.hp σ.fr rs ∧ resV σ.hp σ.fr rs = r ∧ σ.hp = hp
  | _, _ => False
theorem own_body (hG : GOk P Γ) (hm : P.follows .mixedOrders = true) {f : FuncId} {fn : Func} {c : Code} {rc : RC} {rs : List RV} (hf : P.funcs[f]? = some fn) (hb : fn.body = some c)
    (hc : comp P pu (fn.ntmps, 0) 0 1 rc c = some rc) (hr : resRV P fn.results.toList = some rs) {args : List V} {r : V} {hp : List Blk} (hn : args.length ≤ fn.ntmps)
    (h : wpR Γ (EqFlat P) rc (endO rs r hp) ⟨lkp (zipA 0 args), []⟩) : OwnCall P f args r hp := by
  intro S w cargs hS hsz hrep
  have he : endO rs r hp = endK rs fun σ => resV σ.hp σ.fr rs = r ∧ σ.hp = hp := by
    funext e σ; cases e <;> rfl
  rw [he] at h
  refine body_calls hG hm hf hb hc hr hn h hS hsz hrep ?_
  rintro σ' S' O' w' cv ⟨h2, h3⟩ hev hmat hrp
  rw [h2] at hrp
  rw [h3] at hmat
  exact ⟨cv, S', O', rfl, hev, hmat, hrp⟩

/-- where the result is not determined (and owns blocks) -/
theorem relo_body (hG : GOk P Γ) (hm : P.follows .mixedOrders = true) {f : FuncId} {fn : Func} {c : Code} {rc : RC} {rs : List RV} (hf : P.funcs[f]? = some fn) (hb : fn.body = some c)
    (hc : comp P pu (fn.ntmps, 0) 0 1 rc c = some rc) (hr : resRV P fn.results.toList = some rs) {args : List V} {R : V → List Blk → Prop} (hn : args.length ≤ fn.ntmps)
    (h : wpR Γ (EqFlat P) rc (endK rs fun σ => R (resV σ.hp σ.fr rs) σ.hp) ⟨lkp (zipA 0 args), []⟩) : RelCall P f args R := by
  intro S w cargs hS hsz hrep
  refine body_calls hG hm hf hb hc hr hn h hS hsz hrep ?_
  rintro σ' S' O' w' cv h2 hev hmat hrp
  exact ⟨cv, S', O', _, _, rfl, h2, hev, hmat, hrp⟩

/-- what an iterator carries along -/
def Ci (S : Nat → Prop) (caps : List V) (ys : List (List V)) (J Jx : Nat → World → Prop) : Ctx := fun S' W O ds h => ds = [] ∧ ∃ y, h = some (caps, y) ∧ ∃ Sk wk k, Evol Sk S' wk W noO O ∧ (∀ m, S m → Sk m) ∧
  ((k ≤ ys.length ∧ y = some (ys.drop k) ∧ J k wk) ∨ (y = none ∧ Jx k wk))

theorem later_of {S S' : Nat → Prop} {w w' : World} {O : OInfo} (h : Evol S S' w w' noO O) : Later w w' :=
  ⟨h.os, h.tape, h.output, h.size, h.fz, fun n hn => h.old n hn (by rintro ⟨_, _, h⟩; cases h)⟩

def endI : Exit → St → Prop
  | .normal, σ | .ret, σ => match (σ.hp[0]? : Option Blk) with
    | some (Blk.gh _ (some [])) => True
    | some (Blk.gh _ none) => True
    | _ => False
  | _, _ => False

theorem iter_body (hG : GOk P Γ) (hm : P.follows .mixedOrders = true) {f : FuncId} {fn : Func} {c : Code} {rc : RC} (hf : P.funcs[f]? = some fn) (hb : fn.body = some c) {caps : List V} {md : Nat} (hmd : md = 1 + caps.length)
    (hc : comp P pu (fn.ntmps, md) 1 2 rc c = some rc) (hr : resRV P fn.results.toList = some []) {ys : List (List V)} (hn : md ≤ fn.ntmps)
    (h : ∀ l, wpR Γ (EqFlat P) rc endI ⟨lkp (zipA 0 (.yl l :: caps)), [.gh (.yl l :: caps) (some ys)]⟩) : IterCall P f caps ys := by
  subst hmd
  intro F n S w ccaps l J Jx hF hro hS hsz hrep hJ hJx hJS hyl hJ0
  refine callsIn_of_wp_marks hf hb (hF.1 f) ?_ hro
  obtain ⟨args, hargs⟩ : ∃ args, args = V.yl l :: caps := ⟨_, rfl⟩
  obtain ⟨cargs, hcargs⟩ : ∃ cargs : Array Value, cargs = #[.func (.yield l) #[] #[]] ++ ccaps := ⟨_, rfl⟩
  have hrepA : RepL S w noO args cargs.toList := by
    rw [hargs, hcargs]
    simp only [Array.toList_append, List.cons_append, List.nil_append, RepL, Rep]
    exact ⟨trivial, hrep⟩
  have hszA : cargs.size = args.length := by rw [hargs, hcargs]; simp [hsz]; omega
  rw [← hcargs]
  obtain ⟨h1, h2, h3⟩ := start_fr (nt := fn.ntmps) hszA (by rw [hargs]; simp; omega) hrepA
  obtain ⟨M, hM⟩ : ∃ M : FrI, M = ⟨fn.ntmps, 1 + caps.length, fun t => cargs.getD t undef⟩ := ⟨_, rfl⟩
  have hnm : M.nm = (fn.ntmps, 1 + caps.length) := by rw [hM]; rfl
  have hlen : args.length = 1 + caps.length := by rw [hargs]; simp; omega
  have hCi : CtxOk P F n M (Ci S args ys J Jx) 1 2 0 := by
    refine ⟨?_, ?_, fun h => (by cases h), fun h => (by cases h), fun h => (by cases h), fun h => (by cases h), fun h => (by cases h), ?_⟩
    · rintro S1 S2 w1 w2 O1 O2 ds g g' ⟨a1, y, a2, Sk, wk, k, a3, a4, a5⟩ _ ev hg
      exact ⟨a1, y, hg _ a2, Sk, wk, k, a3.trans ev, a4, a5⟩
    · rintro S1 w1 O1 ds g g' kk ⟨a1, y, a2, Sk, wk, k, a3, a4, a5⟩ _ hg
      exact ⟨a1, y, hg (Nat.le_refl _) _ a2, Sk, wk, k, a3.cut kk, a4, a5⟩
    · rintro _ S1 w1 O1 ds caps' x rest cx l' ⟨a1, y, a2, Sk, wk, k, a3, a4, a5⟩ hlt hno hl' hx hxs
      simp only [Option.some.injEq, Prod.mk.injEq] at a2
      obtain ⟨rfl, rfl⟩ := a2
      rw [hargs] at hl'
      simp only [List.getElem?_cons_zero, Option.some.injEq, V.yl.injEq] at hl'
      subst hl'
      rcases a5 with ⟨b1, b2, b3⟩ | ⟨b2, _⟩
      · simp only [Option.some.injEq] at b2
        have hxk : ys[k]? = some x := by
          have := congrArg (fun l => l[0]?) b2
          simpa using this.symm
        have hrest : rest = ys.drop (k + 1) := by
          have := congrArg List.tail b2
          simpa using this
        have hJk := hJ k wk w1 b3 (later_of a3)
        obtain ⟨fn', tm, as, bd, hyr, hround⟩ := hyl k x w1 cx hxk hJk (Rep.ext_false hx) hxs
        refine ⟨fn', tm, as, bd, hyr, hround.mono ?_⟩
        intro e W' hcase
        have facts : ∀ W', (w.heap.size ≤ W'.heap.size ∧ ∀ n, S n → W'.heap[n]? = w.heap[n]?) → (∀ k, S k → k < W'.heap.size) ∧ ∀ t v, caps'[t]? = some v → t < M.md ∧ Rep S W' noO v (M.T t) := by
          intro W' hk
          refine ⟨fun m hm => Nat.lt_of_lt_of_le (hS m hm) hk.1, fun t v htv => ?_⟩
          have htl := getElemLt htv
          refine ⟨by rw [hM]; show t < 1 + caps.length; omega, ?_⟩
          obtain ⟨cv, hcv, hv⟩ := RepL.get _ _ t v hrepA htv
          have : M.T t = cv := by
            rw [hM]
            show cargs.getD t undef = cv
            rw [Array.getElem?_toList] at hcv
            have h2 := Array.getElem?_eq_some_iff.1 hcv
            simp [h2.1, h2.2]
          rw [this]
          exact Rep.ext ⟨fun m hm => ⟨hm, hk.2 m hm⟩, fun _ _ _ h => by cases h⟩ _ _ hv
        rcases hcase with ⟨rfl, hJ'⟩ | ⟨rfl, hJ'⟩
        · obtain ⟨f1, f2⟩ := facts W' (hJS _ _ (.inl hJ'))
          refine ⟨true, S, rfl, ⟨a1, _, rfl, S, W', k + 1, Evol.refl _ _ _, fun _ h => h, .inl ⟨?_, ?_, hJ'⟩⟩, f1, f2⟩
          · have := getElemLt hxk; omega
          · simp [hrest]
        · obtain ⟨f1, f2⟩ := facts W' (hJS _ _ (.inr hJ'))
          exact ⟨false, S, rfl, ⟨a1, _, rfl, S, W', k, Evol.refl _ _ _, fun _ h => h, .inr ⟨rfl, hJ'⟩⟩, f1, f2⟩
      · cases b2
  have hat : At (Ci S args ys J Jx) M S w noO ⟨lkp (zipA 0 args), [.gh args (some ys)]⟩ { tmps := cargs ++ Array.replicate (fn.ntmps - cargs.size) undef, defers := [] } := by
    refine ⟨⟨rfl, _, rfl, S, w, 0, Evol.refl _ _ _, fun _ h => h, .inl ⟨Nat.zero_le _, rfl, hJ0⟩⟩, ⟨by rw [hM]; exact h1, fun t ht => ?_, h2, ⟨hS, fun _ _ _ h => (by cases h), fun _ _ _ _ _ h => (by cases h), fun _ _ _ h => (by cases h)⟩⟩⟩
    rw [hM] at ht ⊢
    exact h3 t (by rw [hszA, hlen]; exact ht)
  refine wpR_sound hG hm (M := M) rc c rc F n 1 2 hF (by rw [hnm]; exact hc) _ 0 hCi _ _ _ S w noO _ (by rw [hargs]; exact h l) hat ?_
  intro e σ' S' w' O' a' he hat'
  have fin : endI .ret σ' → LeavesInM F n P fn a'.tmps (fun e W' => (∃ v, e = .returned v) ∧ (J ys.length W' ∨ ∃ k, Jx k W')) a'.defers .returning w' := by
    intro he
    obtain ⟨a1, y, a2, Sk, wk, k, a3, a4, a5⟩ := hat'.ctx
    rw [a1]
    obtain ⟨cv, hrun, hrp⟩ := results_run hat'.sr hr (show rvs σ'.hp σ'.fr [] from trivial)
    refine ⟨cv, hrun, ⟨cv, rfl⟩, ?_⟩
    have hg := ghO_at a2
    simp only [endI, hg] at he
    rcases a5 with ⟨b1, b2, b3⟩ | ⟨b2, b3⟩
    · left
      subst b2
      have hnil : ys.drop k = [] := by
        cases hd : ys.drop k with
        | nil => rfl
        | cons x l => rw [hd] at he; exact he.elim
      have : k = ys.length := by
        have := List.drop_eq_nil_iff.1 hnil
        omega
      rw [← this]
      exact hJ k wk w' b3 (later_of a3)
    · exact .inr ⟨k, hJx k wk w' b3 (later_of a3)⟩
  cases e <;> first | exact fin he | exact he.elim

def Γ0 : Gam := fun _ _ => (False, .u)
theorem g0_ok : GOk P Γ0 := ⟨fun _ _ _ h => h.elim, fun _ _ _ _ h => h.elim, fun _ _ _ _ h => h.elim, fun _ _ _ h => h.elim⟩
/-- one function more -/
def Gam.ext (Γ : Gam) (f : Nat) (r : List V → Prop × V) : Gam := fun g as => if g = f then r as else Γ g as
theorem ext_ne {f g : Nat} {r : List V → Prop × V} {as : List V} (h : g ≠ f) : Γ.ext f r g as = Γ g as := by unfold Gam.ext; rw [if_neg h]
theorem ext_eq {f : Nat} {r : List V → Prop × V} {as : List V} : Γ.ext f r f as = r as := by unfold Gam.ext; rw [if_pos rfl]
theorem GOk.ext (h : GOk P Γ) {f : Nat} {r : List V → Prop × V} (he : Enters P f) (hr : ∀ as, (r as).1 → PureCall P f as (r as).2) (hf : f < 1000000 := by decide) : GOk P (Γ.ext f r) := by
  refine ⟨fun g as hg6 hg => ?_, fun g as r' bs hg hg6 hv => ?_, fun g as ys hg6 hg hv => ?_, fun g as hg6 hg => ?_⟩
  · by_cases e : g = f
    · subst e
      rw [ext_eq] at hg ⊢
      exact ⟨he, hr as hg⟩
    · rw [ext_ne e] at hg ⊢
      exact h.pure g as hg6 hg
  · rw [ext_ne (by omega)] at hg hv
    exact h.own g as r' bs hg hg6 hv
  · rw [ext_ne (by omega)] at hg hv
    exact h.iter g as ys hg6 hg hv
  · rw [ext_ne (by omega)] at hg
    have e1 : ∀ x, Γ.ext f r (4000000 + g) x = Γ (4000000 + g) x := fun x => ext_ne (by omega)
    simp only [e1]
    exact h.rel g as hg6 hg
/-- a function whose result owns blocks -/
theorem GOk.extO (h : GOk P Γ) {f : Nat} {r : List V → Prop × V} (he : Enters P f) (hr : ∀ as v bs, (r as).1 → (r as).2 = .tp [v, .tp bs] → OwnCall P f as v (bs.map vB)) (hf : f < 1000000 := by decide) : GOk P (Γ.ext (1000000 + f) r) := by
  refine ⟨fun g as hg6 hg => ?_, fun g as r' bs hg hg6 hv => ?_, fun g as ys hg6 hg hv => ?_, fun g as hg6 hg => ?_⟩
  · rw [ext_ne (by omega)] at hg ⊢
    exact h.pure g as hg6 hg
  · by_cases e : g = f
    · subst e
      rw [ext_eq] at hg hv
      exact ⟨he, hr as r' bs hg hv⟩
    · rw [ext_ne (by omega)] at hg hv
      exact h.own g as r' bs hg hg6 hv
  · rw [ext_ne (by omega)] at hg hv
    exact h.iter g as ys hg6 hg hv
  · rw [ext_ne (by omega)] at hg
    have e1 : ∀ x, Γ.ext (1000000 + f) r (4000000 + g) x = Γ (4000000 + g) x := fun x => ext_ne (by omega)
    simp only [e1]
    exact h.rel g as hg6 hg
/-- an iterator -/
theorem GOk.extI (h : GOk P Γ) {f : Nat} {r : List V → Prop × V} (he : Enters P f) (hr : ∀ as ys, (r as).1 → (r as).2 = .sl 0 ys → IterCall P f as ys) (hf : f < 1000000 := by decide) : GOk P (Γ.ext (2000000 + f) r) := by
  refine ⟨fun g as hg6 hg => ?_, fun g as r' bs hg hg6 hv => ?_, fun g as ys hg6 hg hv => ?_, fun g as hg6 hg => ?_⟩
  · rw [ext_ne (by omega)] at hg ⊢
    exact h.pure g as hg6 hg
  · rw [ext_ne (by omega)] at hg hv
    exact h.own g as r' bs hg hg6 hv
  · by_cases e : g = f
    · subst e
      rw [ext_eq] at hg hv
      exact ⟨he, hr as ys hg hv⟩
    · rw [ext_ne (by omega)] at hg hv
      exact h.iter g as ys hg6 hg hv
  · rw [ext_ne (by omega)] at hg
    have e1 : ∀ x, Γ.ext (2000000 + f) r (4000000 + g) x = Γ (4000000 + g) x := fun x => ext_ne (by omega)
    simp only [e1]
    exact h.rel g as hg6 hg
/-- a function whose result is not determined: p the condition, q what is known of the result -/
theorem GOk.extR (h : GOk P Γ) {f : Nat} {p q : List V → Prop} (he : Enters P f) (hr : ∀ as, p as → RelCall P f as fun r hp => ∃ bs : List V, hp = bs.map vB ∧ q (.tp (r :: bs) :: as)) (hf : f < 1000000 := by decide) :
    GOk P ((Γ.ext (3000000 + f) fun as => (p as, .u)).ext (4000000 + f) fun as => (q as, .u)) := by
  refine ⟨fun g as hg6 hg => ?_, fun g as r' bs hg hg6 hv => ?_, fun g as ys hg6 hg hv => ?_, fun g as hg6 hg => ?_⟩
  · rw [ext_ne (by omega), ext_ne (by omega)] at hg ⊢
    exact h.pure g as hg6 hg
  · rw [ext_ne (by omega), ext_ne (by omega)] at hg hv
    exact h.own g as r' bs hg hg6 hv
  · rw [ext_ne (by omega), ext_ne (by omega)] at hg hv
    exact h.iter g as ys hg6 hg hv
  · by_cases e : g = f
    · subst e
      rw [ext_ne (by omega), ext_eq] at hg
      refine ⟨he, ?_⟩
      simp only [ext_eq]
      exact hr as hg
    · rw [ext_ne (by omega), ext_ne (by omega)] at hg
      have e1 : ∀ x, (Γ.ext (3000000 + f) fun as => (p as, .u)).ext (4000000 + f) (fun as => (q as, .u)) (4000000 + g) x = Γ (4000000 + g) x := fun x => by rw [ext_ne (by omega), ext_ne (by omega)]
      simp only [e1]
      exact h.rel g as hg6 hg
end
end Go.Fam
/- Rules by which the simplifier runs resolved code. -/
namespace Go.Fam
theorem upd_some (fr : List (Nat × V)) (d : Nat) (v : V) : upd (lkp fr) (some d) v = lkp ((d, v) :: fr) := rfl
theorem upd_none (fr : Nat → V) (v : V) : upd fr none v = fr := rfl
theorem lkp_cons (fr : List (Nat × V)) (d t : Nat) (v : V) : lkp ((d, v) :: fr) t = if t = d then v else lkp fr t := rfl
theorem lkp_nil (t : Nat) : lkp [] t = .u := rfl
theorem vw_i (hp : List Blk) (n : Nat) (x : Int) : vw hp (n + 1) (.i x) = .i x := rfl
theorem vw_b (hp : List Blk) (n : Nat) (x : Bool) : vw hp (n + 1) (.b x) = .b x := rfl
theorem vw_u (hp : List Blk) (n : Nat) : vw hp n .u = .u := by cases n <;> rfl
theorem vw_pn (hp : List Blk) (n : Nat) : vw hp (n + 1) .pn = .pn := rfl
theorem vw_z (hp : List Blk) (n : Nat) (e : Nat) : vw hp (n + 1) (.z e) = .sl e [] := rfl
theorem vw_sl (hp : List Blk) (n : Nat) (e : Nat) (r : List (List V)) : vw hp (n + 1) (.sl e r) = .sl e r := rfl
theorem vw_pa (hp : List Blk) (n : Nat) (r : List V) : vw hp (n + 1) (.pa r) = .pa r := rfl
theorem vw_ag (hp : List Blk) (n : Nat) (r : List V) : vw hp (n + 1) (.ag r) = .ag (r.map (vw hp n)) := rfl
theorem vw_tp (hp : List Blk) (n : Nat) (r : List V) : vw hp (n + 1) (.tp r) = .tp (r.map (vw hp n)) := rfl
theorem vw_fn (hp : List Blk) (n f : Nat) (r : List V) : vw hp (n + 1) (.fn f r) = .fn f (r.map (vw hp n)) := rfl
theorem vw_ad (hp : List Blk) (n id g off : Nat) : vw hp (n + 1) (.ad id g off) = match hp[id]? with
      | some (.cells g' vs) => if g' = g then .pa ((vs.drop off).map (vw hp n)) else .u
      | _ => .u := rfl
theorem vw_rf (hp : List Blk) (n id g off len es : Nat) : vw hp (n + 1) (.rf id g off len es) = match hp[id]? with
      | some (.cells g' vs) => if g' = g ∧ off + len * es ≤ vs.length then .sl es ((chunk es vs off len).map fun r => r.map (vw hp n)) else .u
      | _ => .u := rfl
theorem vw8 (hp : List Blk) (v : V) : vw hp 8 v = vw hp (7 + 1) v := rfl
section
variable {Γ : Gam} {E : TypeId → Nat → Prop} {g : Bool} {base : Nat}
theorem run_nil (σ : St) (K : St → Prop) : runR Γ E g base [] σ K = K σ := rfl
theorem run_cons (o : RO) (l : List RO) (σ : St) (K : St → Prop) : runR Γ E g base (o :: l) σ K = ((step Γ E g base o σ).1 ∧ runR Γ E g base l (step Γ E g base o σ).2 K) := rfl
theorem step_q (d : Option Nat) (gd : Option (Nat × Bool)) (ts : List Nat) (nid : Option Nat) (q : Q) (σ : St) :
    step Γ E false base ⟨d, gd, ts, nid, .q q⟩ σ = ((qv Γ E σ.hp q (evO σ.fr)).1, ⟨upd σ.fr d (qv Γ E σ.hp q (evO σ.fr)).2, σ.hp⟩) := rfl
theorem eff_q (d : Option Nat) (gd : Option (Nat × Bool)) (ts : List Nat) (nid : Option Nat) (q : Q) (σ : St) :
    eff Γ E false base ⟨d, gd, ts, nid, .q q⟩ σ = ((qv Γ E σ.hp q (evO σ.fr)).1, (qv Γ E σ.hp q (evO σ.fr)).2, []) := rfl
variable {Q : Exit → St → Prop} {σ : St}
theorem ru_skip : wpR Γ E .skip Q σ = Q .normal σ := rfl
theorem ru_reg (l : List RO) : wpR Γ E (.reg g l) Q σ = runR Γ E g 0 l σ (Q .normal) := rfl
theorem ru_any (m : Nat) (l : List AnyOp) : wpR Γ E (.any g m l) Q σ = runX Γ E g σ.hp.length l [] ⟨σ.fr, σ.hp ++ List.replicate m .hole⟩ (Q .normal) := rfl
theorem ru_seq (a b : RC) : wpR Γ E (.seq a b) Q σ = wpR Γ E a (thenQ (wpR Γ E b Q) Q) σ := rfl
theorem ru_cond (c : Od) (a b : RC) : wpR Γ E (.cond c a b) Q σ = match evO σ.fr c with
    | .b t => (t = true → wpR Γ E a Q σ) ∧ (t = false → wpR Γ E b Q σ)
    | _ => False := rfl
theorem ru_cnd (c : Od) (a b : RC) : wpR Γ E (.cond c a b) Q σ = match evO σ.fr c with
    | .b t => if t = true then wpR Γ E a Q σ else wpR Γ E b Q σ
    | _ => False := by
  rw [ru_cond]
  cases evO σ.fr c <;> try rfl
  rename_i t
  cases t <;> simp
theorem ru_block (id : Nat) (a : RC) : wpR Γ E (.block id a) Q σ = wpR Γ E a (blockQ id Q) σ := rfl
theorem ru_exit (id : Nat) : wpR Γ E (.exit id) Q σ = Q (.exit id) σ := rfl
theorem ru_ret : wpR Γ E .ret Q σ = Q .ret σ := rfl
theorem ru_keep (l : List Nat) (a : RC) : wpR Γ E (.keep l a) Q σ = wpR Γ E a Q ⟨lkp (l.map fun t => (t, σ.fr t)), σ.hp⟩ := rfl
theorem ru_drp (n : Nat) (a : RC) : wpR Γ E (.drp n a) Q σ = wpR Γ E a Q ⟨fun t => cutV σ.hp n (σ.fr t), cutH n σ.hp⟩ := rfl
theorem ru_own (t es : Nat) (a : RC) : wpR Γ E (.own t es a) Q σ = match σ.fr t with
    | .z _ => wpR Γ E a Q ⟨upd σ.fr (some t) (.rf σ.hp.length 0 0 0 es), σ.hp ++ [.cells 0 []]⟩
    | _ => False := rfl
theorem ru_ownc (t off es : Nat) (a : RC) : wpR Γ E (.ownc t off es a) Q σ = match σ.fr t with
    | .ad id g o => match σ.hp[id]? with
      | some (.cells g' vs) => match vs[o + off]? with
        | some (.z _) => g' = g ∧ wpR Γ E a Q ⟨σ.fr, σ.hp.set id (.cells g (vs.set (o + off) (.rf σ.hp.length 0 0 0 es))) ++ [.cells 0 []]⟩
        | _ => False
      | _ => False
    | _ => False := rfl
theorem ru_swp (i j : Nat) (a : RC) : wpR Γ E (.swp i j a) Q σ = (i < σ.hp.length ∧ j < σ.hp.length ∧ wpR Γ E a Q ⟨fun t => renV (sw i j) (σ.fr t), swH i j σ.hp⟩) := rfl
theorem ru_nxt (d m it : Nat) : wpR Γ E (.nxt d m it) Q σ = match σ.fr it with
    | .it id g => match σ.hp[id]? with
      | some (.iter mid n left _) => match σ.hp[mid]? with
        | some (.map _ ks _) => g = 0 ∧ ks.length = n ∧ (left = [] → Q .normal ⟨upd (upd σ.fr (some d) .u) (some m) (.b false), σ.hp⟩) ∧
            ∀ j ∈ left, Q .normal ⟨upd (upd σ.fr (some d) .u) (some m) (.b true), σ.hp.set id (.iter mid n (left.erase j) (some j))⟩
        | _ => False
      | _ => False
    | _ => False := rfl
theorem ru_yrg (l1 : List RO) (y : RO) (ks : List Nat) (l2 : List RO) : wpR Γ E (.yrg g l1 y ks l2) Q σ = runR Γ E g 0 l1 σ fun σ1 => match condB σ1.fr y.gd with
    | none => False
    | some false => runR Γ E g 0 l2 ⟨upd σ1.fr y.dst (.gv false .u), σ1.hp⟩ (Q .normal)
    | some true => match y.x with
      | .o f args => match opv g σ1.fr f, σ1.hp with
        | .yl l, [.gh caps (some (x :: rest))] => needW g y σ1.fr ∧ caps[0]? = some (.yl l) ∧ args.map (opv g σ1.fr) = x ∧ flatL x = true ∧ (∀ t ∈ ks, sfree (σ1.fr t) = true ∨ caps[t]? = some (σ1.fr t)) ∧
            ∀ b, runR Γ E g 0 l2 ⟨upd (lkp (slots ks σ1.fr)) y.dst (yres y.gd b), [.gh caps (if b then some rest else none)]⟩ (Q .normal)
        | _, _ => False
      | _ => False := rfl
theorem ru_crl (l1 : List RO) (y : RO) (l2 : List RO) : wpR Γ E (.crl g l1 y l2) Q σ = runR Γ E g 0 l1 σ fun σ1 => match y.x with
    | .o f args => match opv g σ1.fr f with
      | .fn gf caps => needW g y σ1.fr ∧ gf < 1000000 ∧ hasRefL (args.map (opv g σ1.fr) ++ caps) = false ∧ (Γ (3000000 + gf) ((args.map (opv g σ1.fr) ++ caps).map (vw σ1.hp 8))).1 ∧
          ∀ r bs, (Γ (4000000 + gf) (.tp (r :: bs) :: (args.map (opv g σ1.fr) ++ caps).map (vw σ1.hp 8))).1 →
            runR Γ E g 0 l2 ⟨upd σ1.fr y.dst (shV σ1.hp.length r), σ1.hp ++ (bs.map vB).map (shB σ1.hp.length)⟩ (Q .normal)
      | _ => False
    | _ => False := rfl
theorem cut_lkp (hp : List Blk) (n : Nat) : ∀ L : List (Nat × V), (fun t => cutV hp n (lkp L t)) = lkp (L.map fun p => (p.1, cutV hp n p.2))
  | [] => by funext t; simp [lkp, cutV]
  | (k, v) :: L => by
    funext t
    have := congrFun (cut_lkp hp n L) t
    simp only [lkp, List.map_cons]
    split
    · rfl
    · exact this
theorem ren_lkp (f : Nat → Nat) : ∀ L : List (Nat × V), (fun t => renV f (lkp L t)) = lkp (L.map fun p => (p.1, renV f p.2))
  | [] => by funext t; simp [lkp, renV]
  | (k, v) :: L => by
    funext t
    have := congrFun (ren_lkp f L) t
    simp only [lkp, List.map_cons]
    split
    · rfl
    · exact this

theorem ru_loop {l : List Nat} {d : Option Nat} {a : RC} (I : Nat → St → Prop) (h0 : ∃ k, I k (kp l d σ)) (h : ∀ k σ', I k σ' → wpR Γ E a (thenQ (fun σ'' => ∃ j, j < k ∧ I j (kp l d σ'')) Q) σ') :
    wpR Γ E (.loop l d a) Q σ := ⟨I, h0, h⟩

theorem runR_mono {K K' : St → Prop} (hK : ∀ σ, K σ → K' σ) : ∀ (l : List RO) (σ : St), runR Γ E g base l σ K → runR Γ E g base l σ K'
  | [], σ, h => hK σ h
  | _ :: l, _, h => ⟨h.1, runR_mono hK l _ h.2⟩
theorem runX_mono {K K' : St → Prop} (hK : ∀ σ, K σ → K' σ) : ∀ (l : List AnyOp) (ds : List FP) (σ : St), runX Γ E g base l ds σ K → runX Γ E g base l ds σ K'
  | [], _, σ, h => hK σ h
  | _ :: l, _, _, h => ⟨h.1, h.2.1, runX_mono hK l _ _ h.2.2⟩
theorem wpR_mono : ∀ (r : RC) (Q Q' : Exit → St → Prop) (σ : St), (∀ e σ, Q e σ → Q' e σ) → wpR Γ E r Q σ → wpR Γ E r Q' σ := by
  intro r
  induction r with
  | skip => intro Q Q' σ h hw; exact h _ _ hw
  | reg g l => intro Q Q' σ h hw; exact runR_mono (h _) l σ hw
  | any g m l => intro Q Q' σ h hw; exact runX_mono (h _) l [] _ hw
  | seq a b iha ihb =>
    intro Q Q' σ h hw
    refine iha _ _ σ (fun e σ' he => ?_) hw
    cases e <;> first | exact h _ _ he | exact ihb _ _ _ h he
  | mid a b iha ihb =>
    intro Q Q' σ h hw
    obtain ⟨M, h1, h2⟩ := hw
    refine ⟨M, iha _ _ σ (fun e σ' he => ?_) h1, fun σ' hM => ihb _ _ _ h (h2 σ' hM)⟩
    cases e <;> first | exact h _ _ he | exact he
  | cond c a b iha ihb =>
    intro Q Q' σ h hw
    simp only [wpR] at hw ⊢
    cases hc : evO σ.fr c <;> simp only [hc] at hw ⊢ <;> try exact hw
    exact ⟨fun ht => iha _ _ _ h (hw.1 ht), fun ht => ihb _ _ _ h (hw.2 ht)⟩
  | block id a iha =>
    intro Q Q' σ h hw
    refine iha _ _ σ (fun e σ' he => ?_) hw
    cases e <;> first | exact h _ _ he | skip
    simp only [blockQ] at he ⊢
    split
    · rename_i hi; rw [if_pos hi] at he; exact h _ _ he
    · rename_i hi; rw [if_neg hi] at he; exact h _ _ he
  | loop l d a iha =>
    intro Q Q' σ h hw
    obtain ⟨I, h0, h1⟩ := hw
    refine ⟨I, h0, fun k σ' hI => iha _ _ σ' (fun e σ'' he => ?_) (h1 k σ' hI)⟩
    cases e <;> first | exact h _ _ he | exact he
  | exit id => intro Q Q' σ h hw; exact h _ _ hw
  | ret => intro Q Q' σ h hw; exact h _ _ hw
  | keep l a iha => intro Q Q' σ h hw; exact iha _ _ _ h hw
  | drp n a iha => intro Q Q' σ h hw; exact iha _ _ _ h hw
  | own t es a iha =>
    intro Q Q' σ h hw
    simp only [wpR] at hw ⊢
    cases ht : σ.fr t <;> simp only [ht] at hw ⊢ <;> try exact hw
    exact iha _ _ _ h hw
  | ownc t off es a iha =>
    intro Q Q' σ h hw
    simp only [wpR] at hw ⊢
    cases ht : σ.fr t <;> simp only [ht] at hw ⊢ <;> try exact hw
    case ad id g o =>
      cases hid : σ.hp[id]? with
      | none => simp [hid] at hw
      | some bk =>
        cases bk <;> simp only [hid] at hw ⊢ <;> try exact hw
        case cells g' vs =>
          cases hv : vs[o + off]? with
          | none => simp [hv] at hw
          | some v => cases v <;> simp only [hv] at hw ⊢ <;> first | exact hw | exact ⟨hw.1, iha _ _ _ h hw.2⟩
  | swp i j a iha => intro Q Q' σ h hw; exact ⟨hw.1, hw.2.1, iha _ _ _ h hw.2.2⟩
  | nxt d m it =>
    intro Q Q' σ h hw
    simp only [wpR] at hw ⊢
    cases ht : σ.fr it <;> simp only [ht] at hw ⊢ <;> try exact hw
    case it id g =>
      cases hid : σ.hp[id]? with
      | none => simp [hid] at hw
      | some bk =>
        cases bk <;> simp only [hid] at hw ⊢ <;> try exact hw
        case iter mid n left cur =>
          cases hm : σ.hp[mid]? with
          | none => simp [hm] at hw
          | some bk2 =>
            cases bk2 <;> simp only [hm] at hw ⊢ <;> try exact hw
            case map st ks vs => exact ⟨hw.1, hw.2.1, fun hl => h _ _ (hw.2.2.1 hl), fun j hj => h _ _ (hw.2.2.2 j hj)⟩
  | rfn f ps lo b a ihb iha =>
    intro Q Q' σ h hw
    simp only [wpR] at hw ⊢
    split at hw
    · rename_i gf caps hf
      split at hw
      · rename_i ok ys hΓ
        obtain ⟨h1, h2, h3, h4, I, h5, h6, h7⟩ := hw
        refine ⟨h1, h2, h3, h4, I, h5, fun k x hp hx hI => ihb _ _ _ (fun e σ' he => ?_) (h6 k x hp hx hI), fun hp hI => h _ _ (h7 hp hI)⟩
        cases e <;> first | exact he | skip
        refine iha _ _ _ (fun e σ'' he' => ?_) he
        cases e <;> first | exact he' | exact h _ _ he'
      · exact hw
    · exact hw
  | yrg g l1 y ks l2 =>
    intro Q Q' σ h hw
    refine runR_mono (fun σ1 hw => ?_) l1 σ hw
    split at hw
    · exact hw.elim
    · exact runR_mono (h _) l2 _ hw
    · split at hw
      · split at hw
        · exact ⟨hw.1, hw.2.1, hw.2.2.1, hw.2.2.2.1, hw.2.2.2.2.1, fun b => runR_mono (h _) l2 _ (hw.2.2.2.2.2 b)⟩
        · exact hw.elim
      · exact hw.elim
  | crl g l1 y l2 =>
    intro Q Q' σ h hw
    refine runR_mono (fun σ1 hw => ?_) l1 σ hw
    split at hw
    · split at hw
      · exact ⟨hw.1, hw.2.1, hw.2.2.1, hw.2.2.2.1, fun r bs hR => runR_mono (h _) l2 _ (hw.2.2.2.2 r bs hR)⟩
      · exact hw.elim
    · exact hw.elim

/-- the entries that are still to come -/
def leftN (n : Nat) (pre : List Nat) : List Nat := (List.range n).filter fun k => !pre.contains k
theorem leftN_nil (n : Nat) : leftN n [] = List.range n := by simp [leftN]
theorem mem_leftN {n : Nat} {pre : List Nat} {j : Nat} : j ∈ leftN n pre ↔ j < n ∧ j ∉ pre := by simp [leftN]
theorem leftN_erase {n : Nat} {pre : List Nat} {j : Nat} (h : j ∈ leftN n pre) : (leftN n pre).erase j = leftN n (pre ++ [j]) := by
  unfold leftN
  rw [List.Nodup.erase_eq_filter (List.Nodup.sublist List.filter_sublist List.nodup_range), List.filter_filter]
  apply List.filter_congr
  intro x _
  simp only [List.contains_append, Bool.not_or]
  rw [Bool.and_comm]
  congr 1
  simp
  rw [Bool.eq_iff_iff]
  simp
theorem perm_leftN {n : Nat} {pre : List Nat} (hnd : pre.Nodup) (hlt : ∀ j ∈ pre, j < n) (h : leftN n pre = []) : pre.Perm (List.range n) := by
  rw [List.perm_ext_iff_of_nodup hnd List.nodup_range]
  intro j
  constructor
  · intro hj; simpa using hlt j hj
  · intro hj
    by_cases hp : j ∈ pre
    · exact hp
    · have : j ∈ leftN n pre := mem_leftN.2 ⟨by simpa using hj, hp⟩
      rw [h] at this; cases this
theorem nodup_len {n : Nat} {pre : List Nat} (hnd : pre.Nodup) (hlt : ∀ j ∈ pre, j < n) : pre.length ≤ n := by
  induction n generalizing pre with
  | zero => cases pre with | nil => simp | cons j l => have := hlt j (by simp); omega
  | succ n ih =>
    by_cases hn : n ∈ pre
    · have h1 := List.length_erase_of_mem hn
      have h2 := ih (pre := pre.erase n) (hnd.erase n) fun j hj => by
        rw [hnd.mem_erase_iff] at hj
        have := hlt j hj.2
        have := hj.1
        omega
      have := List.length_pos_of_mem hn
      omega
    · have h2 := ih (pre := pre) hnd fun j hj => by
        have := hlt j hj
        have : j ≠ n := by rintro rfl; exact hn hj
        omega
      omega

/-- a range over a map: S pre is the state at the head when the entries pre have come, in this order -/
theorem ru_range {l : List Nat} {d : Option Nat} {a : RC} (n : Nat) (S : List Nat → St) (C : List Nat → Prop) (h0 : kp l d σ = S []) (c0 : C [])
    (hs : ∀ pre, pre.Nodup → (∀ j ∈ pre, j < n) → C pre → wpR Γ E a (thenQ (fun σ'' => ∃ j, j ∈ leftN n pre ∧ C (pre ++ [j]) ∧ kp l d σ'' = S (pre ++ [j])) Q) (S pre)) : wpR Γ E (.loop l d a) Q σ := by
  refine ru_loop (fun k σ => ∃ pre : List Nat, pre.Nodup ∧ (∀ j ∈ pre, j < n) ∧ k = n - pre.length ∧ C pre ∧ σ = S pre) ⟨n, [], List.nodup_nil, (by simp), by simp, c0, h0⟩ ?_
  rintro k _ ⟨pre, hnd, hlt, rfl, hc, rfl⟩
  refine wpR_mono _ _ _ _ (fun e σ he => ?_) (hs pre hnd hlt hc)
  cases e <;> first | exact he | skip
  obtain ⟨j, hj, hc', hk⟩ := he
  obtain ⟨hjn, hjp⟩ := mem_leftN.1 hj
  have hnd' : (pre ++ [j]).Nodup := by
    rw [List.nodup_append]
    exact ⟨hnd, by simp, fun a ha b hb => by simp at hb; subst hb; rintro rfl; exact hjp ha⟩
  have hlt' : ∀ i ∈ pre ++ [j], i < n := by
    intro i hi
    rcases List.mem_append.1 hi with hi | hi
    · exact hlt i hi
    · simp at hi; omega
  have := nodup_len hnd' hlt'
  rw [List.length_append, List.length_singleton] at this
  exact ⟨n - (pre ++ [j]).length, by simp; omega, pre ++ [j], hnd', hlt', rfl, hc', hk⟩

/-- a range over a function: I k says what the blocks are when k values have come -/
theorem ru_rfn {f : Od} {ps : List Nat} {lo : Nat} {b a : RC} {gf : Nat} {caps : List V} {ok : Prop} {ys : List (List V)} (hf : evO σ.fr f = .fn gf caps) (hΓ : Γ (2000000 + gf) (caps.map (vw σ.hp 8)) = (ok, .sl 0 ys)) (h6 : gf < 1000000) (hok : ok)
    (href : hasRefL caps = false) (hlen : ∀ x ∈ ys, x.length = ps.length) (I : Nat → List Blk → Prop) (h0 : I 0 (cutH lo σ.hp))
    (hs : ∀ k x hp, ys[k]? = some x → I k hp → wpR Γ E b (rnQ (wpR Γ E a (rndQ Q lo (fun t => cutV σ.hp lo (σ.fr t)) (I (k + 1))))) ⟨updL (fun t => cutV σ.hp lo (σ.fr t)) ps x, hp⟩)
    (he : ∀ hp, I ys.length hp → Q .normal ⟨fun t => cutV σ.hp lo (σ.fr t), hp⟩) : wpR Γ E (.rfn f ps lo b a) Q σ := by
  simp only [wpR, hf, hΓ]
  exact ⟨h6, hok, href, hlen, I, h0, hs, he⟩
/-- likewise, the blocks known -/
theorem ru_rfnC {f : Od} {ps : List Nat} {lo : Nat} {b a : RC} {gf : Nat} {caps : List V} {ok : Prop} {ys : List (List V)} (H : Nat → List Blk) (C : Nat → Prop) (hf : evO σ.fr f = .fn gf caps) (hΓ : Γ (2000000 + gf) (caps.map (vw σ.hp 8)) = (ok, .sl 0 ys)) (h6 : gf < 1000000) (hok : ok)
    (href : hasRefL caps = false) (hlen : ∀ x ∈ ys, x.length = ps.length) (h0 : cutH lo σ.hp = H 0) (c0 : C 0)
    (hs : ∀ k x, ys[k]? = some x → C k → wpR Γ E b (rnQ (wpR Γ E a (rndQ Q lo (fun t => cutV σ.hp lo (σ.fr t)) (fun hp => C (k + 1) ∧ hp = H (k + 1))))) ⟨updL (fun t => cutV σ.hp lo (σ.fr t)) ps x, H k⟩)
    (he : C ys.length → Q .normal ⟨fun t => cutV σ.hp lo (σ.fr t), H ys.length⟩) : wpR Γ E (.rfn f ps lo b a) Q σ := by
  refine ru_rfn hf hΓ h6 hok href hlen (fun k hp => C k ∧ hp = H k) ⟨c0, h0⟩ ?_ ?_
  · rintro k x hp hx ⟨hc, rfl⟩
    exact hs k x hx hc
  · rintro hp ⟨hc, rfl⟩
    exact he hc

/-- a loop that counts: S i is the state at the head of round i; the test of round n leaves -/
theorem ru_count {l : List Nat} {d : Option Nat} {a : RC} (n : Nat) (S : Nat → St) (h0 : kp l d σ = S 0) (hs : ∀ i, i < n → wpR Γ E a (thenQ (fun σ'' => kp l d σ'' = S (i + 1)) Q) (S i))
    (he : wpR Γ E a (thenQ (fun _ => False) Q) (S n)) : wpR Γ E (.loop l d a) Q σ := by
  refine ru_loop (fun k σ => ∃ i, i ≤ n ∧ k = n - i ∧ σ = S i) ⟨n, 0, Nat.zero_le _, rfl, h0⟩ ?_
  rintro k _ ⟨i, hi, rfl, rfl⟩
  by_cases h : i < n
  · refine wpR_mono _ _ _ _ (fun e σ he => ?_) (hs i h)
    cases e <;> first | exact he | skip
    exact ⟨n - (i + 1), by omega, i + 1, h, rfl, he⟩
  · have : i = n := by omega
    subst this
    refine wpR_mono _ _ _ _ (fun e σ he => ?_) he
    cases e <;> first | exact he | exact he.elim
theorem ru_countC {l : List Nat} {d : Option Nat} {a : RC} (n : Nat) (S : Nat → St) (C : Nat → Prop) (h0 : kp l d σ = S 0) (c0 : C 0) (hs : ∀ i, i < n → C i → wpR Γ E a (thenQ (fun σ'' => C (i + 1) ∧ kp l d σ'' = S (i + 1)) Q) (S i))
    (he : C n → wpR Γ E a (thenQ (fun _ => False) Q) (S n)) : wpR Γ E (.loop l d a) Q σ := by
  refine ru_loop (fun k σ => ∃ i, i ≤ n ∧ k = n - i ∧ C i ∧ σ = S i) ⟨n, 0, Nat.zero_le _, rfl, c0, h0⟩ ?_
  rintro k _ ⟨i, hi, rfl, hc, rfl⟩
  by_cases h : i < n
  · refine wpR_mono _ _ _ _ (fun e σ he => ?_) (hs i h hc)
    cases e <;> first | exact he | skip
    exact ⟨n - (i + 1), by omega, i + 1, h, rfl, he.1, he.2⟩
  · have : i = n := by omega
    subst this
    refine wpR_mono _ _ _ _ (fun e σ he => ?_) (he hc)
    cases e <;> first | exact he | exact he.elim
end
theorem chunk1 (es : Nat) (vs : List V) : chunk es vs 0 1 = [vs.take es] := by simp [chunk]
theorem ite_P (p A B : Prop) [Decidable p] : (if p then A else B) = ((p → A) ∧ (¬ p → B)) := by by_cases h : p <;> simp [h]
theorem ite_f (p : Prop) [Decidable p] (x : Bool) : (if p then x else false) = (decide p && x) := by by_cases h : p <;> simp [h]
theorem ite_t (p : Prop) [Decidable p] (x : Bool) : (if p then true else x) = (decide p || x) := by by_cases h : p <;> simp [h]
theorem all_take_succ {α : Type} {p : α → Bool} {l : List α} {i : Nat} {x : α} (h : l[i]? = some x) : (l.take (i + 1)).all p = ((l.take i).all p && p x) := by
  rw [List.take_add_one, h]; simp
theorem all_of_mem {α : Type} {p : α → Bool} {l : List α} {i : Nat} {x : α} (h : l[i]? = some x) (hx : p x = false) : l.all p = false := by
  rw [List.all_eq_false]; exact ⟨x, List.mem_of_getElem? h, by simp [hx]⟩
end Go.Fam
/- Chapter 02: the data, and how it lies in cells. -/
namespace Go.C02
open Go.Fam
structure Span where
  low : Int
  high : Int
  deriving DecidableEq
structure Strip where
  long : Int
  pulled : Span
  deriving DecidableEq
structure Bolt where
  stretch : Span
  strips : List Strip
  wrong : Int
  deriving DecidableEq
structure Dome where
  bolts : List Bolt
  gores : List Int
  loss : Int
  rounds : List Span
  widths : List Int
  slope : Int
  deriving DecidableEq
structure Tent where
  dome : Dome
  can : List (List Int)

def eI (n : Int) : List V := [.i n]
def eIs (l : List Int) : V := .sl 1 (l.map eI)
def eSpan (s : Span) : List V := [.i s.low, .i s.high]
def eStrip (s : Strip) : List V := [.i s.long, .i s.pulled.low, .i s.pulled.high]
def eBolt (b : Bolt) : List V := [.i b.stretch.low, .i b.stretch.high, .sl 3 (b.strips.map eStrip), .i b.wrong]
def eDome (d : Dome) : List V := [.sl 4 (d.bolts.map eBolt), .sl 1 (d.gores.map eI), .i d.loss, .sl 2 (d.rounds.map eSpan), .sl 1 (d.widths.map eI), .i d.slope]
def eCan (l : List Int) : List V := [.sl 1 (l.map eI)]
def eTent (t : Tent) : List V := eDome t.dome ++ [.sl 1 (t.can.map eCan)]

def gI : V → Int | .i n => n | _ => 0
def gR : V → List (List V) | .sl _ r => r | _ => []
def dI (r : List V) : Int := gI (r.headD .u)
def dSpan : List V → Span | [a, b] => ⟨gI a, gI b⟩ | _ => ⟨0, 0⟩
def dStrip : List V → Strip | [a, b, c] => ⟨gI a, ⟨gI b, gI c⟩⟩ | _ => ⟨0, ⟨0, 0⟩⟩
def dBolt : List V → Bolt | [a, b, c, d] => ⟨⟨gI a, gI b⟩, (gR c).map dStrip, gI d⟩ | _ => ⟨⟨0, 0⟩, [], 0⟩
def dDome : List V → Dome | [a, b, c, d, e, f] => ⟨(gR a).map dBolt, (gR b).map dI, gI c, (gR d).map dSpan, (gR e).map dI, gI f⟩ | _ => ⟨[], [], 0, [], [], 0⟩
def dCan (r : List V) : List Int := (gR (r.headD .u)).map dI
def dTent : List V → Tent | [a, b, c, d, e, f, g] => ⟨dDome [a, b, c, d, e, f], (gR g).map dCan⟩ | _ => ⟨dDome [], []⟩

theorem map_de {α : Type} {e : α → List V} {d : List V → α} (h : ∀ x, d (e x) = x) (l : List α) : (l.map e).map d = l := by
  rw [List.map_map]; conv => rhs; rw [← List.map_id l]
  exact List.map_congr_left fun x _ => h x
theorem dI_eI (n : Int) : dI (eI n) = n := rfl
theorem dSpan_e (s : Span) : dSpan (eSpan s) = s := rfl
theorem dStrip_e (s : Strip) : dStrip (eStrip s) = s := rfl
theorem dBolt_e (b : Bolt) : dBolt (eBolt b) = b := by simp [dBolt, eBolt, gI, gR, Function.comp_def, dStrip_e]
theorem dDome_e (d : Dome) : dDome (eDome d) = d := by simp [dDome, eDome, gI, gR, Function.comp_def, dBolt_e, dI_eI, dSpan_e]
theorem dCan_e (l : List Int) : dCan (eCan l) = l := by simp [dCan, eCan, gR, Function.comp_def, dI_eI]
theorem dTent_e (t : Tent) : dTent (eTent t) = t := by
  have := dDome_e t.dome
  unfold eDome at this
  simp [dTent, eTent, eDome, this, gR, Function.comp_def, dCan_e]

theorem spanE (s : Span) : (⟨s.low, s.high⟩ : Span) = s := rfl
theorem stripE (s : Strip) : (⟨s.long, s.pulled⟩ : Strip) = s := rfl
theorem boltE (s : Bolt) : (⟨s.stretch, s.strips, s.wrong⟩ : Bolt) = s := rfl
theorem domeE (s : Dome) : (⟨s.bolts, s.gores, s.loss, s.rounds, s.widths, s.slope⟩ : Dome) = s := rfl

theorem tentE (s : Tent) : (⟨s.dome, s.can⟩ : Tent) = s := rfl

/-- a typed function -/
def fnG {A B : Type} (e : A → List V) (d : List V → A) (ok : A → Prop) (g : A → B) (eb : B → V) : List V → Prop × V := fun vs => (e (d vs) = vs ∧ ok (d vs), eb (g (d vs)))
theorem fnG_ok {P : Program} {A B : Type} {e : A → List V} {d : List V → A} {ok : A → Prop} {g : A → B} {eb : B → V} {f : Nat} (h : ∀ a, ok a → PureCall P f (e a) (eb (g a))) (vs : List V) (hv : (fnG e d ok g eb vs).1) :
    PureCall P f vs (fnG e d ok g eb vs).2 := by
  have := h (d vs) hv.2
  rw [hv.1] at this
  exact this
theorem fnG_at {A B : Type} {e : A → List V} {d : List V → A} {ok : A → Prop} {g : A → B} {eb : B → V} (a : A) (h : d (e a) = a) : fnG e d ok g eb (e a) = (ok a, eb (g a)) := by
  simp [fnG, h]
end Go.C02
