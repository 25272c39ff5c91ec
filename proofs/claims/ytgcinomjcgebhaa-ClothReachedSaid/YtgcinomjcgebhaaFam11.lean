import Derived.Test.YtgcinomjcgebhaaFam10
set_option linter.all false
namespace Go.Fam
section
variable {Γ : Gam} {E : TypeId → Nat → Prop} {g : Bool} {base : Nat}

theorem eff_step {o : RO} {σ : St} (h : (eff Γ E g base o σ).1) : (step Γ E g base o σ).1 ∧ (step Γ E g base o σ).2 = nextD Γ E g base o σ := by
  unfold eff at h
  unfold step nextD eff
  cases hx : o.x with
  | q q => simp only [hx] at h ⊢; exact ⟨h, rfl⟩
  | w q =>
    simp only [hx] at h ⊢
    unfold stepW
    cases hnv : nv σ.hp q (opv g σ.fr) with
    | some t =>
      obtain ⟨ok, b, mk⟩ := t
      simp only [hnv] at h ⊢
      cases hn : o.nid with
      | none => simp [hn] at h
      | some k => simp only [hn] at h ⊢; exact ⟨h, rfl⟩
    | none =>
      simp only [hnv] at h ⊢
      exact ⟨h, trivial⟩
  | o f xs => simp only [hx] at h

theorem sv_wr {hp : List Blk} {q : W} {fr : Nat → V} {id : Nat} {b : Blk} {o : RO} (hx : o.x = .w q) {σ : St} (hσ : σ.fr = fr) (h : (sv E hp q (opv g fr)).2.2 = some (id, b)) : id ∈ (fpR g base o σ).wr := by
  unfold fpR
  subst hσ
  simp only [hx]
  cases q <;> simp only [sv] at h ⊢ <;> try (cases h; done)
  case app es x y =>
    split at h
    · rename_i id' g1 off len es' vs n hxx hnews
      simp only [hxx]
      split at h
      · simp only [Option.some.injEq, Prod.mk.injEq] at h; simp [h.1]
      · cases h
    · cases h
  all_goals
    split at h
    · rename_i hxx
      try simp only [hxx]
      split at h
      · simp only [Option.some.injEq, Prod.mk.injEq] at h; simp_all [fpV]
      · cases h
    · cases h

/-- what an operation writes lies in its footprint -/
theorem eff_wr {o : RO} {σ : St} {id : Nat} {b : Blk} (h : (eff Γ E g base o σ).2.2 = some (id, b)) : id ∈ (fpR g base o σ).wr := by
  unfold eff at h
  cases hx : o.x with
  | q q => simp [hx] at h
  | o f xs => simp [hx] at h
  | w q =>
    simp only [hx] at h
    cases hnv : nv σ.hp q (opv g σ.fr) with
    | some t =>
      obtain ⟨ok, vs, mk⟩ := t
      simp only [hnv] at h
      cases hn : o.nid with
      | none => simp [hn] at h
      | some k =>
        simp only [hn, Option.some.injEq, Prod.mk.injEq] at h
        obtain ⟨rfl, _⟩ := h
        unfold fpR
        simp only [hx]
        cases q <;> simp only [nv] at hnv <;> try (simp [hn]; done)
        case st => cases hnv
        case mup => cases hnv
        case men => cases hnv
        case mes => cases hnv
        case app es x y =>
          cases hxx : opv g σ.fr x <;> simp only [hxx] at hnv ⊢ <;> first | (simp [hn]; done) | (cases hnv)
    | none =>
      simp only [hnv] at h
      exact sv_wr hx rfl h

theorem eff_gh {o : RO} {σ : St} {y : List V × Option (List (List V))} (hok : (eff Γ E g base o σ).1) (h : ghO σ.hp = some y) : ghO (nextD Γ E g base o σ).hp = some y := by
  obtain ⟨h1, h2⟩ := eff_step hok
  rw [← h2]
  exact step_gh h1 h

theorem upd_ne {fr : Nat → V} {d : Option Nat} {v : V} {t : Nat} (h : d ≠ some t) : upd fr d v t = fr t := by
  cases d with
  | none => rfl
  | some d => simp only [upd]; rw [if_neg]; rintro rfl; exact h rfl

theorem upd_comm {fr : Nat → V} {d e : Option Nat} {v v' : V} (h : ∀ x, d = some x → e ≠ some x) : upd (upd fr d v) e v' = upd (upd fr e v') d v := by
  funext t
  cases d with
  | none => rfl
  | some d =>
    cases e with
    | none => rfl
    | some e =>
      simp only [upd]
      have := h d rfl
      by_cases h1 : t = e
      · subst h1
        rw [if_pos rfl, if_neg (by rintro rfl; exact this rfl), if_pos rfl]
      · rw [if_neg h1]
        by_cases h2 : t = d
        · simp [h2]
        · simp [h1, h2]

theorem putB_ne {hp : List Blk} {x : Option (Nat × Blk)} {i : Nat} (h : ∀ id b, x = some (id, b) → id ≠ i) : (putB hp x)[i]? = hp[i]? := by
  cases x with
  | none => rfl
  | some ib => obtain ⟨id, b⟩ := ib; exact List.getElem?_set_ne (h id b rfl)

theorem putB_comm {hp : List Blk} {x y : Option (Nat × Blk)} (h : ∀ id b id' b', x = some (id, b) → y = some (id', b') → id ≠ id') : putB (putB hp x) y = putB (putB hp y) x := by
  cases x with
  | none => rfl
  | some ib =>
    cases y with
    | none => rfl
    | some jb =>
      obtain ⟨id, b⟩ := ib
      obtain ⟨id', b'⟩ := jb
      exact List.set_comm _ _ (h id b id' b' rfl rfl)

theorem apartB_spec {a b : RO} (h : apartB a b = true) : (∀ d, a.dst = some d → d ∉ b.reads ∧ b.dst ≠ some d) ∧ (∀ d, b.dst = some d → d ∉ a.reads) := by
  simp only [apartB, Bool.and_eq_true] at h
  refine ⟨fun d hd => ?_, fun d hd => ?_⟩
  · have := h.1; rw [hd] at this; simpa using this
  · have := h.2; rw [hd] at this; simpa using this

theorem agree_of_disj {fa fb : FP} {hp : List Blk} {x : Option (Nat × Blk)} (hw : ∀ id b, x = some (id, b) → id ∈ fa.wr) (h : hits fa.wr fb = false) : AgreeOn fb hp (putB hp x) := by
  cases x with
  | none => exact ⟨fun _ => rfl, fun _ _ _ _ => rfl, fun _ _ => rfl⟩
  | some ib =>
    obtain ⟨id, b⟩ := ib
    have hid := hw id b rfl
    have hne : fa.wr.isEmpty = false := by cases hf : fa.wr with | nil => rw [hf] at hid; cases hid | cons _ _ => rfl
    simp only [hits, hne, Bool.not_false, Bool.true_and] at h
    cases hr : fb.rd with
    | none => simp [hr] at h
    | some r =>
      simp only [hr] at h
      have hno : r.contains id = false ∧ fb.wr.contains id = false := by
        have := List.any_eq_false.1 h id hid
        simpa using this
      refine ⟨fun h' => (by rw [hr] at h'; cases h'), fun r' hr' i hi => ?_, fun i hi => ?_⟩
      · have hrr : r = r' := by rw [hr] at hr'; exact Option.some.inj hr'
        subst hrr
        refine (putB_ne ?_).symm
        rintro id' b' h' rfl
        cases h'
        have := hno.1
        simp at this
        exact this hi
      · refine (putB_ne ?_).symm
        rintro id' b' h' rfl
        cases h'
        have := hno.2
        simp at this
        exact this hi

/-- TWO INDEPENDENT OPERATIONS CHANGE PLACES -/
theorem swap {a b : RO} {σ : St} (hap : apartB a b = true) (ha : (eff Γ E g base a σ).1) (hb : (eff Γ E g base b (nextD Γ E g base a σ)).1)
    (hd : disjB (fpR g base a σ) (fpR g base b (nextD Γ E g base a σ)) = true) :
    (eff Γ E g base b σ).1 ∧ fpR g base b σ = fpR g base b (nextD Γ E g base a σ) ∧ (eff Γ E g base a (nextD Γ E g base b σ)).1 ∧
      fpR g base a (nextD Γ E g base b σ) = fpR g base a σ ∧ nextD Γ E g base a (nextD Γ E g base b σ) = nextD Γ E g base b (nextD Γ E g base a σ) := by
  obtain ⟨h1, h2⟩ := apartB_spec hap
  simp only [disjB, Bool.and_eq_true, Bool.not_eq_true'] at hd
  have r1 : ∀ n ∈ b.reads, (nextD Γ E g base a σ).fr n = σ.fr n := fun n hn => by
    simp only [nextD]
    exact upd_ne fun h => (h1 n h).1 hn
  have e1 := eff_local (Γ := Γ) (E := E) (g := g) (base := base) (o := b) (σ := nextD Γ E g base a σ) (σ' := σ) r1 (by
    have := agree_of_disj (fa := fpR g base a σ) (fb := fpR g base b (nextD Γ E g base a σ)) (hp := σ.hp) (x := (eff Γ E g base a σ).2.2) (fun id b h => eff_wr h) hd.1
    simp only [nextD] at this ⊢
    exact ⟨fun h => (this.1 h).symm, fun r hr i hi => (this.2.1 r hr i hi).symm, fun i hi => (this.2.2 i hi).symm⟩)
  have r2 : ∀ n ∈ a.reads, σ.fr n = (nextD Γ E g base b σ).fr n := fun n hn => by
    simp only [nextD]
    exact (upd_ne fun h => h2 n h hn).symm
  have e2 := eff_local (Γ := Γ) (E := E) (g := g) (base := base) (o := a) (σ := σ) (σ' := nextD Γ E g base b σ) r2 (by
    have hw : ∀ id b', (eff Γ E g base b σ).2.2 = some (id, b') → id ∈ (fpR g base b (nextD Γ E g base a σ)).wr := fun id b' h => by rw [e1.2]; exact eff_wr h
    have := agree_of_disj (fa := fpR g base b (nextD Γ E g base a σ)) (fb := fpR g base a σ) (hp := σ.hp) (x := (eff Γ E g base b σ).2.2) hw hd.2
    simpa only [nextD] using this)
  refine ⟨by rw [← e1.1]; exact hb, e1.2.symm, by rw [← e2.1]; exact ha, e2.2.symm, ?_⟩
  have hx : nextD Γ E g base a (nextD Γ E g base b σ) = ⟨upd (upd σ.fr b.dst (eff Γ E g base b σ).2.1) a.dst (eff Γ E g base a σ).2.1, putB (putB σ.hp (eff Γ E g base b σ).2.2) (eff Γ E g base a σ).2.2⟩ := by
    show (⟨upd (nextD Γ E g base b σ).fr a.dst (eff Γ E g base a (nextD Γ E g base b σ)).2.1, putB (nextD Γ E g base b σ).hp (eff Γ E g base a (nextD Γ E g base b σ)).2.2⟩ : St) = _
    rw [← e2.1]
    rfl
  have hy : nextD Γ E g base b (nextD Γ E g base a σ) = ⟨upd (upd σ.fr a.dst (eff Γ E g base a σ).2.1) b.dst (eff Γ E g base b σ).2.1, putB (putB σ.hp (eff Γ E g base a σ).2.2) (eff Γ E g base b σ).2.2⟩ := by
    show (⟨upd (nextD Γ E g base a σ).fr b.dst (eff Γ E g base b (nextD Γ E g base a σ)).2.1, putB (nextD Γ E g base a σ).hp (eff Γ E g base b (nextD Γ E g base a σ)).2.2⟩ : St) = _
    rw [e1.1]
    rfl
  rw [hx, hy]
  congr 1
  · exact (upd_comm fun x hx' => (h1 x hx').2).symm
  · refine putB_comm fun id bb id' bb' hx' hy' => ?_
    have w1 := eff_wr hx'
    have w2 := eff_wr hy'
    rw [← e1.2] at w1
    have hne : (fpR g base a σ).wr.isEmpty = false := by cases hf : (fpR g base a σ).wr with | nil => rw [hf] at w2; cases w2 | cons _ _ => rfl
    have := hd.1
    simp only [hits, hne, Bool.not_false, Bool.true_and] at this
    cases hr : (fpR g base b (nextD Γ E g base a σ)).rd with
    | none => simp [hr] at this
    | some r =>
      simp only [hr] at this
      have h3 := List.any_eq_false.1 this id' w2
      simp at h3
      rintro rfl
      exact h3.2 w1

/-- a run in a fixed order, with the footprints met -/
def RunD (Γ : Gam) (E : TypeId → Nat → Prop) (g : Bool) (base : Nat) : List (Nat × RO × FP) → St → St → Prop
  | [], σ, τ => σ = τ
  | (_, o, f) :: l, σ, τ => (eff Γ E g base o σ).1 ∧ fpR g base o σ = f ∧ RunD Γ E g base l (nextD Γ E g base o σ) τ

def Indep (x y : Nat × RO × FP) : Prop := apartB x.2.1 y.2.1 = true ∧ disjB x.2.2 y.2.2 = true

theorem RunD.move {x : Nat × RO × FP} {B : List (Nat × RO × FP)} {τ : St} : ∀ (A : List (Nat × RO × FP)) (σ : St), RunD Γ E g base (A ++ x :: B) σ τ → (∀ a ∈ A, Indep a x) → RunD Γ E g base (x :: (A ++ B)) σ τ
  | [], σ, h, _ => h
  | (k, a, f) :: A, σ, h, hi => by
    obtain ⟨j, o, f'⟩ := x
    simp only [List.cons_append, RunD] at h
    obtain ⟨h1, h2, h3⟩ := h
    have ih := RunD.move A _ h3 fun a ha => hi a (by simp [ha])
    simp only [RunD] at ih ⊢
    obtain ⟨i1, i2, i3⟩ := ih
    have hia := hi (k, a, f) (by simp)
    obtain ⟨s1, s2, s3, s4, s5⟩ := swap (Γ := Γ) (E := E) (g := g) (base := base) hia.1 h1 i1 (by rw [h2, i2]; exact hia.2)
    refine ⟨s1, s2.trans i2, ?_⟩
    simp only [List.cons_append, RunD]
    exact ⟨s3, s4.trans h2, by rw [s5]; exact i3⟩
end
end Go.Fam
