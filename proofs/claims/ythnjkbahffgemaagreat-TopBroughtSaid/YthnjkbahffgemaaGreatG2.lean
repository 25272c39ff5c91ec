import Derived.Test.YthnjkbahffgemaaGreatG1
set_option linter.all false
namespace Go.Fam
section
variable {Γ : Gam} {E : TypeId → Nat → Prop} {g : Bool} {base : Nat}
mutual
theorem shV_noref (n : Nat) : ∀ v : V, hasRef v = false → shV n v = v
 | .u, _ | .b _, _ | .i _, _ | .z _, _ | .sl _ _, _ | .sx _ _, _ | .pa _, _ | .pn, _ | .yl _, _ | .w _ _, _ | .pm _ _ _, _ | .fb _ _, _ => by simp [shV]
 | .ag cs, h | .tp cs, h => by simp only [hasRef] at h; simp only [shV, shL_noref n cs h]
 | .fn _ cs, h => by simp only [hasRef] at h; simp only [shV, shL_noref n cs h]
 | .gv _ v, h => by simp only [hasRef] at h; simp only [shV, shV_noref n v h]
 | .ad _ _ _, h | .rf _ _ _ _ _, h | .mp _ _, h | .it _ _, h => by simp [hasRef] at h
theorem shL_noref (n : Nat) : ∀ vs : List V, hasRefL vs = false → shL n vs = vs
 | [], _ => rfl
 | v :: vs, h => by
  simp only [hasRefL, Bool.or_eq_false_iff] at h
  simp only [shL, shV_noref n v h.1, shL_noref n vs h.2]
end
theorem putBs_append : ∀ (a b : List (Nat × Blk)) (hp : List Blk), putBs hp (a ++ b) = putBs (putBs hp a) b
 | [], _, _ => rfl
 | x :: a, b, hp => by simp only [List.cons_append, putBs, putBs_append a b]
theorem sets_put : ∀ (l : List Blk) (hp : List Blk) (q : Nat), putBs hp (setsL q l) = setBs hp q l
 | [], _, _ => rfl
 | b :: l, hp, q => by simp only [setsL, putBs, setBs, sets_put l]
theorem putBs_get_kill : ∀ (L : List Nat) (hp hp0 : List Blk) (j : Nat), (∀ id ∈ L, id < hp.length) → (putBs hp (killL hp0 L))[j]? = if j ∈ L then some (kill1 (hp0[j]?.getD .hole)) else hp[j]?
 | [], hp, hp0, j, _ => by simp [killL, putBs]
 | id :: L, hp, hp0, j, h => by
  simp only [killL, putBs]
  rw [putBs_get_kill L _ hp0 j (fun x hx => by rw [List.length_set]; exact h x (by simp [hx]))]
  by_cases hj : j ∈ L
  ·simp [hj]
  ·rw [if_neg hj]
   by_cases he : j = id
   ·subst he
    rw [List.getElem?_set_self (h j (by simp)), if_pos (by simp)]
   ·rw [List.getElem?_set_ne (Ne.symm he), if_neg (by simp [he, hj])]
theorem kills_put {hp : List Blk} (L : List Nat) (h : L.all (leafB hp) = true) : putBs hp (killL hp L) = L.foldl killB hp := by
 have hlt : ∀ id ∈ L, id < hp.length := fun id hid => by
  have := List.all_eq_true.1 h id hid
  unfold leafB at this
  split at this
  ·rename_i hb; exact getElemLt hb
  ·rename_i hb; exact getElemLt hb
  ·cases this
 apply List.ext_getElem?
 intro j
 rw [putBs_get_kill L hp hp j hlt, kills_get]
 by_cases hj : j ∈ L
 ·rw [if_pos hj, if_pos hj, List.getElem?_eq_getElem (hlt j hj)]
  rfl
 ·rw [if_neg hj, if_neg hj]
theorem eff_step {o : RO} {σ : St} (h : (eff Γ E g base o σ).1) : (step Γ E g base o σ).1 ∧ (step Γ E g base o σ).2 = nextD Γ E g base o σ := by
 unfold eff at h
 unfold step nextD eff
 cases hx : o.x with
 | q q => simp only [hx] at h ⊢; exact ⟨h, rfl⟩
 | w q =>
  simp only [hx] at h ⊢
  unfold stepW
  cases hnv : nv σ.hp q (opv g σ.fr) with
  | some t =>
   obtain ⟨ok, b, mk⟩ := t
   simp only [hnv] at h ⊢
   cases hn : o.nid with
   | none => simp [hn] at h
   | some k => simp only [hn] at h ⊢; exact ⟨h, rfl⟩
  | none =>
   simp only [hnv] at h ⊢
   refine ⟨h, ?_⟩
   cases (sv E σ.hp q (opv g σ.fr)).2.2 <;> rfl
 | o f xs =>
  simp only [hx] at h ⊢
  unfold effO at h ⊢
  unfold stepO ocV
  cases hf : opv g σ.fr f <;> simp only [hf] at h ⊢
  rename_i k caps
  split at h
  ·rename_i ok r bs hΓ
   try simp only [hΓ]
   cases hn : o.nid with
   | none =>
    simp only [hn] at h ⊢
    split at h
    ·rename_i hb
     obtain ⟨h1, h2, h3, rfl, h5⟩ := h
     simp only [List.map_nil] at hb
     simp only [List.map_nil, hb, nidQ, plO, plQ, plB, List.map_nil, List.append_nil, shV_noref _ _ h5, putBs, and_true]
     exact ⟨h1, h2, h3⟩
    ·rename_i hb
     obtain ⟨h1, h2, h3, h4, rfl, h5⟩ := h
     simp only [List.map_nil] at hb
     simp only [List.map_nil, hb, nidQ, plO, plQ, plB, List.map_nil, List.append_nil, shV_noref _ _ h5, kills_put _ h4, and_true]
     exact ⟨h1, h2, h3, h4⟩
   | some j =>
    simp only [hn] at h ⊢
    split at h
    ·rename_i hb
     obtain ⟨h1, h2, h3, h4⟩ := h
     simp only [hb, nidQ, plO, plQ, plB, sets_put]
     exact ⟨⟨h1, h2, h3, h4⟩, trivial⟩
    ·rename_i hb
     obtain ⟨h1, h2, h3, h4, h5⟩ := h
     simp only [hb, nidQ, plO, plQ, plB, putBs_append, kills_put _ h4, sets_put]
     exact ⟨⟨h1, h2, h3, h4, h5⟩, trivial⟩
  ·exact h.elim
theorem sv_wr {Γ : Gam} {hp : List Blk} {q : W} {fr : Nat → V} {id : Nat} {b : Blk} {o : RO} (hx : o.x = .w q) {σ : St} (hσ : σ.fr = fr) (h : (sv E hp q (opv g fr)).2.2 = some (id, b)) : id ∈ (fpR Γ g base o σ).wr := by
 unfold fpR
 subst hσ
 simp only [hx]
 cases q <;> simp only [sv] at h ⊢ <;> try (cases h; done)
 case app es x y =>
  split at h
  ·rename_i id' g1 off len es' vs n hxx hnews
   simp only [hxx]
   split at h
   ·simp only [Option.some.injEq, Prod.mk.injEq] at h; simp [h.1]
   ·cases h
  ·cases h
 all_goals
  split at h
  ·rename_i hxx
   try simp only [hxx]
   split at h
   ·simp only [Option.some.injEq, Prod.mk.injEq] at h; simp_all [fpV]
   ·cases h
  ·cases h
theorem killL_mem {hp : List Blk} {id : Nat} {b : Blk} : ∀ {L : List Nat}, (id, b) ∈ killL hp L → id ∈ L
 | [], h => by cases h
 | x :: L, h => by
  rcases List.mem_cons.1 h with h | h
  ·cases h; simp
  ·simp [killL_mem h]
theorem setsL_mem {id : Nat} {b : Blk} : ∀ {l : List Blk} {q : Nat}, (id, b) ∈ setsL q l → q ≤ id ∧ id < q + l.length
 | [], _, h => by cases h
 | x :: l, q, h => by
  rcases List.mem_cons.1 h with h | h
  ·cases h; simp
  ·have := setsL_mem h; simp only [List.length_cons]; omega
theorem eff_wr {o : RO} {σ : St} {id : Nat} {b : Blk} (h : (id, b) ∈ (eff Γ E g base o σ).2.2) : id ∈ (fpR Γ g base o σ).wr := by
 unfold eff at h
 cases hx : o.x with
 | q q => simp [hx] at h
 | o f xs =>
  simp only [hx, effO] at h
  unfold fpR
  simp only [hx]
  cases hf : opv g σ.fr f <;> simp only [hf] at h ⊢ <;> try (cases h; done)
  rename_i k caps
  rw [List.mem_append]
  split at h
  ·rename_i ok r bs hΓ
   have hset : ∀ j, (id, b) ∈ setsL (base + j) ((bs.map vB).map (shB (base + j))) → id ∈ upTo (base + j) bs.length := fun j h => by
    have := setsL_mem h
    simp only [List.length_map] at this
    rw [mem_upTo]
    omega
   cases hn : o.nid with
   | none =>
    simp only [hn] at h
    split at h
    ·cases h
    ·exact .inl (killL_mem h)
   | some j =>
    simp only [hn] at h
    simp only [hΓ]
    split at h
    ·exact .inr (hset j h)
    ·rcases List.mem_append.1 h with h | h
     ·exact .inl (killL_mem h)
     ·exact .inr (hset j h)
  ·cases h
 | w q =>
  simp only [hx] at h
  cases hnv : nv σ.hp q (opv g σ.fr) with
  | some t =>
   obtain ⟨ok, vs, mk⟩ := t
   simp only [hnv] at h
   cases hn : o.nid with
   | none => simp [hn] at h
   | some k =>
    simp only [hn, List.mem_singleton, Prod.mk.injEq] at h
    obtain ⟨rfl, _⟩ := h
    unfold fpR
    simp only [hx]
    cases q <;> simp only [nv] at hnv <;> try (simp [hn]; done)
    case st => cases hnv
    case mup => cases hnv
    case men => cases hnv
    case mes => cases hnv
    case cpy => cases hnv
    case app es x y =>
     cases hxx : opv g σ.fr x <;> simp only [hxx] at hnv ⊢ <;> first | (simp [hn]; done) | (cases hnv)
  | none =>
   simp only [hnv] at h
   refine sv_wr (E := E) (hp := σ.hp) (b := b) hx rfl ?_
   cases hs : (sv E σ.hp q (opv g σ.fr)).2.2 with
   | none => rw [hs] at h; cases h
   | some y => rw [hs] at h; simp only [optL, List.mem_singleton] at h; rw [h]
theorem eff_gh {o : RO} {σ : St} {y : List V × Option (List (List V))} (hok : (eff Γ E g base o σ).1) (h : ghO σ.hp = some y) : ghO (nextD Γ E g base o σ).hp = some y := by
 obtain ⟨h1, h2⟩ := eff_step hok
 rw [← h2]
 exact step_gh h1 h
theorem upd_ne {fr : Nat → V} {d : Option Nat} {v : V} {t : Nat} (h : d ≠ some t) : upd fr d v t = fr t := by
 cases d with
 | none => rfl
 | some d => simp only [upd]; rw [if_neg]; rintro rfl; exact h rfl
theorem upd_comm {fr : Nat → V} {d e : Option Nat} {v v' : V} (h : ∀ x, d = some x → e ≠ some x) : upd (upd fr d v) e v' = upd (upd fr e v') d v := by
 funext t
 cases d with
 | none => rfl
 | some d =>
  cases e with
  | none => rfl
  | some e =>
   simp only [upd]
   have := h d rfl
   by_cases h1 : t = e
   ·subst h1
    rw [if_pos rfl, if_neg (by rintro rfl; exact this rfl), if_pos rfl]
   ·rw [if_neg h1]
    by_cases h2 : t = d
    ·simp [h2]
    ·simp [h1, h2]
theorem putBs_ne : ∀ {l : List (Nat × Blk)} {hp : List Blk} {i : Nat}, (∀ id b, (id, b) ∈ l → id ≠ i) → (putBs hp l)[i]? = hp[i]?
 | [], _, _, _ => rfl
 | (id, b) :: l, hp, i, h => by
  rw [putBs, putBs_ne fun id' b' h' => h id' b' (by simp [h'])]
  exact List.getElem?_set_ne (h id b (by simp))
theorem putBs_set : ∀ {l : List (Nat × Blk)} {hp : List Blk} {id : Nat} {b : Blk}, (∀ id' b', (id', b') ∈ l → id ≠ id') → putBs (hp.set id b) l = (putBs hp l).set id b
 | [], _, _, _, _ => rfl
 | (id', b') :: l, hp, id, b, h => by
  rw [putBs, putBs]
  show putBs ((hp.set id b).set id' b') l = (putBs (hp.set id' b') l).set id b
  rw [List.set_comm _ _ (h id' b' (by simp)), putBs_set fun x y hx => h x y (by simp [hx])]
theorem putBs_comm : ∀ {x y : List (Nat × Blk)} {hp : List Blk}, (∀ id b id' b', (id, b) ∈ x → (id', b') ∈ y → id ≠ id') → putBs (putBs hp x) y = putBs (putBs hp y) x
 | [], _, _, _ => rfl
 | (id, b) :: x, y, hp, h => by
  rw [putBs, putBs]
  show putBs (putBs (hp.set id b) x) y = putBs ((putBs hp y).set id b) x
  rw [putBs_comm fun a b c d ha hc => h a b c d (by simp [ha]) hc, putBs_set fun c d hc => h id b c d (by simp) hc]
theorem apartB_spec {a b : RO} (h : apartB a b = true) : (∀ d, a.dst = some d → d ∉ b.reads ∧ b.dst ≠ some d) ∧ (∀ d, b.dst = some d → d ∉ a.reads) := by
 simp only [apartB, Bool.and_eq_true] at h
 refine ⟨fun d hd => ?_, fun d hd => ?_⟩
 ·have := h.1; rw [hd] at this; simpa using this
 ·have := h.2; rw [hd] at this; simpa using this
theorem agree_of_disj {fa fb : FP} {hp : List Blk} {x : List (Nat × Blk)} (hw : ∀ id b, (id, b) ∈ x → id ∈ fa.wr) (h : hits fa.wr fb = false) : AgreeOn fb hp (putBs hp x) := by
 cases hxe : x with
 | nil => exact ⟨fun _ => rfl, fun _ _ _ _ => rfl, fun _ _ => rfl⟩
 | cons ib l =>
  rw [← hxe]
  obtain ⟨id, b⟩ := ib
  have hid := hw id b (by rw [hxe]; simp)
  have hne : fa.wr.isEmpty = false := by cases hf : fa.wr with | nil => rw [hf] at hid; cases hid | cons _ _ => rfl
  simp only [hits, hne, Bool.not_false, Bool.true_and] at h
  cases hr : fb.rd with
  | none => simp [hr] at h
  | some r =>
   simp only [hr] at h
   have hno : ∀ id b, (id, b) ∈ x → r.contains id = false ∧ fb.wr.contains id = false := fun id b hm => by
    have := List.any_eq_false.1 h id (hw id b hm)
    simpa using this
   refine ⟨fun h' => (by rw [hr] at h'; cases h'), fun r' hr' i hi => ?_, fun i hi => ?_⟩
   ·have hrr : r = r' := by rw [hr] at hr'; exact Option.some.inj hr'
    subst hrr
    refine (putBs_ne ?_).symm
    rintro id' b' h' rfl
    have := (hno _ _ h').1
    simp at this
    exact this hi
   ·refine (putBs_ne ?_).symm
    rintro id' b' h' rfl
    have := (hno _ _ h').2
    simp at this
    exact this hi
theorem swap {a b : RO} {σ : St} (hap : apartB a b = true) (ha : (eff Γ E g base a σ).1) (hb : (eff Γ E g base b (nextD Γ E g base a σ)).1)
  (hd : disjB (fpR Γ g base a σ) (fpR Γ g base b (nextD Γ E g base a σ)) = true) :
  (eff Γ E g base b σ).1 ∧ fpR Γ g base b σ = fpR Γ g base b (nextD Γ E g base a σ) ∧ (eff Γ E g base a (nextD Γ E g base b σ)).1 ∧
   fpR Γ g base a (nextD Γ E g base b σ) = fpR Γ g base a σ ∧ nextD Γ E g base a (nextD Γ E g base b σ) = nextD Γ E g base b (nextD Γ E g base a σ) := by
 obtain ⟨h1, h2⟩ := apartB_spec hap
 simp only [disjB, Bool.and_eq_true, Bool.not_eq_true'] at hd
 have r1 : ∀ n ∈ b.reads, (nextD Γ E g base a σ).fr n = σ.fr n := fun n hn => by
  simp only [nextD]
  exact upd_ne fun h => (h1 n h).1 hn
 have e1 := eff_local (Γ := Γ) (E := E) (g := g) (base := base) (o := b) (σ := nextD Γ E g base a σ) (σ' := σ) r1 (by
  have := agree_of_disj (fa := fpR Γ g base a σ) (fb := fpR Γ g base b (nextD Γ E g base a σ)) (hp := σ.hp) (x := (eff Γ E g base a σ).2.2) (fun id b h => eff_wr h) hd.1
  simp only [nextD] at this ⊢
  exact ⟨fun h => (this.1 h).symm, fun r hr i hi => (this.2.1 r hr i hi).symm, fun i hi => (this.2.2 i hi).symm⟩)
 have r2 : ∀ n ∈ a.reads, σ.fr n = (nextD Γ E g base b σ).fr n := fun n hn => by
  simp only [nextD]
  exact (upd_ne fun h => h2 n h hn).symm
 have e2 := eff_local (Γ := Γ) (E := E) (g := g) (base := base) (o := a) (σ := σ) (σ' := nextD Γ E g base b σ) r2 (by
  have hw : ∀ id b', (id, b') ∈ (eff Γ E g base b σ).2.2 → id ∈ (fpR Γ g base b (nextD Γ E g base a σ)).wr := fun id b' h => by rw [e1.2]; exact eff_wr h
  have := agree_of_disj (fa := fpR Γ g base b (nextD Γ E g base a σ)) (fb := fpR Γ g base a σ) (hp := σ.hp) (x := (eff Γ E g base b σ).2.2) hw hd.2
  simpa only [nextD] using this)
 refine ⟨by rw [← e1.1]; exact hb, e1.2.symm, by rw [← e2.1]; exact ha, e2.2.symm, ?_⟩
 have hx : nextD Γ E g base a (nextD Γ E g base b σ) = ⟨upd (upd σ.fr b.dst (eff Γ E g base b σ).2.1) a.dst (eff Γ E g base a σ).2.1, putBs (putBs σ.hp (eff Γ E g base b σ).2.2) (eff Γ E g base a σ).2.2⟩ := by
  show (⟨upd (nextD Γ E g base b σ).fr a.dst (eff Γ E g base a (nextD Γ E g base b σ)).2.1, putBs (nextD Γ E g base b σ).hp (eff Γ E g base a (nextD Γ E g base b σ)).2.2⟩ : St) = _
  rw [← e2.1]
  rfl
 have hy : nextD Γ E g base b (nextD Γ E g base a σ) = ⟨upd (upd σ.fr a.dst (eff Γ E g base a σ).2.1) b.dst (eff Γ E g base b σ).2.1, putBs (putBs σ.hp (eff Γ E g base a σ).2.2) (eff Γ E g base b σ).2.2⟩ := by
  show (⟨upd (nextD Γ E g base a σ).fr b.dst (eff Γ E g base b (nextD Γ E g base a σ)).2.1, putBs (nextD Γ E g base a σ).hp (eff Γ E g base b (nextD Γ E g base a σ)).2.2⟩ : St) = _
  rw [e1.1]
  rfl
 rw [hx, hy]
 congr 1
 ·exact (upd_comm fun x hx' => (h1 x hx').2).symm
 ·refine putBs_comm fun id bb id' bb' hx' hy' => ?_
  have w1 := eff_wr hx'
  have w2 := eff_wr hy'
  rw [← e1.2] at w1
  have hne : (fpR Γ g base a σ).wr.isEmpty = false := by cases hf : (fpR Γ g base a σ).wr with | nil => rw [hf] at w2; cases w2 | cons _ _ => rfl
  have := hd.1
  simp only [hits, hne, Bool.not_false, Bool.true_and] at this
  cases hr : (fpR Γ g base b (nextD Γ E g base a σ)).rd with
  | none => simp [hr] at this
  | some r =>
   simp only [hr] at this
   have h3 := List.any_eq_false.1 this id' w2
   simp at h3
   rintro rfl
   exact h3.2 w1
def lkmB (a b : RO) : Bool := match a.x, b.x with
 | .q (.lkp (.i z) false kt sk (.t m) (.t k)), .w (.men kt' sk' (.i z') (.t m') (.t k')) => z == z' && (kt == kt' && (sk == sk' && (m == m' && k == k')))
 | _, _ => false
theorem lkmB_spec {a b : RO} (h : lkmB a b = true) : ∃ z kt sk m k, a.x = .q (.lkp (.i z) false kt sk (.t m) (.t k)) ∧ b.x = .w (.men kt sk (.i z) (.t m) (.t k)) := by
 unfold lkmB at h
 split at h
 ·rename_i z kt sk m k kt' sk' z' m' k' h1 h2
  simp only [Bool.and_eq_true, beq_iff_eq] at h
  obtain ⟨rfl, rfl, rfl, rfl, rfl⟩ := h
  exact ⟨_, _, _, _, _, h1, h2⟩
 ·cases h
theorem lkpV_men {hp : List Blk} {z : Int} {kt : TypeId} {sk : Bool} {m k : Od} {ρ : Od → V} (h : (sv E hp (.men kt sk (.i z) m k) ρ).1) :
  lkpV E (putB hp (sv E hp (.men kt sk (.i z) m k) ρ).2.2) (.i z) false kt sk (ρ m) (ρ k) = lkpV E hp (.i z) false kt sk (ρ m) (ρ k) := by
 simp only [sv] at h ⊢
 unfold lkpV
 cases hm : ρ m <;> simp only [hm] at h ⊢
 rename_i id g
 cases hk : keyL (ρ k) with
 | none => simp [hk] at h
 | some t =>
  obtain ⟨s, l⟩ := t
  simp only [hk] at h ⊢
  cases hb : hp[id]? with
  | none => simp [hb] at h
  | some b =>
   cases b <;> simp only [hb] at h ⊢
   rename_i st ks vs
   obtain ⟨hg, hs, hst, hfit⟩ := h
   simp only [putB, List.getElem?_set_self (getElemLt hb)]
   have hfit' : sk = true → E kt l.length ∧ ∀ k ∈ putK ks l, k.length = l.length := fun e => ⟨(hfit e).1, fun k hk => by
    unfold putK at hk
    split at hk
    ·exact (hfit e).2 k hk
    ·rcases List.mem_append.1 hk with hk | hk
     ·exact (hfit e).2 k hk
     ·rw [List.mem_singleton] at hk; rw [hk]⟩
   congr 1
   ·exact propext ⟨fun _ => ⟨hg, hs, hst, hfit⟩, fun _ => ⟨hg, hs, hst, hfit'⟩⟩
   ·simp only [Bool.false_eq_true, if_false]
    unfold putK
    by_cases hl : l ∈ ks
    ·rw [if_pos hl, if_pos hl]
    ·rw [if_neg hl, if_neg hl]
     have e1 : (ks ++ [l]).idxOf l = ks.length := by rw [List.idxOf_append, if_neg hl]; simp
     rw [e1, List.idxOf_eq_length hl]
     rcases Nat.lt_trichotomy ks.length vs.length with h1 | h1 | h1
     ·rw [List.getElem?_append_left h1]
     ·rw [List.getElem?_append_right (by omega), h1, Nat.sub_self, List.getElem?_eq_none (Nat.le_refl _)]; rfl
     ·rw [List.getElem?_eq_none (by simp; omega), List.getElem?_eq_none (by omega)]
theorem swap_lkm {a b : RO} {σ : St} (hap : apartB a b = true) (ha : (eff Γ E g base a σ).1) (hb : (eff Γ E g base b (nextD Γ E g base a σ)).1)
  (hl : lkmB a b = true) :
  (eff Γ E g base b σ).1 ∧ fpR Γ g base b σ = fpR Γ g base b (nextD Γ E g base a σ) ∧ (eff Γ E g base a (nextD Γ E g base b σ)).1 ∧
   fpR Γ g base a (nextD Γ E g base b σ) = fpR Γ g base a σ ∧ nextD Γ E g base a (nextD Γ E g base b σ) = nextD Γ E g base b (nextD Γ E g base a σ) := by
 obtain ⟨h1, h2⟩ := apartB_spec hap
 obtain ⟨z, kt, sk, m, k, hax, hbx⟩ := lkmB_spec hl
 have ea : ∀ σ : St, (eff Γ E g base a σ).2.2 = [] := fun σ => by unfold eff; rw [hax]
 have hna : (nextD Γ E g base a σ).hp = σ.hp := by simp only [nextD, ea]; rfl
 have r1 : ∀ n ∈ b.reads, (nextD Γ E g base a σ).fr n = σ.fr n := fun n hn => by
  simp only [nextD]
  exact upd_ne fun h => (h1 n h).1 hn
 have e1 := eff_local (Γ := Γ) (E := E) (g := g) (base := base) (o := b) (σ := nextD Γ E g base a σ) (σ' := σ) r1 (by rw [hna]; exact ⟨fun _ => rfl, fun _ _ _ _ => rfl, fun _ _ => rfl⟩)
 have hb' : (eff Γ E g base b σ).1 := by rw [← e1.1]; exact hb
 have r2 : ∀ n ∈ a.reads, σ.fr n = (nextD Γ E g base b σ).fr n := fun n hn => by
  simp only [nextD]
  exact (upd_ne fun h => h2 n h hn).symm
 have e2 := eff_local (Γ := Γ) (E := E) (g := g) (base := base) (o := a) (σ := σ) (σ' := ⟨(nextD Γ E g base b σ).fr, σ.hp⟩) r2 ⟨fun _ => rfl, fun _ _ _ _ => rfl, fun _ _ => rfl⟩
 have hnv : ∀ σ : St, nv σ.hp (.men kt sk (.i z) (.t m) (.t k)) (opv g σ.fr) = none := fun σ => rfl
 have hsv : (sv E σ.hp (.men kt sk (.i z) (.t m) (.t k)) (opv g σ.fr)).1 := by
  have := hb'
  unfold eff at this
  rw [hbx] at this
  simp only [hnv] at this
  exact this.2
 have hhp : (nextD Γ E g base b σ).hp = putB σ.hp (sv E σ.hp (.men kt sk (.i z) (.t m) (.t k)) (opv g σ.fr)).2.2 := by
  simp only [nextD]
  unfold eff
  rw [hbx]
  simp only [hnv]
  cases (sv E σ.hp (.men kt sk (.i z) (.t m) (.t k)) (opv g σ.fr)).2.2 <;> rfl
 have hom : opv g (nextD Γ E g base b σ).fr (.t m) = opv g σ.fr (.t m) ∧ opv g (nextD Γ E g base b σ).fr (.t k) = opv g σ.fr (.t k) := by
  have k1 := r2 m (by simp [RO.reads, hax, Q.ods, slotsOf])
  have k2 := r2 k (by simp [RO.reads, hax, Q.ods, slotsOf])
  cases g <;> simp only [opv, evO, ← k1, ← k2] <;> exact ⟨trivial, trivial⟩
 have hq : ∀ fr', qv Γ E (nextD Γ E g base b σ).hp (.lkp (.i z) false kt sk (.t m) (.t k)) fr' = qv Γ E σ.hp (.lkp (.i z) false kt sk (.t m) (.t k)) fr' ∨ fr' (.t m) ≠ opv g σ.fr (.t m) ∨ fr' (.t k) ≠ opv g σ.fr (.t k) := by
  intro fr'
  by_cases c1 : fr' (.t m) = opv g σ.fr (.t m)
  ·by_cases c2 : fr' (.t k) = opv g σ.fr (.t k)
   ·left
    simp only [qv]
    rw [c1, c2, hhp]
    exact lkpV_men hsv
   ·exact .inr (.inr c2)
  ·exact .inr (.inl c1)
 have hq' : qv Γ E (nextD Γ E g base b σ).hp (.lkp (.i z) false kt sk (.t m) (.t k)) (opv g (nextD Γ E g base b σ).fr) = qv Γ E σ.hp (.lkp (.i z) false kt sk (.t m) (.t k)) (opv g (nextD Γ E g base b σ).fr) := by
  rcases hq (opv g (nextD Γ E g base b σ).fr) with h | h | h
  ·exact h
  ·exact absurd hom.1 h
  ·exact absurd hom.2 h
 have e3 : eff Γ E g base a (nextD Γ E g base b σ) = eff Γ E g base a ⟨(nextD Γ E g base b σ).fr, σ.hp⟩ := by
  unfold eff
  rw [hax]
  simp only [stepQ]
  cases g with
  | false => simp only [hq']
  | true => simp only [hq']
 have e4 : fpR Γ g base a (nextD Γ E g base b σ) = fpR Γ g base a ⟨(nextD Γ E g base b σ).fr, σ.hp⟩ := by
  unfold fpR
  rw [hax]; rfl
 have e5 := e3.trans e2.1.symm
 refine ⟨hb', e1.2.symm, by rw [e5]; exact ha, e4.trans e2.2.symm, ?_⟩
 have hx : nextD Γ E g base a (nextD Γ E g base b σ) = ⟨upd (upd σ.fr b.dst (eff Γ E g base b σ).2.1) a.dst (eff Γ E g base a σ).2.1, putBs (putBs σ.hp (eff Γ E g base b σ).2.2) (eff Γ E g base a σ).2.2⟩ := by
  show (⟨upd (nextD Γ E g base b σ).fr a.dst (eff Γ E g base a (nextD Γ E g base b σ)).2.1, putBs (nextD Γ E g base b σ).hp (eff Γ E g base a (nextD Γ E g base b σ)).2.2⟩ : St) = _
  rw [e5]
  rfl
 have hy : nextD Γ E g base b (nextD Γ E g base a σ) = ⟨upd (upd σ.fr a.dst (eff Γ E g base a σ).2.1) b.dst (eff Γ E g base b σ).2.1, putBs (putBs σ.hp (eff Γ E g base a σ).2.2) (eff Γ E g base b σ).2.2⟩ := by
  show (⟨upd (nextD Γ E g base a σ).fr b.dst (eff Γ E g base b (nextD Γ E g base a σ)).2.1, putBs (nextD Γ E g base a σ).hp (eff Γ E g base b (nextD Γ E g base a σ)).2.2⟩ : St) = _
  rw [e1.1]
  rfl
 rw [hx, hy]
 congr 1
 ·exact (upd_comm fun x hx' => (h1 x hx').2).symm
 ·rw [ea σ]; rfl
def RunD (Γ : Gam) (E : TypeId → Nat → Prop) (g : Bool) (base : Nat) : List (Nat × RO × FP) → St → St → Prop
 | [], σ, τ => σ = τ
 | (_, o, f) :: l, σ, τ => (eff Γ E g base o σ).1 ∧ fpR Γ g base o σ = f ∧ RunD Γ E g base l (nextD Γ E g base o σ) τ
def Indep (x y : Nat × RO × FP) : Prop := apartB x.2.1 y.2.1 = true ∧ (disjB x.2.2 y.2.2 = true ∨ lkmB x.2.1 y.2.1 = true)
theorem RunD.move {x : Nat × RO × FP} {B : List (Nat × RO × FP)} {τ : St} : ∀ (A : List (Nat × RO × FP)) (σ : St), RunD Γ E g base (A ++ x :: B) σ τ → (∀ a ∈ A, Indep a x) → RunD Γ E g base (x :: (A ++ B)) σ τ
 | [], σ, h, _ => h
 | (k, a, f) :: A, σ, h, hi => by
  obtain ⟨j, o, f'⟩ := x
  simp only [List.cons_append, RunD] at h
  obtain ⟨h1, h2, h3⟩ := h
  have ih := RunD.move A _ h3 fun a ha => hi a (by simp [ha])
  simp only [RunD] at ih ⊢
  obtain ⟨i1, i2, i3⟩ := ih
  have hia := hi (k, a, f) (by simp)
  obtain ⟨s1, s2, s3, s4, s5⟩ := hia.2.elim (fun hd => swap (Γ := Γ) (E := E) (g := g) (base := base) hia.1 h1 i1 (by rw [h2, i2]; exact hd)) fun hl => swap_lkm (Γ := Γ) (E := E) (g := g) (base := base) hia.1 h1 i1 hl
  refine ⟨s1, s2.trans i2, ?_⟩
  simp only [List.cons_append, RunD]
  exact ⟨s3, s4.trans h2, by rw [s5]; exact i3⟩
end
end Go.Fam
namespace Go.Fam
inductive Anc (ops : Array Oper) : Nat → Nat → Prop
 | base {i j : Nat} {o : Oper} {e : Edge} (ho : ops[j]? = some o) (he : e ∈ o.after) (hb : Region.binds .any e = true) (h : e.on = i) : Anc ops i j
 | step {i j : Nat} {o : Oper} {e : Edge} (ho : ops[j]? = some o) (he : e ∈ o.after) (hb : Region.binds .any e = true) (h : Anc ops i e.on) : Anc ops i j
theorem ext_drew (S : Nat → Prop) (w : World) (O : OInfo) : Ext S S w { w with drawn := w.drawn + 1 } O O :=
 ⟨fun _ h => ⟨h, rfl⟩, fun _ g ob h => ⟨g, ob, h, Nat.le_refl _, fun _ => ⟨rfl, fun _ cur _ _ hb => ⟨cur, hb, rfl⟩⟩⟩⟩
theorem evol_drew (S : Nat → Prop) (w : World) (O : OInfo) : Evol S S w { w with drawn := w.drawn + 1 } O O :=
 ⟨ext_drew S w O, rfl, rfl, rfl, Nat.le_refl _, fun _ _ => rfl, fun _ _ _ => rfl, fun _ h => .inl h, fun _ h => .inl h⟩
theorem mat_drew {S : Nat → Prop} {w : World} {O : OInfo} {hp : List Blk} (h : Mat S w O hp) : Mat S { w with drawn := w.drawn + 1 } O hp :=
 h.keep (ext_drew S w O) (Nat.le_refl _) (fun _ _ => rfl) h.lt fun k hk ⟨id, g, ho⟩ => (h.own id g k ho).2 hk
section
variable {P : Program} {F : Fence} {n : Nat} {Γ : Gam} {ops : Array Oper} {g : Bool} {base : Nat} {M : FrI} {N : Nat × Nat} {pu : List Nat}
theorem RunD.cons_split {x : Nat × RO × FP} {l : List (Nat × RO × FP)} {σ τ : St} (h : RunD Γ (EqFlat P) g base (x :: l) σ τ) :
  (eff Γ (EqFlat P) g base x.2.1 σ).1 ∧ RunD Γ (EqFlat P) g base l (nextD Γ (EqFlat P) g base x.2.1 σ) τ := by
 obtain ⟨k, o, f⟩ := x
 exact ⟨h.1, h.2.2⟩
theorem any_order (hG : GOk P Γ) (hF : OpenF F) (hg : g = false → ∀ o ∈ ops, o.guard = none) {Q : Exit → Act → World → Prop} {τ : St} :
  ∀ (fuel : Nat) (rest : List (Nat × RO × FP)) (listed : Array Bool) (σ : St) (S : Nat → Prop) (w : World) (O : OInfo) (a : Act),
   rest.length ≤ fuel →
   (∀ i, listed.getD i true = false ↔ ∃ x ∈ rest, x.1 = i) →
   rest.Pairwise (fun x y => x.1 < y.1 ∧ (Anc ops x.1 y.1 ∨ Indep x y)) →
   (∀ x ∈ rest, ∃ o, ops[x.1]? = some o ∧ resO P pu M.nm ops o = some { x.2.1 with nid := none } ∧ ∀ e ∈ o.after, Region.binds .any e = true → e.on < x.1) →
   (∀ i j, Anc ops i j → listed.getD j false = true → listed.getD i false = true) →
   (∀ i, i < ops.size → i < listed.size) →
   RunD Γ (EqFlat P) g base rest σ τ → SR M S w O σ a →
   (∀ S' w' O' a', Evol S S' w w' O O' → SR M S' w' O' τ a' → a'.defers = a.defers → Q .normal a' w') →
   wpAnyIn F n P .any ops Q fuel listed a w := by
 intro fuel
 induction fuel with
 | zero =>
  intro rest listed σ S w O a hf hl _ _ _ _ hrun hsr hK
  have hnil : rest = [] := List.eq_nil_of_length_eq_zero (by omega)
  subst hnil
  simp only [RunD] at hrun
  subst hrun
  refine ⟨?_, hK S w O a (Evol.refl _ _ _) hsr rfl⟩
  rw [List.eq_nil_iff_forall_not_mem]
  intro i hi
  rw [mem_ready] at hi
  obtain ⟨x, hx, _⟩ := (hl i).1 hi.1
  simp at hx
 | succ fuel ih =>
  intro rest listed σ S w O a hf hl hp hr hc hsz hrun hsr hK
  refine ⟨fun hnil => ?_, fun i hi => ?_⟩
  ·cases rest with
   | nil =>
    simp only [RunD] at hrun
    subst hrun
    exact hK S w O a (Evol.refl _ _ _) hsr rfl
   | cons x rest =>
    exfalso
    obtain ⟨o, ho, _, hlt⟩ := hr x (by simp)
    have : x.1 ∈ Region.ready .any ops listed := by
     rw [mem_ready]
     refine ⟨(hl x.1).2 ⟨x, by simp, rfl⟩, o, ho, fun e he hb => ?_⟩
     have h1 := hlt e he hb
     have h2 : ¬ listed.getD e.on true = false := by
      rw [hl]
      rintro ⟨y, hy, hye⟩
      rcases List.mem_cons.1 hy with rfl | hy
      ·omega
      ·have := (List.rel_of_pairwise_cons hp hy).1; omega
     have h3 : x.1 < ops.size := (Array.getElem?_eq_some_iff.1 ho).1
     have h4 := hsz e.on (by omega)
     simp [h4] at h2 ⊢
     exact h2
    rw [hnil] at this
    simp at this
  ·have hready := hi
   rw [mem_ready] at hi
   obtain ⟨h0, o, ho, hall⟩ := hi
   obtain ⟨x, hx, hxi⟩ := (hl i).1 h0
   subst hxi
   obtain ⟨A, B, rfl⟩ := List.append_of_mem hx
   obtain ⟨o', ho', hro, hlt⟩ := hr x (by simp)
   rw [ho] at ho'
   cases ho'
   have hpa := List.pairwise_append.1 hp
   have hpb := List.pairwise_cons.1 hpa.2.1
   have hind : ∀ y ∈ A, Indep y x := by
    intro y hy
    rcases (hpa.2.2 y hy x (by simp)).2 with h | h
    ·exfalso
     have hy0 : listed.getD y.1 true = false := (hl y.1).2 ⟨y, by simp [hy], rfl⟩
     have hy1 : listed.getD y.1 false = true := by
      cases h with
      | base ho' he hb h =>
       rw [ho] at ho'; cases ho'
       rw [← h]
       exact hall _ he hb
      | step ho' he hb h =>
       rw [ho] at ho'; cases ho'
       exact hc _ _ h (hall _ he hb)
     cases hle : listed[y.1]? with
     | none => simp [hle] at hy0
     | some b => simp [hle] at hy0 hy1; simp_all
    ·exact h
   have hmv := RunD.move A σ hrun hind
   obtain ⟨hok, hrest⟩ := hmv.cons_split
   obtain ⟨hs1, hs2⟩ := eff_step hok
   refine op_step hG hF ho hro (fun hgf => hg hgf o (Array.mem_of_getElem? ho)) hsr hs1 ?_
   intro S' w' O' a' hev hsr' hdef
   rw [hs2] at hsr'
   refine ih (A ++ B) (listed.setIfInBounds x.1 true) _ S' w' O' a' ?_ ?_ ?_ ?_ ?_ ?_ hrest hsr' ?_
   ·simp at hf ⊢; omega
   ·intro i
    by_cases hix : i = x.1
    ·subst hix
     have hlt' : x.1 < listed.size := hsz _ (Array.getElem?_eq_some_iff.1 ho).1
     simp [hlt']
     intro k r
     refine ⟨fun hm => ?_, fun hm => ?_⟩
     ·have := (hpa.2.2 _ hm x (by simp)).1; simp at this
     ·have := (hpb.1 _ hm).1; simp at this
    ·rw [getD_set_ne true (Ne.symm hix), hl]
     constructor
     ·rintro ⟨y, hy, rfl⟩
      refine ⟨y, ?_, rfl⟩
      simp only [List.mem_append, List.mem_cons] at hy ⊢
      rcases hy with h | h | h
      ·exact .inl h
      ·subst h; exact absurd rfl hix
      ·exact .inr h
     ·rintro ⟨y, hy, rfl⟩
      exact ⟨y, by simp only [List.mem_append, List.mem_cons] at hy ⊢; rcases hy with h | h <;> simp [h], rfl⟩
   ·refine List.Pairwise.sublist ?_ hp
    exact List.Sublist.append (List.Sublist.refl _) (List.sublist_cons_self _ _)
   ·intro y hy
    refine hr y ?_
    simp only [List.mem_append, List.mem_cons] at hy ⊢
    rcases hy with h | h <;> simp [h]
   ·intro i j hij hj
    by_cases hjx : j = x.1
    ·subst hjx
     refine getD_set_true ?_
     cases hij with
     | base ho' he hb h =>
      rw [ho] at ho'; cases ho'
      rw [← h]
      exact hall _ he hb
     | step ho' he hb h =>
      rw [ho] at ho'; cases ho'
      exact hc _ _ h (hall _ he hb)
    ·rw [getD_set_ne false (Ne.symm hjx)] at hj
     exact getD_set_true (hc i j hij hj)
   ·intro i hi
    simpa using hsz i hi
   ·intro S'' w'' O'' a'' hev' hsr'' hdef'
    exact hK S'' w'' O'' a'' (hev.trans hev') hsr'' (hdef'.trans hdef)
theorem RunD.gh : ∀ (l : List (Nat × RO × FP)) (σ τ : St) {y : List V × Option (List (List V))}, RunD Γ (EqFlat P) g base l σ τ → ghO σ.hp = some y → ghO τ.hp = some y
 | [], σ, τ, y, h, hy => by simp only [RunD] at h; subst h; exact hy
 | (k, o, f) :: l, σ, τ, y, h, hy => RunD.gh l _ _ h.2.2 (eff_gh h.1 hy)
structure AnyOp where
 o : RO
 js : List Nat
 an : List Nat
def runX (Γ : Gam) (E : TypeId → Nat → Prop) (g : Bool) (base : Nat) : List AnyOp → List FP → St → (St → Prop) → Prop
 | [], _, σ, K => K σ
 | x :: l, done, σ, K => (eff Γ E g base x.o σ).1 ∧ (x.js.all fun j => disjB (done.getD j ⟨none, []⟩) (fpR Γ g base x.o σ)) = true ∧ runX Γ E g base l (done ++ [fpR Γ g base x.o σ]) (nextD Γ E g base x.o σ) K
def RX.quiet : RX → Bool | .q _ => true | .w _ => false | .o _ _ => false
def pairsB (l : List AnyOp) : Bool :=
 (List.range l.length).all fun j => match l[j]? with
  | none => true
  | some y => (List.range j).all fun i => match l[i]? with
   | none => true
   | some x => y.an.contains i || (apartB x.o y.o && (y.js.contains i || (x.o.x.quiet && y.o.x.quiet) || lkmB x.o y.o))
def ancB (ops : Array Oper) (l : List AnyOp) : Bool :=
 (List.range ops.size).all fun j => match ops[j]?, l[j]? with
  | some o, some y => (o.after.all fun e => !(Region.binds .any e) || decide (e.on < j)) &&
    y.an.all fun i => o.after.any fun e => Region.binds .any e && (e.on == i || match l[e.on]? with | some z => z.an.contains i | none => false)
  | _, _ => false
theorem ancB_spec {l : List AnyOp} (h : ancB ops l = true) : ∀ (j : Nat) (y : AnyOp), l[j]? = some y → j < ops.size → (∀ i ∈ y.an, Anc ops i j) ∧ ∀ o, ops[j]? = some o → ∀ e ∈ o.after, Region.binds .any e = true → e.on < j := by
 intro j
 induction j using Nat.strongRecOn with
 | _ j ih =>
  intro y hy hj
  have h1 := List.all_eq_true.1 h j (by simpa using hj)
  obtain ⟨o, ho⟩ : ∃ o, ops[j]? = some o := ⟨ops[j], by simp [hj]⟩
  simp only [ho, hy, Bool.and_eq_true] at h1
  have hlt : ∀ e ∈ o.after, Region.binds .any e = true → e.on < j := by
   intro e he hb
   have := Array.all_eq_true_iff_forall_mem.1 h1.1 e he
   simpa [hb] using this
  refine ⟨fun i hi => ?_, fun o' ho' => by rw [ho] at ho'; cases ho'; exact hlt⟩
  have h2 := List.all_eq_true.1 h1.2 i hi
  rw [Array.any_eq_true] at h2
  obtain ⟨k, hk, h3⟩ := h2
  simp only [Bool.and_eq_true, Bool.or_eq_true] at h3
  have hmem : o.after[k] ∈ o.after := Array.getElem_mem hk
  rcases h3.2 with h4 | h4
  ·exact .base ho hmem h3.1 (by simpa using h4)
  ·cases hz : l[(o.after[k]).on]? with
   | none => simp [hz] at h4
   | some z =>
    simp only [hz] at h4
    have hl := hlt _ hmem h3.1
    exact .step ho hmem h3.1 ((ih _ hl z hz (by omega)).1 i (by simpa using h4))
theorem runX_runD {l : List AnyOp} : ∀ (k : Nat) (done : List FP) (σ : St) (K : St → Prop), runX Γ (EqFlat P) g base l done σ K → k = done.length →
  ∃ fs : List FP, ∃ τ, fs.length = l.length ∧ RunD Γ (EqFlat P) g base ((List.range' k l.length).zip ((l.map (·.o)).zip fs)) σ τ ∧ K τ ∧
   ∀ q y f, l[q]? = some y → fs[q]? = some f → ∀ j ∈ y.js, disjB ((done ++ fs).getD j ⟨none, []⟩) f = true ∨ k + q ≤ j := by
 induction l with
 | nil => intro k done σ K h _; exact ⟨[], σ, rfl, (by simp [RunD]), h, by simp⟩
 | cons x l ih =>
  intro k done σ K h hk
  obtain ⟨h1, h2, h3⟩ := h
  obtain ⟨fs, τ, hl, hrun, hK, hd⟩ := ih (k + 1) _ _ _ h3 (by simp [hk])
  refine ⟨fpR Γ g base x.o σ :: fs, τ, by simp [hl], ?_, hK, ?_⟩
  ·simp only [List.length_cons, List.range'_succ, List.map_cons, List.zip_cons_cons, RunD]
   exact ⟨h1, trivial, hrun⟩
  ·intro q y f hy hf j hj
   cases q with
   | zero =>
    simp at hy hf
    subst hy hf
    by_cases hjk : k ≤ j
    ·exact .inr (by omega)
    ·left
     have := List.all_eq_true.1 h2 j hj
     have hlt : j < done.length := by omega
     simpa [List.getElem?_append_left hlt] using this
   | succ q =>
    simp at hy hf
    have := hd q y f hy hf j hj
    rcases this with h | h
    ·left; simpa using h
    ·right; omega
theorem RunD.quiet : ∀ (l : List (Nat × RO × FP)) (σ τ : St), RunD Γ (EqFlat P) g base l σ τ → ∀ x ∈ l, x.2.1.x.quiet = true → x.2.2.wr = []
 | [], _, _, _ => by simp
 | (k, o, f) :: l, σ, τ, h => by
  intro x hx hq
  obtain ⟨_, h2, h3⟩ := h
  rcases List.mem_cons.1 hx with rfl | hx
  ·simp only at hq ⊢
   rw [← h2]
   unfold fpR
   cases ho : o.x with
   | q q => rfl
   | w q => rw [ho] at hq; cases hq
   | o f xs => rw [ho] at hq; cases hq
  ·exact RunD.quiet l _ _ h3 x hx hq
def AnyOps (P : Program) (pu : List Nat) (N : Nat × Nat) (ops : Array Oper) (l : List AnyOp) : Prop :=
 ops.toList.map (fun o => resO P pu N ops o) = l.map fun x => some { x.o with nid := none }
theorem region_any (hG : GOk P Γ) (hF : OpenF F) (hm : P.follows .mixedOrders = true) {l : List AnyOp} (hl : AnyOps P pu M.nm ops l) (hp : pairsB l = true) (ha : ancB ops l = true)
  (hg : g = false → ∀ o ∈ ops, o.guard = none) {Q : Exit → Act → World → Prop} {σ : St} {S : Nat → Prop} {w : World} {O : OInfo} {a : Act} {K : St → Prop} {id : Nat}
  (hrun : runX Γ (EqFlat P) g base l [] σ K) (hsr : SR M S w O σ a)
  (hK : ∀ τ S' w' O' a', K τ → (∀ y, ghO σ.hp = some y → ghO τ.hp = some y) → Evol S S' w w' O O' → SR M S' w' O' τ a' → a'.defers = a.defers → Q .normal a' w') : (Code.region id ops true).wpIn F n P Q a w := by
 obtain ⟨fs, τ, hfs, hr, hKτ, hd⟩ := runX_runD 0 [] σ K hrun rfl
 have hlen : l.length = ops.size := by
  have := congrArg List.length hl
  simpa using this.symm
 refine wpIn_region_any hm ?_
 have hget : ∀ x ∈ (List.range' 0 l.length).zip ((l.map (·.o)).zip fs), ∃ y, l[x.1]? = some y ∧ y.o = x.2.1 ∧ fs[x.1]? = some x.2.2 := by
  rintro ⟨i, o, f⟩ hx
  obtain ⟨q, hq⟩ := List.getElem?_of_mem hx
  rw [List.getElem?_zip_eq_some] at hq
  obtain ⟨q1, q2⟩ := hq
  rw [List.getElem?_zip_eq_some] at q2
  obtain ⟨q2, q3⟩ := q2
  have hqi : i = q := by
   rw [List.getElem?_range'] at q1
   ·simpa using q1.symm
   ·have := getElemLt q1; simpa using this
  subst hqi
  rw [List.getElem?_map, Option.map_eq_some_iff] at q2
  obtain ⟨y, hy, rfl⟩ := q2
  exact ⟨y, hy, rfl, q3⟩
 have hopl : ∀ (i : Nat) (y : AnyOp), l[i]? = some y → ∃ o, ops[i]? = some o ∧ resO P pu M.nm ops o = some { y.o with nid := none } := by
  intro i y hy
  have hlt : i < ops.size := by rw [← hlen]; exact getElemLt hy
  refine ⟨ops[i], by simp [hlt], ?_⟩
  have := congrArg (fun l => l[i]?) hl
  simpa [hy, hlt] using this
 have hz : ∀ i x f, l[i]? = some x → fs[i]? = some f → (i, x.o, f) ∈ (List.range' 0 l.length).zip ((l.map (·.o)).zip fs) := by
  intro i x f hx hf
  refine List.mem_of_getElem? (i := i) ?_
  rw [List.getElem?_zip_eq_some]
  have := getElemLt hx
  refine ⟨by rw [List.getElem?_range' this]; simp, ?_⟩
  rw [List.getElem?_zip_eq_some]
  exact ⟨by simp [hx], hf⟩
 have hpairs : ∀ i j x y, l[i]? = some x → l[j]? = some y → i < j → Anc ops i j ∨ ∀ fx fy, fs[i]? = some fx → fs[j]? = some fy → Indep (i, x.o, fx) (j, y.o, fy) := by
  intro i j x y hx hy hij
  have hjl := getElemLt hy
  have h1 := List.all_eq_true.1 hp j (by simpa using hjl)
  simp only [hy] at h1
  have h2 := List.all_eq_true.1 h1 i (by simpa using hij)
  simp only [hx, Bool.or_eq_true, Bool.and_eq_true] at h2
  rcases h2 with h2 | ⟨h2, h3⟩
  ·exact .inl ((ancB_spec ha j y hy (by omega)).1 i (by simpa using h2))
  ·right
   intro fx fy hfx hfy
   refine ⟨h2, ?_⟩
   rcases h3 with (h3 | h3) | h3
   rotate_right
   ·exact .inr h3
   all_goals refine .inl ?_
   ·have := hd j y fy hy hfy i (by simpa using h3)
    rcases this with h4 | h4
    ·simpa [hfx] using h4
    ·omega
   ·have e1 := RunD.quiet _ _ _ hr _ (hz i x fx hx hfx) h3.1
    have e2 := RunD.quiet _ _ _ hr _ (hz j y fy hy hfy) h3.2
    simp only at e1 e2
    simp [disjB, hits, e1, e2]
 refine any_order hG hF hg (pu := pu) (M := M) ops.size _ _ σ S _ O a ?_ ?_ ?_ ?_ ?_ ?_ hr ?_ ?_
 ·simp [hlen, hfs]
 ·intro i
  constructor
  ·intro h
   have hi : i < ops.size := by
    rcases Nat.lt_or_ge i ops.size with h' | h'
    ·exact h'
    ·simp [Nat.not_lt.2 h'] at h
   have h1 : i < l.length := by omega
   have h2 : i < fs.length := by omega
   exact ⟨_, hz i l[i] fs[i] (by simp [h1]) (by simp [h2]), rfl⟩
  ·rintro ⟨x, hx, rfl⟩
   obtain ⟨y, hy, _⟩ := hget x hx
   have := getElemLt hy
   have h2 : x.1 < ops.size := by omega
   simp [h2]
 ·rw [List.pairwise_iff_getElem]
  intro i j hi hj hij
  obtain ⟨x, hx, hxo, hxf⟩ := hget _ (List.getElem_mem hi)
  obtain ⟨y, hy, hyo, hyf⟩ := hget _ (List.getElem_mem hj)
  have ei : (((List.range' 0 l.length).zip ((l.map (·.o)).zip fs))[i]).1 = i := by simp
  have ej : (((List.range' 0 l.length).zip ((l.map (·.o)).zip fs))[j]).1 = j := by simp
  rw [ei] at hx hxf
  rw [ej] at hy hyf
  rw [ei, ej]
  refine ⟨hij, (hpairs i j x y hx hy hij).imp (fun h => h) fun h => ?_⟩
  have := h _ _ hxf hyf
  rw [hxo, hyo] at this
  exact this
 ·intro x hx
  obtain ⟨y, hy, hyo, _⟩ := hget x hx
  obtain ⟨o, ho, hr'⟩ := hopl _ _ hy
  refine ⟨o, ho, by rw [← hyo]; exact hr', fun e he hb => ?_⟩
  exact (ancB_spec ha _ y hy (Array.getElem?_eq_some_iff.1 ho).1).2 o ho e he hb
 ·intro i j _ hj
  exfalso
  by_cases h : j < ops.size <;> simp [h] at hj
 ·intro i hi
  simpa using hi
 ·exact ⟨hsr.size, hsr.kept, hsr.fr.ext (ext_drew _ _ _), mat_drew hsr.mat⟩
 ·intro S' w' O' a' hev hsr' hdef
  exact hK τ S' w' O' a' hKτ (fun y hy => RunD.gh _ _ _ hr hy) ((evol_drew S w O).trans hev) hsr' hdef
theorem run_ops (hG : GOk P Γ) (hF : OpenF F) (hg : g = false → ∀ o ∈ ops, o.guard = none) {Q : Exit → Act → World → Prop} {K : St → Prop} :
  ∀ (l : List RO) (k : Nat) (σ : St) (S : Nat → Prop) (w : World) (O : OInfo) (a : Act), (∀ q r, l[q]? = some r → ∃ o, ops[k + q]? = some o ∧ resO P pu M.nm ops o = some { r with nid := none }) →
   runR Γ (EqFlat P) g base l σ K → SR M S w O σ a →
   (∀ τ S' w' O' a', K τ → (∀ y, ghO σ.hp = some y → ghO τ.hp = some y) → Evol S S' w w' O O' → SR M S' w' O' τ a' → a'.defers = a.defers → Q .normal a' w') →
   wpOpsIn F n P ops Q (List.range' k l.length) a w := by
 intro l
 induction l with
 | nil => intro k σ S w O a _ hrun hsr hK; exact hK σ S w O a hrun (fun _ h => h) (Evol.refl _ _ _) hsr rfl
 | cons r l ih =>
  intro k σ S w O a hops hrun hsr hK
  obtain ⟨hok, hrun⟩ := hrun
  rw [List.length_cons, List.range'_succ, wpOpsIn_cons]
  obtain ⟨o, ho, hro⟩ := hops 0 r rfl
  refine op_step hG hF ho hro (fun hgf => hg hgf o (Array.mem_of_getElem? ho)) hsr hok ?_
  intro S' w' O' a' hev hsr' hdef
  refine ih (k + 1) _ S' w' O' a' ?_ hrun hsr' fun τ S'' w'' O'' a'' hKτ hgh hev' hsr'' hdef' => hK τ S'' w'' O'' a'' hKτ (fun y hy => hgh y (step_gh hok hy)) (hev.trans hev') hsr'' (hdef'.trans hdef)
  intro q r' hr'
  have := hops (q + 1) r' (by simpa using hr')
  rwa [Nat.add_comm q 1, ← Nat.add_assoc] at this
def RegOps (P : Program) (pu : List Nat) (N : Nat × Nat) (ops : Array Oper) (l : List RO) : Prop :=
 ops.toList.map (fun o => resO P pu N ops o) = l.map fun x => some { x with nid := none }
theorem region_text (hG : GOk P Γ) (hF : OpenF F) {l : List RO} (hl : RegOps P pu M.nm ops l)
  (hg : g = false → ∀ o ∈ ops, o.guard = none) {Q : Exit → Act → World → Prop} {σ : St} {S : Nat → Prop} {w : World} {O : OInfo} {a : Act} {K : St → Prop} {id : Nat}
  (hrun : runR Γ (EqFlat P) g base l σ K) (hsr : SR M S w O σ a)
  (hK : ∀ τ S' w' O' a', K τ → (∀ y, ghO σ.hp = some y → ghO τ.hp = some y) → Evol S S' w w' O O' → SR M S' w' O' τ a' → a'.defers = a.defers → Q .normal a' w') : (Code.region id ops false).wpIn F n P Q a w := by
 have hlen : l.length = ops.size := by
  have := congrArg List.length hl
  simpa using this.symm
 refine wpIn_region ?_
 rw [List.range_eq_range', ← hlen]
 refine run_ops hG hF hg (pu := pu) (g := g) l 0 σ S w O a ?_ hrun hsr hK
 intro q r hq
 have hlt : q < ops.size := by rw [← hlen]; exact getElemLt hq
 refine ⟨ops[q], by simp [hlt], ?_⟩
 have := congrArg (fun l => l[q]?) hl
 simpa [hq, hlt] using this
end
end Go.Fam
namespace Go.Fam
def lkp : List (Nat × V) → Nat → V
 | [], _ => .u
 | (k, v) :: l, t => if t = k then v else lkp l t
mutual
def upV (n : Nat) : V → V
 | .ad id g off => if id < n then .u else .ad id g off
 | .rf id g off len es => if id < n then .u else .rf id g off len es
 | .mp id g => if id < n then .u else .mp id g
 | .it id g => if id < n then .u else .it id g
 | .ag cs => .ag (upL n cs)
 | .tp cs => .tp (upL n cs)
 | .fn f cs => .fn f (upL n cs)
 | .gv q v => .gv q (upV n v)
 | v => v
def upL (n : Nat) : List V → List V
 | [] => []
 | v :: vs => upV n v :: upL n vs
end
def upB (n : Nat) : Blk → Blk
 | .cells g vs => .cells g (upL n vs)
 | .map st ks vs => .map st ks (upL n vs)
 | .iter mid k l c => if mid < n then .dead 0 else .iter mid k l c
 | b => b
theorem upL_length (n : Nat) : ∀ vs : List V, (upL n vs).length = vs.length
 | [] => rfl
 | _ :: vs => by simp [upL, upL_length n vs]
mutual
theorem up_rep {S : Nat → Prop} {w : World} {O : OInfo} {n : Nat} : ∀ (v : V) (c : Value), Rep S w O v c → Rep S w (fromO O n) (upV n v) c
 | .u, _, _ => by simp [upV, Rep]
 | .b x, c, h => by simpa [upV, Rep] using h
 | .i x, c, h => by simpa [upV, Rep] using h
 | .z es, c, h => by simpa [upV, Rep] using h
 | .sl es rows, c, h => by simpa only [upV, Rep] using h
 | .sx es rows, c, h => by simpa only [upV, Rep] using h
 | .pa cs, c, h => by simpa only [upV, Rep] using h
 | .pn, c, h => by simpa [upV, Rep] using h
 | .yl l, c, h => by simpa [upV, Rep] using h
 | .w k n, c, h => by simpa [upV, Rep] using h
 | .pm st ks vs, c, h => by simpa only [upV, Rep] using h
 | .fb f bs, c, h => by simpa only [upV, Rep] using h
 | .ag cs, c, h => by
  simp only [upV, Rep] at h ⊢
  obtain ⟨ccs, hc, hn, hr⟩ := h
  exact ⟨ccs, hc, by rw [upL_length]; exact hn, upL_rep cs _ hr⟩
 | .tp cs, c, h => by
  simp only [upV, Rep] at h ⊢
  obtain ⟨ccs, hc, hn, hr⟩ := h
  exact ⟨ccs, hc, by rw [upL_length]; exact hn, upL_rep cs _ hr⟩
 | .fn f cs, c, h => by
  simp only [upV, Rep] at h ⊢
  obtain ⟨ccs, hc, hn, hr⟩ := h
  exact ⟨ccs, hc, by rw [upL_length]; exact hn, upL_rep cs _ hr⟩
 | .gv q v, c, h => by
  simp only [upV, Rep] at h ⊢
  exact ⟨fun hq => up_rep v c (h.1 hq), h.2⟩
 | .ad id g off, c, h => by
  simp only [upV]
  split
  ·simp [Rep]
  ·rename_i hl; simpa only [Rep, fromO, if_neg hl] using h
 | .rf id g off len es, c, h => by
  simp only [upV]
  split
  ·simp [Rep]
  ·rename_i hl; simpa only [Rep, fromO, if_neg hl] using h
 | .mp id g, c, h => by
  simp only [upV]
  split
  ·simp [Rep]
  ·rename_i hl; simpa only [Rep, fromO, if_neg hl] using h
 | .it id g, c, h => by
  simp only [upV]
  split
  ·simp [Rep]
  ·rename_i hl; simpa only [Rep, fromO, if_neg hl] using h
theorem upL_rep {S : Nat → Prop} {w : World} {O : OInfo} {n : Nat} : ∀ (vs : List V) (cs : List Value), RepL S w O vs cs → RepL S w (fromO O n) (upL n vs) cs
 | [], _, _ => by simp [upL, RepL]
 | _ :: _, [], h => by simp [RepL] at h
 | v :: vs, c :: cs, h => by
  simp only [upL, RepL] at h ⊢
  exact ⟨up_rep v c h.1, upL_rep vs cs h.2⟩
end
def hpF (n : Nat) (hp : List Blk) : List Blk := (hp.take n).map (fun _ => .hole) ++ (hp.drop n).map (upB n)
mutual
def cutV (hp : List Blk) (n : Nat) : V → V
 | .ad id g off => if id < n then .ad id g off else vw (hpF n hp) 8 (.ad id g off)
 | .rf id g off len es => if id < n then .rf id g off len es else vw (hpF n hp) 8 (.rf id g off len es)
 | .mp id g => if id < n then .mp id g else vw (hpF n hp) 8 (.mp id g)
 | .it id g => if id < n then .it id g else .u
 | .ag cs => .ag (cutL hp n cs)
 | .tp cs => .tp (cutL hp n cs)
 | .fn f cs => .fn f (cutL hp n cs)
 | .gv q v => .gv q (cutV hp n v)
 | v => v
def cutL (hp : List Blk) (n : Nat) : List V → List V
 | [] => []
 | v :: vs => cutV hp n v :: cutL hp n vs
end
def cutB (hp : List Blk) (n : Nat) : Blk → Blk
 | .cells g vs => .cells g (cutL hp n vs)
 | .map st ks vs => .map st ks (cutL hp n vs)
 | .iter mid k l c => if mid < n then .iter mid k l c else .dead 0
 | b => b
theorem cutL_length (hp : List Blk) (n : Nat) : ∀ vs : List V, (cutL hp n vs).length = vs.length
 | [] => rfl
 | _ :: vs => by simp [cutL, cutL_length hp n vs]
theorem fromO_some {O : OInfo} {n id : Nat} {x : Nat × Option Nat} (h : fromO O n id = some x) : n ≤ id ∧ O id = some x := by
 unfold fromO at h
 split at h
 ·cases h
 ·rename_i hl; exact ⟨by omega, h⟩
theorem restO_some {O : OInfo} {n id : Nat} {x : Nat × Option Nat} (h : restO O n id = some x) : id < n ∧ O id = some x := by
 unfold restO at h
 split at h
 ·rename_i hl; exact ⟨hl, h⟩
 ·cases h
theorem from_mat {S : Nat → Prop} {w : World} {O : OInfo} {hp : List Blk} (h : Mat S w O hp) (n : Nat) : Mat S w (fromO O n) (hpF n hp) := by
 have hx : Ext S S w w O O := Ext.refl S w O
 refine ⟨h.lt, fun id g b ho => h.own id g b (fromO_some ho).2, fun id id' g g' b h1 h2 => h.inj id id' g g' b (fromO_some h1).2 (fromO_some h2).2, fun id g ob ho => ?_⟩
 obtain ⟨hl, ho⟩ := fromO_some ho
 have hb := h.blk id g ob ho
 have hlt : id < hp.length := by
  rcases Nat.lt_or_ge id hp.length with h' | h'
  ·exact h'
  ·rw [List.getElem?_eq_none h'] at hb; exact hb.elim
 have hg : (hpF n hp)[id]? = (hp[id]?).map (upB n) := by
  unfold hpF
  rw [List.getElem?_append_right (by simp; omega)]
  simp only [List.length_map, List.length_take, List.getElem?_map, List.getElem?_drop]
  congr 2
  omega
 rw [hg]
 cases hid : hp[id]? with
 | none => rw [hid] at hb; exact hb.elim
 | some b =>
  rw [hid] at hb
  cases b with
  | hole => exact hb.elim
  | gh c y => exact hb.elim
  | dead g' => exact hb
  | map st ks vs =>
   simp only [BlkOk, Option.map_some, upB] at hb ⊢
   obtain ⟨h0, b, es, hob, hh, h1, h3, h4, h5⟩ := hb
   exact ⟨h0, b, es, hob, hh, h1, upL_rep _ _ h3, by rw [upL_length]; exact h4, h5⟩
  | iter mid k l c =>
   simp only [BlkOk, Option.map_some, upB] at hb ⊢
   obtain ⟨h0, b, m, seen, hob, hh, h1, h2⟩ := hb
   by_cases hmid : mid < n
   ·rw [if_pos hmid]; exact h0.symm
   ·rw [if_neg hmid]
    refine ⟨h0, b, m, seen, hob, hh, ?_, h2⟩
    have := up_rep (n := n) (.mp mid 0) _ h1
    simpa only [upV, if_neg hmid] using this
  | cells g' vs =>
   simp only [BlkOk, Option.map_some, upB] at hb ⊢
   refine ⟨hb.1, ?_⟩
   cases ob with
   | none => simp only at hb ⊢; rw [hb.2]; rfl
   | some b =>
    obtain ⟨cur, e, hh, hrl, h1⟩ := hb.2
    exact ⟨cur, e, hh, upL_rep _ _ hrl, h1⟩
mutual
theorem cut_rep {S : Nat → Prop} {w : World} {O : OInfo} {hp : List Blk} (hm : Mat S w O hp) (n : Nat) : ∀ (v : V) (c : Value), Rep S w O v c → Rep (cutS S O n) w (restO O n) (cutV hp n v) c
 | .u, _, _ => by simp [cutV, Rep]
 | .b x, c, h => by simpa [cutV, Rep] using h
 | .i x, c, h => by simpa [cutV, Rep] using h
 | .z es, c, h => by simpa [cutV, Rep] using h
 | .sl es rows, c, h => by
  have h' : Rep S w noO (.sl es rows) c := by simpa only [Rep] using h
  simpa only [cutV] using Rep.ext ⟨fun k hk => ⟨.inl hk, rfl⟩, fun _ _ _ h => by cases h⟩ _ _ h'
 | .sx es rows, c, h => by
  have h' : Rep S w noO (.sx es rows) c := by simpa only [Rep] using h
  simpa only [cutV] using Rep.ext ⟨fun k hk => ⟨.inl hk, rfl⟩, fun _ _ _ h => by cases h⟩ _ _ h'
 | .pa cs, c, h => by
  have h' : Rep S w noO (.pa cs) c := by simpa only [Rep] using h
  simpa only [cutV] using Rep.ext ⟨fun k hk => ⟨.inl hk, rfl⟩, fun _ _ _ h => by cases h⟩ _ _ h'
 | .pn, c, h => by simpa [cutV, Rep] using h
 | .yl l, c, h => by simpa [cutV, Rep] using h
 | .w k n, c, h => by simpa [cutV, Rep] using h
 | .fb f bs, c, h => by
  have h' : Rep S w noO (.fb f bs) c := by simpa only [Rep] using h
  simpa only [cutV] using Rep.ext ⟨fun k hk => ⟨.inl hk, rfl⟩, fun _ _ _ h => by cases h⟩ _ _ h'
 | .pm st ks vs, c, h => by
  have h' : Rep S w noO (.pm st ks vs) c := by simpa only [Rep] using h
  simpa only [cutV] using Rep.ext ⟨fun k hk => ⟨.inl hk, rfl⟩, fun _ _ _ h => by cases h⟩ _ _ h'
 | .ag cs, c, h => by
  simp only [cutV, Rep] at h ⊢
  obtain ⟨ccs, hc, hn, hr⟩ := h
  exact ⟨ccs, hc, by rw [cutL_length]; exact hn, cutL_rep hm n cs _ hr⟩
 | .tp cs, c, h => by
  simp only [cutV, Rep] at h ⊢
  obtain ⟨ccs, hc, hn, hr⟩ := h
  exact ⟨ccs, hc, by rw [cutL_length]; exact hn, cutL_rep hm n cs _ hr⟩
 | .fn f cs, c, h => by
  simp only [cutV, Rep] at h ⊢
  obtain ⟨ccs, hc, hn, hr⟩ := h
  exact ⟨ccs, hc, by rw [cutL_length]; exact hn, cutL_rep hm n cs _ hr⟩
 | .gv q v, c, h => by
  simp only [cutV, Rep] at h ⊢
  exact ⟨fun hq => cut_rep hm n v c (h.1 hq), h.2⟩
 | .ad id g off, c, h => by
  simp only [cutV]
  split
  ·rename_i hl; simpa only [Rep, restO, if_pos hl] using h
  ·rename_i hl
   have h' : Rep S w (fromO O n) (.ad id g off) c := by simpa only [Rep, fromO, if_neg hl] using h
   exact rep_noO (vw_rep (from_mat hm n) 8 _ _ h')
 | .rf id g off len es, c, h => by
  simp only [cutV]
  split
  ·rename_i hl; simpa only [Rep, restO, if_pos hl] using h
  ·rename_i hl
   have h' : Rep S w (fromO O n) (.rf id g off len es) c := by simpa only [Rep, fromO, if_neg hl] using h
   exact rep_noO (vw_rep (from_mat hm n) 8 _ _ h')
 | .mp id g, c, h => by
  simp only [cutV]
  split
  ·rename_i hl; simpa only [Rep, restO, if_pos hl] using h
  ·rename_i hl
   have h' : Rep S w (fromO O n) (.mp id g) c := by simpa only [Rep, fromO, if_neg hl] using h
   exact rep_noO (vw_rep (from_mat hm n) 8 _ _ h')
 | .it id g, c, h => by
  simp only [cutV]
  split
  ·rename_i hl; simpa only [Rep, restO, if_pos hl] using h
  ·simp [Rep]
theorem cutL_rep {S : Nat → Prop} {w : World} {O : OInfo} {hp : List Blk} (hm : Mat S w O hp) (n : Nat) : ∀ (vs : List V) (cs : List Value), RepL S w O vs cs → RepL (cutS S O n) w (restO O n) (cutL hp n vs) cs
 | [], _, _ => by simp [cutL, RepL]
 | _ :: _, [], h => by simp [RepL] at h
 | v :: vs, c :: cs, h => by
  simp only [cutL, RepL] at h ⊢
  exact ⟨cut_rep hm n v c h.1, cutL_rep hm n vs cs h.2⟩
end
theorem cut_mat {S : Nat → Prop} {w : World} {O : OInfo} {hp : List Blk} (h : Mat S w O hp) (n : Nat) : Mat (cutS S O n) w (restO O n) ((hp.take n).map (cutB hp n)) := by
 refine ⟨fun k hk => ?_, fun id g b ho => ?_, fun id id' g g' b h1 h2 => h.inj id id' g g' b (restO_some h1).2 (restO_some h2).2, fun id g ob ho => ?_⟩
 ·rcases hk with hk | ⟨id, g, ho⟩
  ·exact h.lt k hk
  ·exact (h.own id g k (fromO_some ho).2).1
 ·obtain ⟨hl, ho⟩ := restO_some ho
  refine ⟨(h.own id g b ho).1, ?_⟩
  rintro (hS | ⟨id', g', ho'⟩)
  ·exact (h.own id g b ho).2 hS
  ·have := h.inj id id' g g' b ho (fromO_some ho').2
   have := (fromO_some ho').1
   omega
 obtain ⟨hl, ho⟩ := restO_some ho
 have hb := h.blk id g ob ho
 rw [List.getElem?_map, List.getElem?_take, if_pos hl]
 cases hid : hp[id]? with
 | none => rw [hid] at hb; exact hb.elim
 | some b =>
  rw [hid] at hb
  cases b with
  | hole => exact hb.elim
  | gh c y => exact hb.elim
  | dead g' => exact hb
  | map st ks vs =>
   simp only [Option.map_some, cutB, BlkOk] at hb ⊢
   obtain ⟨h0, b, es, hob, hh, h1, h3, h4, h5⟩ := hb
   exact ⟨h0, b, es, hob, hh, h1, cutL_rep h n _ _ h3, by rw [cutL_length]; exact h4, h5⟩
  | iter mid k l c =>
   simp only [Option.map_some, cutB, BlkOk] at hb ⊢
   obtain ⟨h0, b, m, seen, hob, hh, h1, h2⟩ := hb
   by_cases hmid : mid < n
   ·rw [if_pos hmid]
    refine ⟨h0, b, m, seen, hob, hh, ?_, h2⟩
    have := cut_rep h n (.mp mid 0) _ h1
    simpa only [cutV, if_pos hmid] using this
   ·rw [if_neg hmid]; exact h0.symm
  | cells g' vs =>
   simp only [Option.map_some, cutB, BlkOk] at hb ⊢
   refine ⟨hb.1, ?_⟩
   cases ob with
   | none => simp only at hb ⊢; rw [hb.2]; rfl
   | some b =>
    obtain ⟨cur, e, hh, hrl, h1⟩ := hb.2
    exact ⟨cur, e, hh, cutL_rep h n _ _ hrl, h1⟩
theorem Evol.cut {S S' : Nat → Prop} {w w' : World} {O : OInfo} (h : Evol S S' w w' noO O) (n : Nat) : Evol S (cutS S' O n) w w' noO (restO O n) := by
 refine ⟨⟨fun k hk => ⟨.inl (h.ext.keep k hk).1, (h.ext.keep k hk).2⟩, fun _ _ _ h => (by cases h)⟩, h.os, h.tape, h.output, h.size, h.fz, h.old, fun k ⟨id, g, ho⟩ => h.fresh k ⟨id, g, (restO_some ho).2⟩, ?_⟩
 rintro k (hk | ⟨id, g, ho⟩)
 ·exact h.grow k hk
 ·exact .inr (h.fresh k ⟨id, g, (fromO_some ho).2⟩)
theorem Evol.less {S S' : Nat → Prop} {w w' : World} {O O' : OInfo} (h : Evol S S' w w' noO O) (ho : ∀ n, Own O' n → Own O n) : Evol S S' w w' noO O' :=
 ⟨⟨h.ext.keep, fun _ _ _ h => by cases h⟩, h.os, h.tape, h.output, h.size, h.fz, h.old, fun n hn => h.fresh n (ho n hn), h.grow⟩
def cutH (n : Nat) (hp : List Blk) : List Blk := (hp.take n).map (cutB hp n)
def sw (i j : Nat) (k : Nat) : Nat := if k = i then j else if k = j then i else k
mutual
def renV (f : Nat → Nat) : V → V
 | .ad id g off => .ad (f id) g off
 | .rf id g off len es => .rf (f id) g off len es
 | .mp id g => .mp (f id) g
 | .it id g => .it (f id) g
 | .ag cs => .ag (renL f cs)
 | .tp cs => .tp (renL f cs)
 | .fn g cs => .fn g (renL f cs)
 | .gv q v => .gv q (renV f v)
 | v => v
def renL (f : Nat → Nat) : List V → List V
 | [] => []
 | v :: vs => renV f v :: renL f vs
end
def renB (f : Nat → Nat) : Blk → Blk
 | .cells g vs => .cells g (renL f vs)
 | .map st ks vs => .map st ks (renL f vs)
 | .iter mid n l c => .iter (f mid) n l c
 | b => b
def swH (i j : Nat) (hp : List Blk) : List Blk := match hp[i]?, hp[j]? with
 | some a, some b => ((hp.set i b).set j a).map (renB (sw i j))
 | _, _ => []
inductive It where | r (o : RO) | w (o : RO) | h (o : RO) | y (lo d : Nat) (o : RO)
inductive RC where
 | itm (l : List It)
 | skip | reg (g : Bool) (l : List RO) | any (g : Bool) (m : Nat) (l : List AnyOp) | seq (a b : RC) | mid (a b : RC) | cond (c : Od) (a b : RC)
 | block (id : Nat) (a : RC) | loop (l : List Nat) (d : Option Nat) (a : RC) | exit (id : Nat) | ret
 | keep (l : List Nat) (a : RC) | drp (n : Nat) (a : RC) | own (t es : Nat) (a : RC) | ownc (t off es : Nat) (a : RC) | owni (t i off es : Nat) (a : RC)
 | nxt (d m it : Nat) | rfn (f : Od) (ps : List Nat) (lo : Nat) (b a : RC) | yrg (g : Bool) (l1 : List RO) (y : RO) (ks : List Nat) (l2 : List RO)
 | swp (i j : Nat) (a : RC) | crl (g : Bool) (l1 : List RO) (y : RO) (l2 : List RO) | hcl (g : Bool) (l1 : List RO) (y : RO) (l2 : List RO) | hca (g : Bool) (m1 : Nat) (l1 : List AnyOp) (y : AnyOp) (m2 : Nat) (l2 : List AnyOp) | no
 | yrx (g : Bool) (m1 : Nat) (l1 : List AnyOp) (y : AnyOp) (m2 : Nat) (l2 : List AnyOp)
 | yra (g : Bool) (m1 : Nat) (l1 : List AnyOp) (y : AnyOp) (ks : List Nat) (m2 : Nat) (l2 : List AnyOp)
 | owng (t es gs : Nat) (a : RC) | rnl (g : Bool) (l1 : List RO) (y : RO) (l2 : List RO) | scp (a : RC) | dum (a : RC) | yrh (g : Bool) (l1 : List RO) (y : RO) (l2 : List RO) | ycl (lo : Nat) (g : Bool) (l1 : List RO) (y : RO) (l2 : List RO) | rfh (f : Od) (ps : List Nat) (lo zl : Nat) (b a : RC)
instance : Inhabited RC := ⟨.skip⟩
def kp (l : List Nat) (d : Option Nat) (σ : St) : St := match d with
 | none => ⟨lkp (l.map fun t => (t, σ.fr t)), σ.hp⟩
 | some n => ⟨lkp (l.map fun t => (t, cutV σ.hp n (σ.fr t))), cutH n σ.hp⟩
def thenQ (K : St → Prop) (Q : Exit → St → Prop) : Exit → St → Prop
 | .normal, σ => K σ
 | e, σ => Q e σ
def blockQ (id : Nat) (Q : Exit → St → Prop) : Exit → St → Prop
 | .exit id', σ => if id' = id then Q .normal σ else Q (.exit id') σ
 | e, σ => Q e σ
def rnQ (K : St → Prop) : Exit → St → Prop
 | .normal, σ => K σ
 | _, _ => False
def rndQ (Q : Exit → St → Prop) (lo : Nat) (fr0 : Nat → V) (I : List Blk → Prop) : Exit → St → Prop
 | .normal, σ => I (cutH lo σ.hp)
 | .exit id, σ => Q (.exit id) ⟨fr0, cutH lo σ.hp⟩
 | .ret, σ => Q .ret ⟨fr0, cutH lo σ.hp⟩
 | _, _ => False
def exOf : Option Nat → Exit | some id => .exit id | none => .ret
def cdOf : Option Nat → Code | some id => .exit id | none => .ret
def updL (fr : Nat → V) : List Nat → List V → Nat → V
 | p :: ps, v :: vs => updL (upd fr (some p) v) ps vs
 | _, _ => fr
def rndH (Q : Exit → St → Prop) (lo zl : Nat) (fr0 : Nat → V) (z : List V) (al I : List V → Prop) : Exit → St → Prop
 | .normal, σ => ∃ bv, cutH (lo + zl) σ.hp = .hole :: (bv ++ z).map vB ∧ bv.length + 1 = lo ∧ al bv ∧ I bv
 | .exit id, σ => ∃ bv, cutH (lo + zl) σ.hp = .hole :: (bv ++ z).map vB ∧ bv.length + 1 = lo ∧ al bv ∧ Q (.exit id) ⟨fr0, .hole :: bv.map vB⟩
 | .ret, σ => ∃ bv, cutH (lo + zl) σ.hp = .hole :: (bv ++ z).map vB ∧ bv.length + 1 = lo ∧ al bv ∧ Q .ret ⟨fr0, .hole :: bv.map vB⟩
 | _, _ => False
def noGo (Q : Exit → St → Prop) : Exit → St → Prop
 | .goto _, _ => False
 | e, σ => Q e σ
def sfree : V → Bool
 | .yl _ => true
 | v => flat v
def yres (gd : Option (Nat × Bool)) (b : Bool) : V := match gd with | none => .b b | some _ => .gv true (.b b)
def slots (l : List Nat) (fr : Nat → V) : List (Nat × V) := l.map fun t => (t, fr t)
def drpS (d : Nat) (σ : St) : St := ⟨fun t => cutV σ.hp d (σ.fr t), cutH d σ.hp⟩
def rfA : V → Option (Nat × List V × Bool) | .fn gf caps => some (gf, caps, false) | .fb gf bs => some (gf, bs, true) | _ => none
def rfG (caps : List V) (sd : Bool) (l : Nat) : List V := if sd then caps ++ [.yl l] else .yl l :: caps
def runI (Γ : Gam) (E : TypeId → Nat → Prop) : List It → St → (St → Prop) → Prop
 | [], σ, K => K σ
 | .r o :: l, σ, K => (step Γ E true 0 o σ).1 ∧ runI Γ E l (step Γ E true 0 o σ).2 K
 | .w o :: l, σ, K => match condB σ.fr o.gd with
  | none => False
  | some false => runI Γ E l ⟨upd σ.fr o.dst (.gv false .u), σ.hp⟩ K
  | some true => (step Γ E true 0 o σ).1 ∧ runI Γ E l (step Γ E true 0 o σ).2 K
 | .h o :: l, σ, K => match condB σ.fr o.gd with
  | none => False
  | some false => runI Γ E l ⟨upd σ.fr o.dst (.gv false .u), σ.hp⟩ K
  | some true => match o.x with
   | .o f args => match opv true σ.fr f with
    | .fn gf caps => needW true o σ.fr ∧ (Γ.h gf (args.map (opv true σ.fr) ++ caps) σ.hp).1 ∧
      ∀ r hp', (Γ.h gf (args.map (opv true σ.fr) ++ caps) σ.hp).2 r hp' → runI Γ E l ⟨upd σ.fr o.dst r, hp'⟩ K
    | _ => False
   | _ => False
 | .y lo d o :: l, σ, K => match condB σ.fr o.gd with
  | none => False
  | some false => runI Γ E l ⟨upd σ.fr o.dst (.gv false .u), σ.hp⟩ K
  | some true => match o.x with
   | .o f args => match opv true (drpS d σ).fr f with
    | .fn gf caps => needW true o (drpS d σ).fr ∧ lo ≤ (drpS d σ).hp.length ∧ (Γ.y gf Γ.al (args.map (opv true (drpS d σ).fr) ++ caps) (drpS d σ).hp).1 ∧
      ∀ r hp', (Γ.y gf Γ.al (args.map (opv true (drpS d σ).fr) ++ caps) (drpS d σ).hp).2 r hp' → runI Γ E l ⟨upd (drpS d σ).fr o.dst r, hp'⟩ K
    | _ => False
   | _ => False
def wpR (Γ : Gam) (E : TypeId → Nat → Prop) : RC → (Exit → St → Prop) → St → Prop
 | .skip, Q, σ => Q .normal σ
 | .no, _, _ => False
 | .reg g l, Q, σ => runR Γ E g 0 l σ (Q .normal)
 | .any g m l, Q, σ => runX Γ E g σ.hp.length l [] ⟨σ.fr, σ.hp ++ List.replicate m .hole⟩ (Q .normal)
 | .seq a b, Q, σ => wpR Γ E a (thenQ (wpR Γ E b Q) Q) σ
 | .mid a b, Q, σ => ∃ M : St → Prop, wpR Γ E a (thenQ M Q) σ ∧ ∀ σ', M σ' → wpR Γ E b Q σ'
 | .cond c a b, Q, σ => match evO σ.fr c with
  | .b t => (t = true → wpR Γ E a Q σ) ∧ (t = false → wpR Γ E b Q σ)
  | _ => False
 | .block id a, Q, σ => wpR Γ E a (blockQ id Q) σ
 | .loop l d a, Q, σ => ∃ I : Nat → St → Prop, (∃ k, I k (kp l d σ)) ∧ ∀ k σ', I k σ' → wpR Γ E a (thenQ (fun σ'' => ∃ j, j < k ∧ I j (kp l d σ'')) Q) σ'
 | .exit id, Q, σ => Q (.exit id) σ
 | .ret, Q, σ => Q .ret σ
 | .keep l a, Q, σ => wpR Γ E a Q ⟨lkp (l.map fun t => (t, σ.fr t)), σ.hp⟩
 | .drp n a, Q, σ => wpR Γ E a Q ⟨fun t => cutV σ.hp n (σ.fr t), cutH n σ.hp⟩
 | .owng t es gs a, Q, σ => match σ.fr t with
  | .z _ => wpR Γ E a Q ⟨upd σ.fr (some t) (.rf σ.hp.length gs 0 0 es), σ.hp ++ [.cells gs []]⟩
  | _ => False
 | .own t es a, Q, σ => match σ.fr t with
  | .z _ => wpR Γ E a Q ⟨upd σ.fr (some t) (.rf σ.hp.length 0 0 0 es), σ.hp ++ [.cells 0 []]⟩
  | _ => False
 | .ownc t off es a, Q, σ => match σ.fr t with
  | .ad id g o => match σ.hp[id]? with
   | some (.cells g' vs) => match vs[o + off]? with
    | some (.z _) => g' = g ∧ wpR Γ E a Q ⟨σ.fr, σ.hp.set id (.cells g (vs.set (o + off) (.rf σ.hp.length 0 0 0 es))) ++ [.cells 0 []]⟩
    | _ => False
   | _ => False
  | _ => False
 | .owni t i off es a, Q, σ => match σ.fr t, σ.fr i with
  | .rf id g o _ es', .i k => match σ.hp[id]? with
   | some (.cells g' vs) => match vs[o + k.toNat * es' + off]? with
    | some (.z _) => g' = g ∧ wpR Γ E a Q ⟨σ.fr, σ.hp.set id (.cells g (vs.set (o + k.toNat * es' + off) (.rf σ.hp.length 0 0 0 es))) ++ [.cells 0 []]⟩
    | _ => False
   | _ => False
  | _, _ => False
 | .nxt d m it, Q, σ => match σ.fr it with
  | .it id g => match σ.hp[id]? with
   | some (.iter mid n left _) => match σ.hp[mid]? with
    | some (.map _ ks _) => g = 0 ∧ ks.length = n ∧ (left = [] → Q .normal ⟨upd (upd σ.fr (some d) .u) (some m) (.b false), σ.hp⟩) ∧
      ∀ j ∈ left, Q .normal ⟨upd (upd σ.fr (some d) .u) (some m) (.b true), σ.hp.set id (.iter mid n (left.erase j) (some j))⟩
    | _ => False
   | _ => False
  | _ => False
 | .rfn f ps lo b a, Q, σ => match evO σ.fr f with
  | .fn gf caps => match Γ (2000000 + gf) (caps.map (vw σ.hp 8)) with
   | (ok, .sl 0 ys) => gf < 1000000 ∧ ok ∧ hasRefL caps = false ∧ (∀ x ∈ ys, x.length = ps.length) ∧ ∃ I : Nat → List Blk → Prop, I 0 (cutH lo σ.hp) ∧
     (∀ k x hp, ys[k]? = some x → I k hp → wpR Γ E b (rnQ (wpR Γ E a (rndQ Q lo (fun t => cutV σ.hp lo (σ.fr t)) (I (k + 1))))) ⟨updL (fun t => cutV σ.hp lo (σ.fr t)) ps x, hp⟩) ∧
     ∀ hp, I ys.length hp → Q .normal ⟨fun t => cutV σ.hp lo (σ.fr t), hp⟩
   | _ => False
  | _ => False
 | .itm l, Q, σ => runI Γ E l σ (Q .normal)
 | .rnl g l1 y l2, Q, σ => runR Γ E g 0 l1 σ fun σ1 => match y.x with
  | .q (.len a) => match opv g σ1.fr a with
   | .sl _ rows => needW g y σ1.fr ∧ ∀ b, (rows ≠ [] → b = false) → runR Γ E g 0 l2 ⟨upd σ1.fr y.dst (.b b), σ1.hp⟩ (Q .normal)
   | .z _ => needW g y σ1.fr ∧ ∀ b, runR Γ E g 0 l2 ⟨upd σ1.fr y.dst (.b b), σ1.hp⟩ (Q .normal)
   | _ => False
  | _ => False
 | .scp a, Q, σ => wpR Γ E a (noGo Q) σ
 | .dum a, Q, σ => wpR Γ E a Q ⟨σ.fr, σ.hp ++ [.hole]⟩
 | .yrh g l1 y l2, Q, σ => runR Γ E g 0 l1 σ fun σ1 => match condB σ1.fr y.gd with
  | none => False
  | some false => runR Γ E g 0 l2 ⟨upd σ1.fr y.dst (.gv false .u), σ1.hp⟩ (Q .normal)
  | some true => match y.x with
   | .o f args => match opv g σ1.fr f, σ1.hp with
    | .yl l, .gh caps (some ((.b true :: bv) :: [.tp x, .tp z] :: rest)) :: tl => needW g y σ1.fr ∧ caps[0]? = some (.yl l) ∧ args.map (opv g σ1.fr) = x ∧ tl = (bv ++ z).map vB ∧
      ∀ b bv', Γ.al bv' → runR Γ E g 0 l2 ⟨upd σ1.fr y.dst (yres y.gd b), .gh caps (some ((.b b :: bv') :: if b then rest else [])) :: (bv' ++ z).map vB⟩ (Q .normal)
    | _, _ => False
   | _ => False
 | .ycl lo g l1 y l2, Q, σ => runR Γ E g 0 l1 σ fun σ1 => match y.x with
  | .o f args => match opv g σ1.fr f with
   | .fn gf caps => needW g y σ1.fr ∧ lo ≤ σ1.hp.length ∧ (Γ.y gf Γ.al (args.map (opv g σ1.fr) ++ caps) σ1.hp).1 ∧
     ∀ r hp', (Γ.y gf Γ.al (args.map (opv g σ1.fr) ++ caps) σ1.hp).2 r hp' → runR Γ E g 0 l2 ⟨upd σ1.fr y.dst r, hp'⟩ (Q .normal)
   | _ => False
  | _ => False
 | .rfh f ps lo zl b a, Q, σ => match rfA (cutV σ.hp lo (evO σ.fr f)) with
  | some (gf, caps, sd) => ∃ (al : List V → Prop) (ys : Nat → List (List V × List V)) (bv0 : List V) (I : Nat → List V → Prop), cutH lo σ.hp = .hole :: bv0.map vB ∧ I 0 bv0 ∧
    (∀ k bv, I k bv → al bv) ∧ (∀ bv, al bv → bv.length + 1 = lo ∧ ∀ hp, (bv.map vB).map (cutB hp lo) = bv.map vB) ∧
    (∀ l, (Γ.y gf al (rfG caps sd l) (.gh (.yl l :: caps) (some ((.b true :: bv0) :: (ys l).map fun y => gyE y.1 y.2)) :: bv0.map vB)).1 ∧
     ∀ r hp', (Γ.y gf al (rfG caps sd l) (.gh (.yl l :: caps) (some ((.b true :: bv0) :: (ys l).map fun y => gyE y.1 y.2)) :: bv0.map vB)).2 r hp' →
      ∃ (b : Bool) (bv' : List V) (rest : List (List V)) (tl : List Blk), hp' = .gh (.yl l :: caps) (some ((.b b :: bv') :: rest)) :: (bv'.map vB ++ tl) ∧ (b = true → rest = []) ∧ al bv') ∧
    (∀ l k x z bv, (ys l)[k]? = some (x, z) → I k bv → x.length = ps.length ∧ z.length ≤ zl ∧
     wpR Γ E b (rnQ (wpR Γ E a (rndH Q lo zl (fun t => cutV σ.hp lo (σ.fr t)) z al (I (k + 1))))) ⟨updL (fun t => cutV σ.hp lo (σ.fr t)) ps x, .hole :: (bv ++ z).map vB⟩) ∧
    ∀ l bv, I (ys l).length bv → Q .normal ⟨fun t => cutV σ.hp lo (σ.fr t), .hole :: bv.map vB⟩
  | none => False
 | .swp i j a, Q, σ => i < σ.hp.length ∧ j < σ.hp.length ∧ wpR Γ E a Q ⟨fun t => renV (sw i j) (σ.fr t), swH i j σ.hp⟩
 | .crl g l1 y l2, Q, σ => runR Γ E g 0 l1 σ fun σ1 => match y.x with
  | .o f args => match opv g σ1.fr f with
   | .fn gf caps => needW g y σ1.fr ∧ gf < 1000000 ∧ hasRefL (args.map (opv g σ1.fr) ++ caps) = false ∧ (Γ (3000000 + gf) ((args.map (opv g σ1.fr) ++ caps).map (vw σ1.hp 8))).1 ∧
     ∀ r bs, (Γ (4000000 + gf) (.tp (r :: bs) :: (args.map (opv g σ1.fr) ++ caps).map (vw σ1.hp 8))).1 →
      runR Γ E g 0 l2 ⟨upd σ1.fr y.dst (shV σ1.hp.length r), σ1.hp ++ (bs.map vB).map (shB σ1.hp.length)⟩ (Q .normal)
   | _ => False
  | _ => False
 | .hcl g l1 y l2, Q, σ => runR Γ E g 0 l1 σ fun σ1 => match y.x with
  | .o f args => match opv g σ1.fr f with
   | .fn gf caps => needW g y σ1.fr ∧ (Γ.h gf (args.map (opv g σ1.fr) ++ caps) σ1.hp).1 ∧
     ∀ r hp', (Γ.h gf (args.map (opv g σ1.fr) ++ caps) σ1.hp).2 r hp' → runR Γ E g 0 l2 ⟨upd σ1.fr y.dst r, hp'⟩ (Q .normal)
   | _ => False
  | _ => False
 | .hca g m1 l1 y m2 l2, Q, σ => runX Γ E g σ.hp.length l1 [] ⟨σ.fr, σ.hp ++ List.replicate m1 .hole⟩ fun σ1 => match y.o.x with
  | .o f args => match opv g σ1.fr f with
   | .fn gf caps => needW g y.o σ1.fr ∧ (Γ.h gf (args.map (opv g σ1.fr) ++ caps) σ1.hp).1 ∧
     ∀ r hp', (Γ.h gf (args.map (opv g σ1.fr) ++ caps) σ1.hp).2 r hp' → runX Γ E g hp'.length l2 (List.replicate (l1.length + 1) ⟨none, []⟩) ⟨upd σ1.fr y.o.dst r, hp' ++ List.replicate m2 .hole⟩ (Q .normal)
   | _ => False
  | _ => False
 | .yrx g m1 l1 y m2 l2, Q, σ => runX Γ E g σ.hp.length l1 [] ⟨σ.fr, σ.hp ++ List.replicate m1 .hole⟩ fun σ1 => match y.o.x with
  | .o f args => match opv g σ1.fr f, σ1.hp with
   | .yl l, .gh caps (some ((.b true :: bv) :: [.tp x, .tp z] :: rest)) :: tl => needW g y.o σ1.fr ∧ caps[0]? = some (.yl l) ∧ args.map (opv g σ1.fr) = x ∧ tl = (bv ++ z).map vB ∧
     ∀ b bv', Γ.al bv' → runX Γ E g (Blk.gh caps (some ((.b b :: bv') :: if b then rest else [])) :: (bv' ++ z).map vB).length l2 (List.replicate (l1.length + 1) ⟨none, []⟩) ⟨upd σ1.fr y.o.dst (.b b), (Blk.gh caps (some ((.b b :: bv') :: if b then rest else [])) :: (bv' ++ z).map vB) ++ List.replicate m2 .hole⟩ (Q .normal)
   | _, _ => False
  | _ => False
 | .yra g m1 l1 y ks m2 l2, Q, σ => runX Γ E g σ.hp.length l1 [] ⟨σ.fr, σ.hp ++ List.replicate m1 .hole⟩ fun σ1 => match y.o.x with
  | .o f args => match opv g σ1.fr f, σ1.hp with
   | .yl l, [.gh caps (some (x :: rest))] => needW g y.o σ1.fr ∧ caps[0]? = some (.yl l) ∧ args.map (opv g σ1.fr) = x ∧ flatL x = true ∧ (∀ t ∈ ks, sfree (σ1.fr t) = true ∨ caps[t]? = some (σ1.fr t)) ∧
     ∀ b, runX Γ E g [Blk.gh caps (if b then some rest else none)].length l2 (List.replicate (l1.length + 1) ⟨none, []⟩) ⟨upd (lkp (slots ks σ1.fr)) y.o.dst (.b b), [.gh caps (if b then some rest else none)] ++ List.replicate m2 .hole⟩ (Q .normal)
   | _, _ => False
  | _ => False
 | .yrg g l1 y ks l2, Q, σ => runR Γ E g 0 l1 σ fun σ1 => match condB σ1.fr y.gd with
  | none => False
  | some false => runR Γ E g 0 l2 ⟨upd σ1.fr y.dst (.gv false .u), σ1.hp⟩ (Q .normal)
  | some true => match y.x with
   | .o f args => match opv g σ1.fr f, σ1.hp with
    | .yl l, [.gh caps (some (x :: rest))] => needW g y σ1.fr ∧ caps[0]? = some (.yl l) ∧ args.map (opv g σ1.fr) = x ∧ flatL x = true ∧ (∀ t ∈ ks, sfree (σ1.fr t) = true ∨ caps[t]? = some (σ1.fr t)) ∧
      ∀ b, runR Γ E g 0 l2 ⟨upd (lkp (slots ks σ1.fr)) y.dst (yres y.gd b), [.gh caps (if b then some rest else none)]⟩ (Q .normal)
    | _, _ => False
   | _ => False
def noGuard (ops : Array Oper) : Bool := ops.all fun o => o.guard.isNone
def isNxt (N : Nat × Nat) (o1 o2 : Oper) (d m it : Nat) : Bool :=
 (match o1.dst, o1.op, o1.guard with
  | some d', .next (.tmp it') false, none => d' == d && it' == it && dstOk N (some d)
  | _, _, _ => false) &&
 (match o2.dst, o2.op, o2.guard with
  | some m', .extract (.tmp d') 0, none => m' == m && d' == d && dstOk N (some m)
  | _, _, _ => false)
def resY (P : Program) (N : Nat × Nat) (ops : Array Oper) (o : Oper) : Option RO :=
 if dstOk N o.dst && o.dst.isSome then
  match gdOf ops o.guard, resOc P o with
  | some gd, some x => some ⟨o.dst, gd, o.op.operands.toList.filterMap tmpOf, none, .o x.1 x.2⟩
  | _, _ => none
 else none
def resC (P : Program) (N : Nat × Nat) (o : Oper) : Option RO :=
 if dstOk N o.dst && o.guard.isNone then (resOc P o).map fun x => ⟨o.dst, none, o.op.operands.toList.filterMap tmpOf, none, .o x.1 x.2⟩ else none
def resN (P : Program) (N : Nat × Nat) (o : Oper) : Option RO :=
 if dstOk N o.dst && o.guard.isNone then match o.op with
  | .binOp .eql t x (.const (.slice none 0 0)) _ => (elB P t).bind fun _ => (rOd P t x).map fun a => ⟨o.dst, none, o.op.operands.toList.filterMap tmpOf, none, .q (.len a)⟩
  | _ => none
 else none
def dOk (lo : Nat) : Option Nat → Bool | some n => decide (lo ≤ n) | none => true
def zipX (rs : List RO) (l : List AnyOp) : List AnyOp := rs.zipWith (fun r (x : AnyOp) => (⟨{ r with nid := x.o.nid }, x.js, x.an⟩ : AnyOp)) l
def anyLB (ops : Array Oper) (r1 : List RO) (l1 : List AnyOp) (y1 : RO) (y : AnyOp) (r2 : List RO) (l2 : List AnyOp) : Bool :=
 pairsB (zipX r1 l1 ++ ⟨y1, [], y.an⟩ :: zipX r2 l2) && ancB ops (zipX r1 l1 ++ ⟨y1, [], y.an⟩ :: zipX r2 l2) && decide (r1.length = l1.length) && decide (r2.length = l2.length) &&
  (List.range l1.length).all (fun i => y.an.contains i) && (zipX r2 l2).all fun z => z.an.contains l1.length
def resI (P : Program) (pu : List Nat) (N : Nat × Nat) (ops : Array Oper) : It → Oper → Option It
 | .r _, o => (resO P pu N ops o).map .r
 | .w _, o => if dstOk N o.dst then match gdOf ops o.guard with
  | some gd => (resW P o).map fun q => .w ⟨o.dst, gd, o.op.operands.toList.filterMap tmpOf, none, .w q⟩
  | none => none
  else none
 | .h _, o => if dstOk N o.dst then match gdOf ops o.guard with
  | some gd => (resOc P o).map fun x => .h ⟨o.dst, gd, o.op.operands.toList.filterMap tmpOf, none, .o x.1 x.2⟩
  | none => none
  else none
 | .y lo d _, o => if dstOk N o.dst then match gdOf ops o.guard with
  | some gd => (resOc P o).map fun x => .y lo d ⟨o.dst, gd, o.op.operands.toList.filterMap tmpOf, none, .o x.1 x.2⟩
  | none => none
  else none
def itOk (lo top : Nat) : It → Bool
 | .y lo' d _ => lo' == lo && (top == 3 && decide (lo ≤ d))
 | _ => true
def comp (P : Program) (pu : List Nat) (N : Nat × Nat) : Nat → Nat → RC → Code → Option RC
 | lo, top, .keep l a, c => (comp P pu N lo top a c).map (.keep l)
 | lo, top, .drp n a, c => if lo ≤ n then (comp P pu N lo top a c).map (.drp n) else none
 | lo, top, .own t es a, c => (comp P pu N lo top a c).map (.own t es)
 | lo, top, .owng t es gs a, c => (comp P pu N lo top a c).map (.owng t es gs)
 | lo, top, .ownc t off es a, c => (comp P pu N lo top a c).map (.ownc t off es)
 | lo, top, .owni t i off es a, c => (comp P pu N lo top a c).map (.owni t i off es)
 | _, _, .no, _ => some .no
 | _, _, .skip, .skip => some .skip
 | _, _, .skip, .label _ => some .skip
 | _, _, .rnl g l1 _ l2, .region _ ops false => if g || noGuard ops then
   match ops[l1.length]? with
   | some o => match (ops.toList.take l1.length).mapM (fun o => resO P pu N ops o), resN P N o, (ops.toList.drop (l1.length + 1)).mapM (fun o => resO P pu N ops o) with
    | some r1, some y, some r2 => if r1.length == l1.length then some (.rnl g r1 y r2) else none
    | _, _, _ => none
   | none => none
  else none
 | lo, top, .scp a, .scope c => (comp P pu N lo top a c).map .scp
 | lo, top, .dum a, c => (comp P pu N lo top a c).map .dum
 | _, top, .yrh g l1 _ l2, .region _ ops false => if top == 3 && (g || noGuard ops) then
   match ops[l1.length]? with
   | some o => match (ops.toList.take l1.length).mapM (fun o => resO P pu N ops o), resY P N ops o, (ops.toList.drop (l1.length + 1)).mapM (fun o => resO P pu N ops o) with
    | some r1, some y, some r2 => if r1.length == l1.length then some (.yrh g r1 y r2) else none
    | _, _, _ => none
   | none => none
  else none
 | lo, top, .ycl _ g l1 _ l2, .region _ ops false => if top == 3 && (g || noGuard ops) then
   match ops[l1.length]? with
   | some o => match (ops.toList.take l1.length).mapM (fun o => resO P pu N ops o), resC P N o, (ops.toList.drop (l1.length + 1)).mapM (fun o => resO P pu N ops o) with
    | some r1, some y, some r2 => if r1.length == l1.length then some (.ycl lo g r1 y r2) else none
    | _, _, _ => none
   | none => none
  else none
 | lo, top, .itm l, .region _ ops false => if l.length == ops.size && l.all (itOk lo top) then ((l.zip ops.toList).mapM fun p => resI P pu N ops p.1 p.2).map .itm else none
 | _, _, .reg g _, .region _ ops false => if g || noGuard ops then (ops.toList.mapM fun o => resO P pu N ops o).map (.reg g) else none
 | _, _, .nxt d m it, .region _ ops false => match ops.toList with
  | [o1, o2] => if isNxt N o1 o2 d m it then some (.nxt d m it) else none
  | _ => none
 | lo, top, .swp i j a, c => if top == 1 && lo == 0 then (comp P pu N lo top a c).map (.swp i j) else none
 | _, _, .crl g l1 _ l2, .region _ ops false => if g || noGuard ops then
   match ops[l1.length]? with
   | some o => match (ops.toList.take l1.length).mapM (fun o => resO P pu N ops o), resC P N o, (ops.toList.drop (l1.length + 1)).mapM (fun o => resO P pu N ops o) with
    | some r1, some y, some r2 => if r1.length == l1.length then some (.crl g r1 y r2) else none
    | _, _, _ => none
   | none => none
  else none
 | _, _, .hcl g l1 _ l2, .region _ ops false => if g || noGuard ops then
   match ops[l1.length]? with
   | some o => match (ops.toList.take l1.length).mapM (fun o => resO P pu N ops o), resC P N o, (ops.toList.drop (l1.length + 1)).mapM (fun o => resO P pu N ops o) with
    | some r1, some y, some r2 => if r1.length == l1.length then some (.hcl g r1 y r2) else none
    | _, _, _ => none
   | none => none
  else none
 | _, _, .hca g m1 l1 y m2 l2, .region _ ops true => if g || noGuard ops then
   match ops[l1.length]? with
   | some o => match (ops.toList.take l1.length).mapM (fun o => resO P pu N ops o), resC P N o, (ops.toList.drop (l1.length + 1)).mapM (fun o => resO P pu N ops o) with
    | some r1, some y1, some r2 =>
     if anyLB ops r1 l1 y1 y r2 l2 then some (.hca g m1 (zipX r1 l1) ⟨y1, [], y.an⟩ m2 (zipX r2 l2)) else none
    | _, _, _ => none
   | none => none
  else none
 | _, top, .yrx g m1 l1 y m2 l2, .region _ ops true => if top == 3 && (g || noGuard ops) then
   match ops[l1.length]? with
   | some o => match (ops.toList.take l1.length).mapM (fun o => resO P pu N ops o), resC P N o, (ops.toList.drop (l1.length + 1)).mapM (fun o => resO P pu N ops o) with
    | some r1, some y1, some r2 =>
     if anyLB ops r1 l1 y1 y r2 l2 then some (.yrx g m1 (zipX r1 l1) ⟨y1, [], y.an⟩ m2 (zipX r2 l2)) else none
    | _, _, _ => none
   | none => none
  else none
 | _, top, .yra g m1 l1 y ks m2 l2, .region _ ops true => if top == 2 && (g || noGuard ops) then
   match ops[l1.length]? with
   | some o => match (ops.toList.take l1.length).mapM (fun o => resO P pu N ops o), resC P N o, (ops.toList.drop (l1.length + 1)).mapM (fun o => resO P pu N ops o) with
    | some r1, some y1, some r2 =>
     if anyLB ops r1 l1 y1 y r2 l2 then some (.yra g m1 (zipX r1 l1) ⟨y1, [], y.an⟩ ks m2 (zipX r2 l2)) else none
    | _, _, _ => none
   | none => none
  else none
 | _, top, .yrg g l1 _ ks l2, .region _ ops false => if top == 2 && (g || noGuard ops) then
   match ops[l1.length]? with
   | some o => match (ops.toList.take l1.length).mapM (fun o => resO P pu N ops o), resY P N ops o, (ops.toList.drop (l1.length + 1)).mapM (fun o => resO P pu N ops o) with
    | some r1, some y, some r2 => if r1.length == l1.length then some (.yrg g r1 y ks r2) else none
    | _, _, _ => none
   | none => none
  else none
 | _, _, .any g m l, .region _ ops true =>
  if (g || noGuard ops) then
   match ops.toList.mapM fun o => resO P pu N ops o with
   | some rs =>
    let l' := rs.zipWith (fun r (x : AnyOp) => (⟨{ r with nid := x.o.nid }, x.js, x.an⟩ : AnyOp)) l
    if pairsB l' && ancB ops l' && decide (l'.length = rs.length) then some (.any g m l') else none
   | none => none
  else none
 | lo, top, .seq a b, .seq x y => match comp P pu N lo top a x, comp P pu N lo top b y with
  | some a', some b' => some (.seq a' b')
  | _, _ => none
 | lo, top, .mid a b, .seq x y => match comp P pu N lo top a x, comp P pu N lo top b y with
  | some a', some b' => some (.mid a' b')
  | _, _ => none
 | lo, top, .cond _ a b, .cond c x y => match rOd P 0 c, comp P pu N lo top a x, comp P pu N lo top b y with
  | some c', some a', some b' => some (.cond c' a' b')
  | _, _, _ => none
 | lo, top, .block _ a, .block id x => (comp P pu N lo top a x).map (.block id)
 | lo, top, .loop l d a, .loop x => if dOk lo d then (comp P pu N lo top a x).map (.loop l d) else none
 | lo, top, .rfh _ _ lo' zl b a, .rangeFunc f ps x y => if top == 1 && decide (lo ≤ lo') && ps.all (fun p => dstOk N (some p)) then
   match rOd P 0 f, comp P pu N (lo' + zl) 0 b x, comp P pu N (lo' + zl) 0 a y with
   | some f', some b', some a' => some (.rfh f' ps.toList lo' zl b' a')
   | _, _, _ => none
  else none
 | lo, top, .rfn _ _ lo' b a, .rangeFunc f ps x y => if top == 1 && decide (lo ≤ lo') && ps.all (fun p => dstOk N (some p)) then
   match rOd P 0 f, comp P pu N lo' 0 b x, comp P pu N lo' 0 a y with
   | some f', some b', some a' => some (.rfn f' ps.toList lo' b' a')
   | _, _, _ => none
  else none
 | _, _, .exit _, .exit id => some (.exit id)
 | _, _, .ret, .ret => some .ret
 | _, _, _, _ => none
end Go.Fam
namespace Go.Fam
section
variable {P : Program} {F : Fence} {n : Nat} {Γ : Gam} {ops : Array Oper} {g : Bool} {base : Nat} {M : FrI} {pu : List Nat}
theorem any_part (hG : GOk P Γ) (hF : OpenF F) (hg : g = false → ∀ o ∈ ops, o.guard = none) {Q : Exit → Act → World → Prop} {τ : St} {U : Nat → Prop} {extra : Nat} :
  ∀ (fuel : Nat) (rest : List (Nat × RO × FP)) (listed : Array Bool) (σ : St) (S : Nat → Prop) (w : World) (O : OInfo) (a : Act),
   rest.length + extra ≤ fuel →
   (∀ i, listed.getD i true = false ↔ (∃ x ∈ rest, x.1 = i) ∨ U i) →
   rest.Pairwise (fun x y => x.1 < y.1 ∧ (Anc ops x.1 y.1 ∨ Indep x y)) →
   (∀ x ∈ rest, ∃ o, ops[x.1]? = some o ∧ resO P pu M.nm ops o = some { x.2.1 with nid := none } ∧ ∀ e ∈ o.after, Region.binds .any e = true → e.on < x.1) →
   (∀ x ∈ rest, ∀ u, U u → Anc ops x.1 u ∧ x.1 < u) →
   (∀ i j, Anc ops i j → listed.getD j false = true → listed.getD i false = true) →
   (∀ i, i < ops.size → i < listed.size) →
   RunD Γ (EqFlat P) g base rest σ τ → SR M S w O σ a →
   (∀ fuel' listed' S' w' O' a', extra ≤ fuel' → (∀ i, listed'.getD i true = false ↔ U i) → (∀ i j, Anc ops i j → listed'.getD j false = true → listed'.getD i false = true) → (∀ i, i < ops.size → i < listed'.size) →
    Evol S S' w w' O O' → SR M S' w' O' τ a' → a'.defers = a.defers → wpAnyIn F n P .any ops Q fuel' listed' a' w') →
   wpAnyIn F n P .any ops Q fuel listed a w := by
 intro fuel
 induction fuel with
 | zero =>
  intro rest listed σ S w O a hf hl _ _ _ hc hsz hrun hsr hK
  have hnil : rest = [] := List.eq_nil_of_length_eq_zero (by omega)
  subst hnil
  simp only [RunD] at hrun
  subst hrun
  exact hK 0 listed S w O a (by omega) (fun i => by rw [hl]; simp) hc hsz (Evol.refl _ _ _) hsr rfl
 | succ fuel ih =>
  intro rest listed σ S w O a hf hl hp hr hU hc hsz hrun hsr hK
  by_cases hnil : rest = []
  ·subst hnil
   simp only [RunD] at hrun
   subst hrun
   exact hK _ listed S w O a (by simpa using hf) (fun i => by rw [hl]; simp) hc hsz (Evol.refl _ _ _) hsr rfl
  refine ⟨fun hnone => ?_, fun i hi => ?_⟩
  ·cases rest with
   | nil => exact absurd rfl hnil
   | cons x rest =>
    exfalso
    obtain ⟨o, ho, _, hlt⟩ := hr x (by simp)
    have : x.1 ∈ Region.ready .any ops listed := by
     rw [mem_ready]
     refine ⟨(hl x.1).2 (.inl ⟨x, by simp, rfl⟩), o, ho, fun e he hb => ?_⟩
     have h1 := hlt e he hb
     have h2 : ¬ listed.getD e.on true = false := by
      rw [hl]
      rintro (⟨y, hy, hye⟩ | hu)
      ·rcases List.mem_cons.1 hy with rfl | hy
       ·omega
       ·have := (List.rel_of_pairwise_cons hp hy).1; omega
      ·have := (hU x (by simp) _ hu).2; omega
     have h3 : x.1 < ops.size := (Array.getElem?_eq_some_iff.1 ho).1
     have h4 := hsz e.on (by omega)
     simp [h4] at h2 ⊢
     exact h2
    rw [hnone] at this
    simp at this
  ·rw [mem_ready] at hi
   obtain ⟨h0, o, ho, hall⟩ := hi
   have hancl : ∀ y j, y = i → Anc ops j y → listed.getD j false = true := by
    rintro y j rfl h
    cases h with
    | base ho' he hb h =>
     rw [ho] at ho'; cases ho'
     rw [← h]
     exact hall _ he hb
    | step ho' he hb h =>
     rw [ho] at ho'; cases ho'
     exact hc _ _ h (hall _ he hb)
   have hcontra : ∀ j, listed.getD j true = false → listed.getD j false = true → False := by
    intro j h1 h2
    cases hle : listed[j]? with
    | none => simp [hle] at h1
    | some b => simp [hle] at h1 h2; simp_all
   obtain ⟨x, hx, hxi⟩ : ∃ x ∈ rest, x.1 = i := ((hl i).1 h0).resolve_right fun hu => by
    obtain ⟨y, ys, rfl⟩ := List.exists_cons_of_ne_nil hnil
    exact hcontra y.1 ((hl y.1).2 (.inl ⟨y, by simp, rfl⟩)) (hancl i y.1 rfl (hU y (by simp) i hu).1)
   subst hxi
   obtain ⟨A, B, rfl⟩ := List.append_of_mem hx
   obtain ⟨o', ho', hro, hlt⟩ := hr x (by simp)
   rw [ho] at ho'
   cases ho'
   have hpa := List.pairwise_append.1 hp
   have hpb := List.pairwise_cons.1 hpa.2.1
   have hind : ∀ y ∈ A, Indep y x := by
    intro y hy
    rcases (hpa.2.2 y hy x (by simp)).2 with h | h
    ·exact (hcontra y.1 ((hl y.1).2 (.inl ⟨y, by simp [hy], rfl⟩)) (hancl x.1 y.1 rfl h)).elim
    ·exact h
   have hmv := RunD.move A σ hrun hind
   obtain ⟨hok, hrest⟩ := hmv.cons_split
   obtain ⟨hs1, hs2⟩ := eff_step hok
   refine op_step hG hF ho hro (fun hgf => hg hgf o (Array.mem_of_getElem? ho)) hsr hs1 ?_
   intro S' w' O' a' hev hsr' hdef
   rw [hs2] at hsr'
   have hnotU : ∀ u, U u → u ≠ x.1 := fun u hu => by have := (hU x hx u hu).2; omega
   refine ih (A ++ B) (listed.setIfInBounds x.1 true) _ S' w' O' a' ?_ ?_ ?_ ?_ ?_ ?_ ?_ hrest hsr' ?_
   ·simp at hf ⊢; omega
   ·intro i
    by_cases hix : i = x.1
    ·subst hix
     have hlt' : x.1 < listed.size := hsz _ (Array.getElem?_eq_some_iff.1 ho).1
     have hnot : ¬ ((∃ y ∈ A ++ B, y.1 = x.1) ∨ U x.1) := by
      rintro (⟨y, hy, hye⟩ | hu)
      ·rcases List.mem_append.1 hy with hm | hm
       ·have := (hpa.2.2 _ hm x (by simp)).1; omega
       ·have := (hpb.1 _ hm).1; omega
      ·exact hnotU _ hu rfl
     rw [iff_false_right hnot]
     simp [hlt']
    ·rw [getD_set_ne true (Ne.symm hix), hl]
     refine or_congr ?_ Iff.rfl
     constructor
     ·rintro ⟨y, hy, rfl⟩
      refine ⟨y, ?_, rfl⟩
      simp only [List.mem_append, List.mem_cons] at hy ⊢
      rcases hy with h | h | h
      ·exact .inl h
      ·subst h; exact absurd rfl hix
      ·exact .inr h
     ·rintro ⟨y, hy, rfl⟩
      exact ⟨y, by simp only [List.mem_append, List.mem_cons] at hy ⊢; rcases hy with h | h <;> simp [h], rfl⟩
   ·refine List.Pairwise.sublist ?_ hp
    exact List.Sublist.append (List.Sublist.refl _) (List.sublist_cons_self _ _)
   ·intro y hy
    refine hr y ?_
    simp only [List.mem_append, List.mem_cons] at hy ⊢
    rcases hy with h | h <;> simp [h]
   ·intro y hy
    refine hU y ?_
    simp only [List.mem_append, List.mem_cons] at hy ⊢
    rcases hy with h | h <;> simp [h]
   ·intro i j hij hj
    by_cases hjx : j = x.1
    ·exact getD_set_true (hancl j i hjx hij)
    ·rw [getD_set_ne false (Ne.symm hjx)] at hj
     exact getD_set_true (hc i j hij hj)
   ·intro i hi
    simpa using hsz i hi
   ·intro fuel' listed' S'' w'' O'' a'' h1 h2 h3 h4 hev' hsr'' hdef'
    exact hK fuel' listed' S'' w'' O'' a'' h1 h2 h3 h4 (hev.trans hev') hsr'' (hdef'.trans hdef)
theorem part_rest {lall l : List AnyOp} {k : Nat} (hsub : ∀ q y, l[q]? = some y → lall[k + q]? = some y) (hp : pairsB lall = true) (ha : ancB ops lall = true)
  (hopl : ∀ q y, l[q]? = some y → ∃ o, ops[k + q]? = some o ∧ resO P pu M.nm ops o = some { y.o with nid := none }) {done : List FP} (hk : k = done.length) {σ : St} {K : St → Prop} (hrun : runX Γ (EqFlat P) g base l done σ K) :
  ∃ rest τ, rest.length = l.length ∧ (∀ i, (∃ x ∈ rest, x.1 = i) ↔ k ≤ i ∧ i < k + l.length) ∧ rest.Pairwise (fun x y => x.1 < y.1 ∧ (Anc ops x.1 y.1 ∨ Indep x y)) ∧
   (∀ x ∈ rest, ∃ o, ops[x.1]? = some o ∧ resO P pu M.nm ops o = some { x.2.1 with nid := none } ∧ ∀ e ∈ o.after, Region.binds .any e = true → e.on < x.1) ∧
   RunD Γ (EqFlat P) g base rest σ τ ∧ K τ := by
 obtain ⟨fs, τ, hfs, hr, hKτ, hd⟩ := runX_runD k done σ K hrun hk
 have hget : ∀ x ∈ (List.range' k l.length).zip ((l.map (·.o)).zip fs), ∃ q y, x.1 = k + q ∧ l[q]? = some y ∧ y.o = x.2.1 ∧ fs[q]? = some x.2.2 := by
  rintro ⟨i, o, f⟩ hx
  obtain ⟨q, hq⟩ := List.getElem?_of_mem hx
  rw [List.getElem?_zip_eq_some] at hq
  obtain ⟨q1, q2⟩ := hq
  rw [List.getElem?_zip_eq_some] at q2
  obtain ⟨q2, q3⟩ := q2
  have hqi : i = k + q := by
   rw [List.getElem?_range'] at q1
   ·simpa using q1.symm
   ·have := getElemLt q1; simpa using this
  subst hqi
  rw [List.getElem?_map, Option.map_eq_some_iff] at q2
  obtain ⟨y, hy, rfl⟩ := q2
  exact ⟨q, y, rfl, hy, rfl, q3⟩
 have hz : ∀ q x f, l[q]? = some x → fs[q]? = some f → (k + q, x.o, f) ∈ (List.range' k l.length).zip ((l.map (·.o)).zip fs) := by
  intro q x f hx hf
  refine List.mem_of_getElem? (i := q) ?_
  rw [List.getElem?_zip_eq_some]
  have := getElemLt hx
  refine ⟨by rw [List.getElem?_range' this]; simp, ?_⟩
  rw [List.getElem?_zip_eq_some]
  exact ⟨by simp [hx], hf⟩
 have hpairs : ∀ i j x y, l[i]? = some x → l[j]? = some y → i < j → Anc ops (k + i) (k + j) ∨ ∀ fx fy, fs[i]? = some fx → fs[j]? = some fy → Indep (k + i, x.o, fx) (k + j, y.o, fy) := by
  intro i j x y hx hy hij
  have hy' := hsub j y hy
  have hx' := hsub i x hx
  have hjl := getElemLt hy'
  have h1 := List.all_eq_true.1 hp (k + j) (by simpa using hjl)
  simp only [hy'] at h1
  have h2 := List.all_eq_true.1 h1 (k + i) (by simp; omega)
  simp only [hx', Bool.or_eq_true, Bool.and_eq_true] at h2
  rcases h2 with h2 | ⟨h2, h3⟩
  ·obtain ⟨o, ho, _⟩ := hopl j y hy
   exact .inl ((ancB_spec ha (k + j) y hy' (Array.getElem?_eq_some_iff.1 ho).1).1 (k + i) (by simpa using h2))
  ·right
   intro fx fy hfx hfy
   refine ⟨h2, ?_⟩
   rcases h3 with (h3 | h3) | h3
   rotate_right
   ·exact .inr h3
   all_goals refine .inl ?_
   ·have := hd j y fy hy hfy (k + i) (by simpa using h3)
    rcases this with h4 | h4
    ·rw [List.getD_eq_getElem?_getD, List.getElem?_append_right (by omega)] at h4
     rw [show k + i - done.length = i by omega, hfx] at h4
     exact h4
    ·omega
   ·have e1 := RunD.quiet _ _ _ hr _ (hz i x fx hx hfx) h3.1
    have e2 := RunD.quiet _ _ _ hr _ (hz j y fy hy hfy) h3.2
    simp only at e1 e2
    simp [disjB, hits, e1, e2]
 refine ⟨_, τ, ?_, ?_, ?_, ?_, hr, hKτ⟩
 ·simp [hfs]
 ·intro i
  constructor
  ·rintro ⟨x, hx, rfl⟩
   obtain ⟨q, y, e, hy, _⟩ := hget x hx
   have := getElemLt hy
   omega
  ·rintro ⟨h1, h2⟩
   have h3 : i - k < l.length := by omega
   refine ⟨_, hz (i - k) l[i - k] fs[i - k] (by simp [h3]) (by simp [hfs, h3]), ?_⟩
   show k + (i - k) = i
   omega
 ·rw [List.pairwise_iff_getElem]
  intro i j hi hj hij
  obtain ⟨qi, x, ex, hx, hxo, hxf⟩ := hget _ (List.getElem_mem hi)
  obtain ⟨qj, y, ey, hy, hyo, hyf⟩ := hget _ (List.getElem_mem hj)
  have ei : (((List.range' k l.length).zip ((l.map (·.o)).zip fs))[i]).1 = k + i := by simp
  have ej : (((List.range' k l.length).zip ((l.map (·.o)).zip fs))[j]).1 = k + j := by simp
  have e1 : qi = i := by omega
  have e2 : qj = j := by omega
  subst e1 e2
  rw [ei, ej]
  refine ⟨by omega, (hpairs qi qj x y hx hy hij).imp (fun h => h) fun h => ?_⟩
  have := h _ _ hxf hyf
  rw [hxo, hyo, ← ex, ← ey] at this
  exact this
 ·intro x hx
  obtain ⟨q, y, ex, hy, hyo, _⟩ := hget x hx
  obtain ⟨o, ho, hr'⟩ := hopl _ _ hy
  rw [← ex] at ho
  refine ⟨o, ho, by rw [← hyo]; exact hr', fun e he hb => ?_⟩
  have := (ancB_spec ha _ y (hsub q y hy) (by rw [← ex]; exact (Array.getElem?_eq_some_iff.1 ho).1)).2 o (by rw [← ex]; exact ho) e he hb
  omega
end
end Go.Fam
