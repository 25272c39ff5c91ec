import Derived.Test.YtgcinomjcgebhaaFam9
set_option linter.all false
/- Regions that draw their order: independent operations may change places. -/
namespace Go.Fam
structure FP where
  rd : Option (List Nat)
  wr : List Nat

def fpV : V → List Nat | .ad id _ _ => [id] | .rf id _ _ _ _ => [id] | .mp id _ => [id] | _ => []

def fpQ (q : Q) (ρ : Od → V) : Option (List Nat) := match q with
  | .ld _ _ x | .fad _ x | .nilc x | .len x | .iad _ x _ => some (fpV (ρ x))
  | .call f xs => match ρ f with
    | .fn _ caps => if hasRefL (xs.map ρ ++ caps) then none else some []
    | _ => some []
  | .bsl _ _ _ ps => if hasRefL (ps.map fun p => ρ p.2.2) then none else some []
  | .box x => if hasRef (ρ x) then none else some []
  | .lkp _ _ _ _ m _ => some (fpV (ρ m))
  | .mlen m => some (fpV (ρ m))
  | .ent _ => none
  | _ => some []

/-- what an operation gives, and what it writes -/
def eff (Γ : Gam) (E : TypeId → Nat → Prop) (g : Bool) (base : Nat) (o : RO) (σ : St) : Prop × V × Option (Nat × Blk) :=
  match o.x with
  | .q q => ((stepQ Γ E g o q σ).1, (stepQ Γ E g o q σ).2, none)
  | .w q => match nv σ.hp q (opv g σ.fr) with
    | some (ok, b, mk) => match o.nid with
      | none => (False, .u, none)
      | some k => (needW g o σ.fr ∧ ok ∧ σ.hp[base + k]? = some .hole, mk (base + k), some (base + k, b))
    | none => (needW g o σ.fr ∧ (sv E σ.hp q (opv g σ.fr)).1, (sv E σ.hp q (opv g σ.fr)).2)
  | .o _ _ => (False, .u, none)

def nextD (Γ : Gam) (E : TypeId → Nat → Prop) (g : Bool) (base : Nat) (o : RO) (σ : St) : St :=
  ⟨upd σ.fr o.dst (eff Γ E g base o σ).2.1, putB σ.hp (eff Γ E g base o σ).2.2⟩

def fpR (g : Bool) (base : Nat) (o : RO) (σ : St) : FP := match o.x with
  | .q q => ⟨fpQ q (opv g σ.fr), []⟩
  | .w q => match q with
    | .st _ a _ => ⟨some [], fpV (opv g σ.fr a)⟩
    | .mup _ _ m _ _ => ⟨some [], fpV (opv g σ.fr m)⟩
    | .men _ _ _ m _ => ⟨some [], fpV (opv g σ.fr m)⟩
    | .mes m _ _ => ⟨some [], fpV (opv g σ.fr m)⟩
    | .app _ x y => match opv g σ.fr x with
      | .rf id _ _ _ _ => ⟨some (fpV (opv g σ.fr y)), [id]⟩
      | _ => ⟨some (fpV (opv g σ.fr y)), [base + o.nid.getD 0]⟩
    | .rng x => ⟨some (fpV (opv g σ.fr x)), [base + o.nid.getD 0]⟩
    | _ => ⟨some [], [base + o.nid.getD 0]⟩
  | .o _ _ => ⟨none, []⟩

def slotsOf : List Od → List Nat
  | [] => []
  | .t n :: l => n :: slotsOf l
  | .k _ :: l => slotsOf l
def RO.reads (o : RO) : List Nat := o.ts ++ (match o.gd with | some (s, _) => [s] | none => []) ++ slotsOf (match o.x with | .q q => q.ods | .w q => q.ods | .o f xs => f :: xs)

def apartB (a b : RO) : Bool :=
  (match a.dst with | some d => !(b.reads.contains d) && b.dst != some d | none => true) &&
  (match b.dst with | some d => !(a.reads.contains d) | none => true)

def hits (ws : List Nat) (f : FP) : Bool := !ws.isEmpty && (match f.rd with
  | none => true
  | some r => ws.any fun i => r.contains i || f.wr.contains i)
def disjB (a b : FP) : Bool := !(hits a.wr b) && !(hits b.wr a)

/-- two heaps agree where an operation looks or writes -/
def AgreeOn (f : FP) (hp hp' : List Blk) : Prop := (f.rd = none → hp = hp') ∧ (∀ r, f.rd = some r → ∀ i ∈ r, hp[i]? = hp'[i]?) ∧ (∀ i ∈ f.wr, hp[i]? = hp'[i]?)

theorem vw_heap {hp hp' : List Blk} : ∀ (n : Nat) (v : V), hasRef v = false → vw hp n v = vw hp' n v := by
  intro n
  induction n with
  | zero => intro v _; rfl
  | succ n ih =>
    have ihL : ∀ vs : List V, hasRefL vs = false → vs.map (vw hp n) = vs.map (vw hp' n) := by
      intro vs h
      apply List.map_congr_left
      intro v hv
      exact ih v (hasRefL_mem vs h v hv)
    intro v h
    cases v <;> simp only [vw] <;> simp only [hasRef] at h <;> first | rfl | (rw [ihL _ h]) | (rw [ih _ h]) | (cases h)

theorem vw_heapL {hp hp' : List Blk} {n : Nat} {vs : List V} (h : hasRefL vs = false) : vs.map (vw hp n) = vs.map (vw hp' n) := by
  apply List.map_congr_left
  intro v hv
  exact vw_heap n v (hasRefL_mem vs h v hv)

theorem ldV_local {hp hp' : List Blk} {ag : Bool} {n : Nat} {x : V} (h : ∀ i ∈ fpV x, hp[i]? = hp'[i]?) : ldV hp ag n x = ldV hp' ag n x := by
  cases x <;> simp only [ldV]
  case ad id g off => rw [h id (by simp [fpV])]
theorem iadV_local {hp hp' : List Blk} {es : Nat} {x i : V} (h : ∀ i ∈ fpV x, hp[i]? = hp'[i]?) : iadV hp es x i = iadV hp' es x i := by
  cases i <;> simp only [iadV]
  cases x <;> simp only
  case rf id g off len es' => rw [h id (by simp [fpV])]
theorem lenV_local {hp hp' : List Blk} {x : V} (h : ∀ i ∈ fpV x, hp[i]? = hp'[i]?) : lenV hp x = lenV hp' x := by
  cases x <;> simp only [lenV]
  case rf id g off len es' => rw [h id (by simp [fpV])]
theorem curG_local {hp hp' : List Blk} {id g : Nat} (h : hp[id]? = hp'[id]?) : curG hp id g = curG hp' id g := by simp only [curG, h]

/-- a quiet operation hangs on its operands, and on the blocks at which it looks -/
theorem qv_local {Γ : Gam} {E : TypeId → Nat → Prop} {hp hp' : List Blk} {q : Q} {ρ ρ' : Od → V} (hρ : ∀ od ∈ q.ods, ρ od = ρ' od) (hh : ∀ r, fpQ q ρ = some r → ∀ i ∈ r, hp[i]? = hp'[i]?) (hn : fpQ q ρ = none → hp = hp') :
    qv Γ E hp q ρ = qv Γ E hp' q ρ' ∧ fpQ q ρ = fpQ q ρ' := by
  have h1 : ∀ x xs, q.ods = x :: xs → ρ x = ρ' x := fun x xs h => hρ x (by simp [h])
  have h2 : ∀ x y xs, q.ods = x :: y :: xs → ρ y = ρ' y := fun x y xs h => hρ y (by simp [h])
  have h3 : ∀ x y z xs, q.ods = x :: y :: z :: xs → ρ z = ρ' z := fun x y z xs h => hρ z (by simp [h])
  cases q with
  | mv x => simp only [qv, fpQ, h1 x _ rfl, and_self]
  | bin op x y => simp only [qv, fpQ, h1 x _ rfl, h2 x y _ rfl, and_self]
  | bq ng x y => simp only [qv, fpQ, h1 x _ rfl, h2 x y _ rfl, and_self]
  | eqs ng t x y => simp only [qv, fpQ, h1 x _ rfl, h2 x y _ rfl, and_self]
  | not x => simp only [qv, fpQ, h1 x _ rfl, and_self]
  | neg x => simp only [qv, fpQ, h1 x _ rfl, and_self]
  | cvt x => simp only [qv, fpQ, h1 x _ rfl, and_self]
  | ext x k => simp only [qv, fpQ, h1 x _ rfl, and_self]
  | fld ag n off x => simp only [qv, fpQ, h1 x _ rfl, and_self]
  | mn x y => simp only [qv, fpQ, h1 x _ rfl, h2 x y _ rfl, and_self]
  | mx x y => simp only [qv, fpQ, h1 x _ rfl, h2 x y _ rfl, and_self]
  | pick c x y => simp only [qv, fpQ, h1 c _ rfl, h2 c x _ rfl, h3 c x y _ rfl, and_self]
  | ld ag n x =>
    simp only [qv, fpQ, h1 x _ rfl, and_true]
    exact ldV_local (by have := hh _ rfl; rwa [h1 x _ rfl] at this)
  | len x =>
    simp only [qv, fpQ, h1 x _ rfl, and_true]
    exact lenV_local (by have := hh _ rfl; rwa [h1 x _ rfl] at this)
  | iad es x i =>
    simp only [qv, fpQ, h1 x _ rfl, h2 x i _ rfl, and_true]
    exact iadV_local (by have := hh _ rfl; rwa [h1 x _ rfl] at this)
  | fad off x =>
    simp only [qv, fpQ, h1 x _ rfl, and_true]
    have := hh _ rfl
    rw [h1 x _ rfl] at this
    cases hx : ρ' x <;> simp only
    case ad id g o => rw [curG_local (this id (by simp [hx, fpV]))]
  | nilc x =>
    simp only [qv, fpQ, h1 x _ rfl, and_true]
    have := hh _ rfl
    rw [h1 x _ rfl] at this
    cases hx : ρ' x <;> simp only
    case ad id g o => rw [curG_local (this id (by simp [hx, fpV]))]
  | lkp zc ok kt sk m k =>
    simp only [qv, fpQ, h1 m _ rfl, h2 m k _ rfl, and_true]
    have := hh _ rfl
    rw [h1 m _ rfl] at this
    unfold lkpV
    cases hm : ρ' m <;> try rfl
    case mp id g =>
      have := this id (by simp [hm, fpV])
      cases hk : keyL (ρ' k) with
      | none => rfl
      | some t => simp only [this]
  | mlen m =>
    simp only [qv, fpQ, h1 m _ rfl, and_true]
    have := hh _ rfl
    rw [h1 m _ rfl] at this
    unfold mlenV
    cases hm : ρ' m <;> try rfl
    case mp id g => simp only [this id (by simp [hm, fpV])]
  | ent x =>
    have := hn rfl
    subst this
    simp only [qv, fpQ, h1 x _ rfl, and_self]
  | mkf f caps =>
    have : caps.map ρ = caps.map ρ' := List.map_congr_left fun x hx => hρ x (by simpa [Q.ods] using hx)
    simp only [qv, fpQ, this, and_self]
  | bld zc ps =>
    have : ps.map (fun p => (p.1, p.2.1, ρ p.2.2)) = ps.map (fun p => (p.1, p.2.1, ρ' p.2.2)) := List.map_congr_left fun p hp => by
      rw [hρ p.2.2 (by simp only [Q.ods, List.mem_map]; exact ⟨p, hp, rfl⟩)]
    simp only [qv, fpQ, this, and_self]
  | slc es x lo hi =>
    have e1 : lo.map ρ = lo.map ρ' := by cases lo with | none => rfl | some y => simp [hρ y (by simp [Q.ods])]
    have e2 : hi.map ρ = hi.map ρ' := by cases hi with | none => rfl | some y => simp [hρ y (by simp [Q.ods])]
    simp only [qv, fpQ, h1 x _ rfl, e1, e2, and_self]
  | box x =>
    have e := h1 x _ rfl
    simp only [qv, fpQ] at hh hn ⊢
    rw [e] at hh hn ⊢
    by_cases hr : hasRef (ρ' x) = true
    · have := hn (by simp [hr]); subst this; exact ⟨rfl, rfl⟩
    · have hr' : hasRef (ρ' x) = false := by simpa using hr
      rw [vw_heap (hp := hp) (hp' := hp') 8 _ hr']
      exact ⟨rfl, rfl⟩
  | bsl es n zc ps =>
    have e0 : ps.map (fun p => ρ p.2.2) = ps.map (fun p => ρ' p.2.2) := List.map_congr_left fun p hp => hρ p.2.2 (by simp only [Q.ods, List.mem_map]; exact ⟨p, hp, rfl⟩)
    have e1 : ∀ p ∈ ps, ρ p.2.2 = ρ' p.2.2 := fun p hp => hρ p.2.2 (by simp only [Q.ods, List.mem_map]; exact ⟨p, hp, rfl⟩)
    simp only [qv, fpQ] at hh hn ⊢
    rw [e0] at hh hn ⊢
    by_cases hr : hasRefL (ps.map fun p => ρ' p.2.2) = true
    · have := hn (by simp [hr]); subst this
      have : ps.map (fun p => (p.1, p.2.1, vw hp 8 (ρ p.2.2))) = ps.map (fun p => (p.1, p.2.1, vw hp 8 (ρ' p.2.2))) := List.map_congr_left fun p hp => by rw [e1 p hp]
      rw [this]; exact ⟨rfl, rfl⟩
    · have hr' : hasRefL (ps.map fun p => ρ' p.2.2) = false := by simpa using hr
      have : ps.map (fun p => (p.1, p.2.1, vw hp 8 (ρ p.2.2))) = ps.map (fun p => (p.1, p.2.1, vw hp' 8 (ρ' p.2.2))) := List.map_congr_left fun p hp => by
        rw [e1 p hp, vw_heap 8 _ (hasRefL_mem _ hr' _ (List.mem_map.2 ⟨p, hp, rfl⟩))]
      rw [this]; exact ⟨rfl, rfl⟩
  | call f xs =>
    have e0 := h1 f _ rfl
    have e1 : xs.map ρ = xs.map ρ' := List.map_congr_left fun x hx => hρ x (by simp [Q.ods, hx])
    simp only [qv, fpQ, callV] at hh hn ⊢
    rw [e0, e1] at hh hn ⊢
    cases hf : ρ' f <;> simp only [and_self]
    case fn g caps =>
      simp only [hf] at hh hn
      by_cases hr : hasRefL (xs.map ρ' ++ caps) = true
      · have := hn (by simp [hr]); subst this; simp
      · have hr' : hasRefL (xs.map ρ' ++ caps) = false := by simpa using hr
        rw [vw_heapL (hp := hp) (hp' := hp') hr']
        simp

theorem newsV_local {hp hp' : List Blk} {es : Nat} {y : V} (h : ∀ i ∈ fpV y, hp[i]? = hp'[i]?) : newsV hp es y = newsV hp' es y := by
  cases y <;> simp only [newsV]
  case rf id g off len es' => rw [h id (by simp [fpV])]

theorem mem_slots : ∀ (l : List Od) (n : Nat), Od.t n ∈ l → n ∈ slotsOf l
  | [], _, h => by cases h
  | .t m :: l, n, h => by
    rcases List.mem_cons.1 h with h | h
    · cases h; simp [slotsOf]
    · simp [slotsOf, mem_slots l n h]
  | .k v :: l, n, h => by
    rcases List.mem_cons.1 h with h | h
    · cases h
    · simp [slotsOf, mem_slots l n h]

theorem opv_agree {g : Bool} {fr fr' : Nat → V} {l : List Od} (h : ∀ n ∈ slotsOf l, fr n = fr' n) : ∀ od ∈ l, opv g fr od = opv g fr' od := by
  intro od hod
  cases od with
  | k v => cases g <;> rfl
  | t n =>
    have := h n (mem_slots l n hod)
    cases g <;> simp only [opv, evO, this]

/-- an operation hangs on the slots that it reads, and on the blocks of its footprint -/
theorem eff_local {Γ : Gam} {E : TypeId → Nat → Prop} {g : Bool} {base : Nat} {o : RO} {σ σ' : St} (hfr : ∀ n ∈ o.reads, σ.fr n = σ'.fr n) (hag : AgreeOn (fpR g base o σ) σ.hp σ'.hp) :
    eff Γ E g base o σ = eff Γ E g base o σ' ∧ fpR g base o σ = fpR g base o σ' := by
  have hts : ∀ n ∈ o.ts, σ.fr n = σ'.fr n := fun n hn => hfr n (by simp [RO.reads, hn])
  have hgd : ∀ s want, o.gd = some (s, want) → σ.fr s = σ'.fr s := fun s want h => hfr s (by simp [RO.reads, h])
  have htsall : (o.ts.all fun n => (ug (σ.fr n)).1) = (o.ts.all fun n => (ug (σ'.fr n)).1) := by
    rw [Bool.eq_iff_iff, List.all_eq_true, List.all_eq_true]
    exact ⟨fun h n hn => by rw [← hts n hn]; exact h n hn, fun h n hn => by rw [hts n hn]; exact h n hn⟩
  cases hx : o.x with
  | q q =>
    have hod : ∀ od ∈ q.ods, ∀ b : Bool, opv b σ.fr od = opv b σ'.fr od := fun od h b => opv_agree (fun n hn => hfr n (by simp [RO.reads, hx, hn])) od h
    simp only [fpR, hx] at hag ⊢
    obtain ⟨ha1, ha2, _⟩ := hag
    obtain ⟨e1, e2⟩ := qv_local (Γ := Γ) (E := E) (hp := σ.hp) (hp' := σ'.hp) (q := q) (ρ := opv g σ.fr) (ρ' := opv g σ'.fr) (fun od h => hod od h g) ha2 ha1
    refine ⟨?_, by rw [e2]⟩
    simp only [eff, hx, stepQ]
    cases g with
    | false => simp only [e1]
    | true =>
      have hcond : condB σ.fr o.gd = condB σ'.fr o.gd := by
        cases hg : o.gd with
        | none => rfl
        | some sw => obtain ⟨s, want⟩ := sw; simp only [condB, hgd s want hg]
      have hneed : needQ σ.fr o.ts q = needQ σ'.fr o.ts q := by
        cases q with
        | pick x y z =>
          have h0 : ∀ od ∈ [x, y, z], evO σ.fr od = evO σ'.fr od := fun od h => by have := hod od h false; simpa only [opv] using this
          simp only [needQ]
          rw [h0 x (by simp), h0 y (by simp), h0 z (by simp)]
        | _ => simp only [needQ, htsall]
      simp only [e1, hcond, hneed]
  | w q =>
    have hod : ∀ od ∈ q.ods, opv g σ.fr od = opv g σ'.fr od := opv_agree (fun n hn => hfr n (by simp [RO.reads, hx, hn]))
    have hneed : needW g o σ.fr = needW g o σ'.fr := by cases g <;> simp only [needW, htsall]
    simp only [eff, hx, fpR] at hag ⊢
    cases q with
    | alc zc =>
      simp only [nv] at hag ⊢
      cases hn : o.nid with
      | none => simp
      | some k =>
        have := hag.2.2 (base + k) (by simp [hn])
        first | (simp only [hneed, this, and_self]; done) | simp only [this, and_self]
    | bxo x =>
      have e := hod x (by simp [W.ods])
      simp only [nv, e] at hag ⊢
      cases hn : o.nid with
      | none => simp
      | some k =>
        have := hag.2.2 (base + k) (by simp [hn])
        first | (simp only [hneed, this, and_self]; done) | simp only [this, and_self]
    | bso es n zc ps =>
      have e : ps.map (fun p => (p.1, p.2.1, opv g σ.fr p.2.2)) = ps.map (fun p => (p.1, p.2.1, opv g σ'.fr p.2.2)) := List.map_congr_left fun p hp => by
        rw [hod p.2.2 (by simp only [W.ods, List.mem_map]; exact ⟨p, hp, rfl⟩)]
      simp only [nv, e] at hag ⊢
      cases hn : o.nid with
      | none => simp
      | some k =>
        have := hag.2.2 (base + k) (by simp [hn])
        first | (simp only [hneed, this, and_self]; done) | simp only [this, and_self]
    | mks es zc l c =>
      have e1 := hod l (by simp [W.ods])
      have e2 := hod c (by simp [W.ods])
      simp only [nv, sv, e1, e2, hneed] at hag ⊢
      cases opv g σ'.fr l <;> try (simp; done)
      cases opv g σ'.fr c <;> try (simp; done)
      cases hn : o.nid with
      | none => simp
      | some k =>
        have := hag.2.2 (base + k) (by simp [hn])
        first | (simp only [hneed, this, and_self]; done) | simp only [this, and_self]
    | st n a x =>
      have e1 := hod a (by simp [W.ods])
      have e2 := hod x (by simp [W.ods])
      simp only [nv, sv, e1, e2] at hag ⊢
      refine ⟨?_, trivial⟩
      cases ha : opv g σ'.fr a <;> simp only [hneed]
      case ad id g1 off =>
        have := hag.2.2 id (by simp [ha, fpV])
        rw [this]
    | mup kt sk m k v =>
      have e1 := hod m (by simp [W.ods])
      have e2 := hod k (by simp [W.ods])
      have e3 := hod v (by simp [W.ods])
      simp only [nv, sv, e1, e2, e3] at hag ⊢
      refine ⟨?_, trivial⟩
      cases ha : opv g σ'.fr m <;> simp only [hneed]
      case mp id g1 =>
        have := hag.2.2 id (by simp [ha, fpV])
        cases hk : keyL (opv g σ'.fr k) <;> simp only [this]
    | men kt sk zc m k =>
      have e1 := hod m (by simp [W.ods])
      have e2 := hod k (by simp [W.ods])
      simp only [nv, sv, e1, e2] at hag ⊢
      refine ⟨?_, trivial⟩
      cases ha : opv g σ'.fr m <;> simp only [hneed]
      case mp id g1 =>
        have := hag.2.2 id (by simp [ha, fpV])
        cases hk : keyL (opv g σ'.fr k) <;> simp only [this]
    | mes m s v =>
      have e1 := hod m (by simp [W.ods])
      have e2 := hod s (by simp [W.ods])
      have e3 := hod v (by simp [W.ods])
      simp only [nv, sv, e1, e2, e3] at hag ⊢
      refine ⟨?_, trivial⟩
      cases ha : opv g σ'.fr m <;> simp only [hneed]
      case mp id g1 =>
        have := hag.2.2 id (by simp [ha, fpV])
        cases hk : opv g σ'.fr s <;> simp only [this]
    | mkm st =>
      simp only [nv] at hag ⊢
      cases hn : o.nid with
      | none => simp
      | some k =>
        have := hag.2.2 (base + k) (by simp [hn])
        first | (simp only [hneed, this, and_self]; done) | simp only [this, and_self]
    | rng x =>
      have e1 := hod x (by simp [W.ods])
      simp only [nv, sv, e1] at hag ⊢
      cases ha : opv g σ'.fr x <;> simp only [hneed, and_self]
      case mp id g1 =>
        have := hag.2.1 _ rfl id (by simp [ha, fpV])
        rw [this]
        cases hid : σ'.hp[id]? with
        | none => simp only [and_self]
        | some b =>
          cases b <;> simp only [and_self]
          case map st ks vs =>
            cases hn : o.nid with
            | none => simp
            | some k =>
              have := hag.2.2 (base + k) (by simp [hn])
              simp only [this, and_self]
    | app es x y =>
      have e1 := hod x (by simp [W.ods])
      have e2 := hod y (by simp [W.ods])
      simp only [nv, sv, e1, e2] at hag ⊢
      refine ⟨?_, trivial⟩
      have hy : ∀ i ∈ fpV (opv g σ'.fr y), σ.hp[i]? = σ'.hp[i]? := by
        intro i hi
        cases hxx : opv g σ'.fr x <;> simp only [hxx] at hag <;> exact hag.2.1 _ rfl i hi
      have hnews : newsV σ.hp es (opv g σ'.fr y) = newsV σ'.hp es (opv g σ'.fr y) := newsV_local hy
      rw [hnews]
      cases hxx : opv g σ'.fr x <;> simp only [hxx, hneed] at hag ⊢
      case z e0 =>
        cases newsV σ'.hp es (opv g σ'.fr y) with
        | none => rfl
        | some t =>
          cases hn : o.nid with
          | none => simp
          | some k =>
            have := hag.2.2 (base + k) (by simp [hn])
            simp only [this]
      case rf id g1 off len es' =>
        have := hag.2.2 id (by simp)
        cases newsV σ'.hp es (opv g σ'.fr y) with
        | none => rfl
        | some t =>
          simp only
          rw [this]
  | o f xs => simp only [eff, hx, fpR, and_self]
end Go.Fam
