import Derived.Test.YtgcinomjcgebhaaFamO
set_option linter.all false
/- A region: its operations one behind the other. -/
namespace Go.Fam
structure St where
  fr : Nat → V
  hp : List Blk

def upd (fr : Nat → V) (d : Option Nat) (v : V) : Nat → V := match d with
  | none => fr
  | some d => fun t => if t = d then v else fr t

inductive RX where
  | q (x : Q) | w (x : W) | o (f : Od) (args : List Od)

/-- a resolved operation: where it writes, its guard (a slot and what it must hold), the slots that it reads, the number of its new block in a region that draws -/
structure RO where
  dst : Option Nat
  gd : Option (Nat × Bool)
  ts : List Nat
  nid : Option Nat
  x : RX

def evO (fr : Nat → V) : Od → V
  | .t n => fr n
  | .k v => v
def opv (g : Bool) (fr : Nat → V) (od : Od) : V := match g with
  | true => (ug (evO fr od)).2
  | false => evO fr od

def condB (fr : Nat → V) : Option (Nat × Bool) → Option Bool
  | none => some true
  | some (s, want) => match fr s with
    | .b x => some (x == want)
    | .gv c (.b x) => some (c && (x == want))
    | _ => none

def needQ (fr : Nat → V) (ts : List Nat) (q : Q) : Prop := match q with
  | .pick c a b => (ug (evO fr c)).1 = true ∧ (match (ug (evO fr c)).2 with
    | .b p => (p = true → (ug (evO fr a)).1 = true) ∧ (p = false → (ug (evO fr b)).1 = true)
    | _ => False)
  | _ => (ts.all fun n => (ug (fr n)).1) = true

def stepQ (Γ : Gam) (E : TypeId → Nat → Prop) (g : Bool) (o : RO) (q : Q) (σ : St) : Prop × V :=
  match g with
  | false => qv Γ E σ.hp q (opv false σ.fr)
  | true => match condB σ.fr o.gd with
    | none => (False, .u)
    | some c => match o.gd with
      | none => (needQ σ.fr o.ts q ∧ (qv Γ E σ.hp q (opv true σ.fr)).1, (qv Γ E σ.hp q (opv true σ.fr)).2)
      | some _ => (c = true → needQ σ.fr o.ts q ∧ (qv Γ E σ.hp q (opv true σ.fr)).1, .gv c (qv Γ E σ.hp q (opv true σ.fr)).2)

def needW (g : Bool) (o : RO) (fr : Nat → V) : Prop := match g with
  | false => True
  | true => (o.ts.all fun n => (ug (fr n)).1) = true

def stepW (E : TypeId → Nat → Prop) (g : Bool) (base : Nat) (o : RO) (q : W) (σ : St) : Prop × V × List Blk :=
  match nv σ.hp q (opv g σ.fr) with
  | some (ok, b, mk) => match o.nid with
    | none => (needW g o σ.fr ∧ ok, mk σ.hp.length, σ.hp ++ [b])
    | some k => (needW g o σ.fr ∧ ok ∧ σ.hp[base + k]? = some .hole, mk (base + k), σ.hp.set (base + k) b)
  | none => (needW g o σ.fr ∧ (sv E σ.hp q (opv g σ.fr)).1, (sv E σ.hp q (opv g σ.fr)).2.1, putB σ.hp (sv E σ.hp q (opv g σ.fr)).2.2)

def stepO (Γ : Gam) (g : Bool) (o : RO) (f : Od) (args : List Od) (σ : St) : Prop × V × List Blk :=
  (needW g o σ.fr ∧ (ocV Γ σ.hp (opv g σ.fr f) (args.map (opv g σ.fr))).1, (ocV Γ σ.hp (opv g σ.fr f) (args.map (opv g σ.fr))).2)

def step (Γ : Gam) (E : TypeId → Nat → Prop) (g : Bool) (base : Nat) (o : RO) (σ : St) : Prop × St :=
  match o.x with
  | .q q => ((stepQ Γ E g o q σ).1, ⟨upd σ.fr o.dst (stepQ Γ E g o q σ).2, σ.hp⟩)
  | .w q => ((stepW E g base o q σ).1, ⟨upd σ.fr o.dst (stepW E g base o q σ).2.1, (stepW E g base o q σ).2.2⟩)
  | .o f args => ((stepO Γ g o f args σ).1, ⟨upd σ.fr o.dst (stepO Γ g o f args σ).2.1, (stepO Γ g o f args σ).2.2⟩)

def runR (Γ : Gam) (E : TypeId → Nat → Prop) (g : Bool) (base : Nat) : List RO → St → (St → Prop) → Prop
  | [], σ, K => K σ
  | o :: l, σ, K => (step Γ E g base o σ).1 ∧ runR Γ E g base l (step Γ E g base o σ).2 K

def tmpOf : Operand → Option Nat | .tmp t => some t | _ => none

def dstOk (N : Nat × Nat) : Option Nat → Bool | some d => decide (d < N.1) && decide (N.2 ≤ d) | none => true
def puOf (pu : List Nat) : Option Nat → Bool | some d => pu.contains d | none => false
def ocOf (pu : List Nat) : Option Nat → Bool | some d => pu.contains (1000000 + d) | none => false
def gdOf (ops : Array Oper) : Option (Nat × Bool) → Option (Option (Nat × Bool))
  | none => some none
  | some (j, want) => ((ops[j]?).bind (·.dst)).map fun s => some (s, want)

/-- an operation, resolved ('pu': the slots whose boxes and literals are pure) -/
/- N: how many slots there are, and how many of them, the first ones, are never written -/
def resO (P : Program) (pu : List Nat) (N : Nat × Nat) (ops : Array Oper) (o : Oper) : Option RO :=
  if dstOk N o.dst then
    match gdOf ops o.guard with
    | none => none
    | some gd => if ocOf pu o.dst then (if o.guard.isNone then (resOc P o).map fun x => ⟨o.dst, none, o.op.operands.toList.filterMap tmpOf, none, .o x.1 x.2⟩ else none) else match resQ P (puOf pu o.dst) o with
      | some q => some ⟨o.dst, gd, o.op.operands.toList.filterMap tmpOf, none, .q q⟩
      | none => if o.guard.isNone then (resW P o).map fun w => ⟨o.dst, none, o.op.operands.toList.filterMap tmpOf, none, .w w⟩ else none
  else none

/-- frames stand for one another -/
def FrM (S : Nat → Prop) (w : World) (O : OInfo) (fr : Nat → V) (a : Act) : Prop := ∀ t, Rep S w O (fr t) (a.tmps.getD t undef)

/-- a frame's slots: how many; how many are never written, and what these hold -/
structure FrI where
  n : Nat
  md : Nat
  T : Nat → Value
def FrI.nm (M : FrI) : Nat × Nat := (M.n, M.md)

structure SR (M : FrI) (S : Nat → Prop) (w : World) (O : OInfo) (σ : St) (a : Act) : Prop where
  size : a.tmps.size = M.n
  kept : ∀ t, t < M.md → a.tmps.getD t undef = M.T t
  fr : FrM S w O σ.fr a
  mat : Mat S w O σ.hp

section
variable {P : Program} {F : Fence} {n : Nat}

theorem FrM.put {S S' : Nat → Prop} {w w' : World} {O O' : OInfo} {fr : Nat → V} {a : Act} (h : FrM S w O fr a) (hx : Ext S S' w w' O O') {dst : Option Nat} (hd : ∀ d, dst = some d → d < a.tmps.size) {v : V} {c : Value} (hv : Rep S' w' O' v c) :
    FrM S' w' O' (upd fr dst v) (a.put dst c) := by
  intro t
  cases dst with
  | none => exact Rep.ext hx _ _ (h t)
  | some d =>
    simp only [upd, Act.put]
    have hlt := hd d rfl
    split
    · rename_i e; subst e
      simpa [hlt] using hv
    · rename_i e
      have : (a.tmps.setIfInBounds d c).getD t undef = a.tmps.getD t undef := by simp [Array.getElem?_setIfInBounds_ne (Ne.symm e)]
      rw [this]
      exact Rep.ext hx _ _ (h t)

theorem FrM.ext {S S' : Nat → Prop} {w w' : World} {O O' : OInfo} {fr : Nat → V} {a : Act} (h : FrM S w O fr a) (hx : Ext S S' w w' O O') : FrM S' w' O' fr a := fun t => Rep.ext hx _ _ (h t)

theorem ug_rep {S : Nat → Prop} {w : World} {O : OInfo} {v : V} {c : Value} (h : Rep S w O v c) (hu : (ug v).1 = true) : Rep S w O (ug v).2 c := by
  cases v <;> try exact h
  case gv q v =>
    simp only [Rep] at h
    exact h.1 hu

theorem cV_ug {t : TypeId} {c : Value} {v : V} (h : cV P t c = some v) : (ug v).1 = true := by
  cases c with
  | bool b => simp [cV] at h; subst h; rfl
  | int k n => cases k <;> simp [cV] at h; subst h; rfl
  | slice a l cp =>
    rcases l with _ | l
    · rcases cp with _ | cp
      · simp [cV] at h; subst h; rfl
      · simp [cV] at h
    · simp [cV] at h
  | pointer a => cases a <;> simp [cV] at h; subst h; rfl
  | agg cs =>
    simp only [cV] at h
    split at h
    · simp at h; subst h; rfl
    · simp at h
      obtain ⟨vs, h1, rfl⟩ := h
      rfl
  | tuple cs =>
    simp only [cV] at h
    split at h
    · simp at h; subst h; rfl
    · cases h
  | map m =>
    cases m with
    | none => simp [cV] at h; subst h; rfl
    | some m => simp [cV] at h
  | nilFunc => simp [cV] at h; subst h; rfl
  | _ => simp [cV] at h

/-- operands, in plain mode -/
theorem odsOk_plain {S : Nat → Prop} {w : World} {O : OInfo} {fr : Nat → V} {a : Act} (h : FrM S w O fr a) (o : Oper) : OdsOk P S w O (opv false fr) a.eval o := by
  intro x _ t od hod
  cases x with
  | tmp k => simp only [rOd, Option.some.injEq] at hod; subst hod; exact h k
  | const v =>
    simp only [rOd, Option.map_eq_some_iff] at hod
    obtain ⟨v', hv, rfl⟩ := hod
    exact cV_ok hv S w O
  | func f =>
    simp only [rOd, Option.some.injEq] at hod
    subst hod
    simp only [opv, evO, Act.eval, Rep]
    exact ⟨#[], rfl, rfl, by simp [RepL]⟩
  | global g => simp [rOd] at hod

/-- operands, in the mode of guards -/
theorem odsOk_guard {S : Nat → Prop} {w : World} {O : OInfo} {fr : Nat → V} {a : Act} (h : FrM S w O fr a) (o : Oper) (hn : ((o.op.operands.toList.filterMap tmpOf).all fun n => (ug (fr n)).1) = true) : OdsOk P S w O (opv true fr) a.eval o := by
  intro x hx t od hod
  cases x with
  | tmp k =>
    simp only [rOd, Option.some.injEq] at hod; subst hod
    refine ug_rep (h k) ?_
    rw [List.all_eq_true] at hn
    exact hn k (List.mem_filterMap.2 ⟨.tmp k, by simpa using hx, rfl⟩)
  | const v =>
    simp only [rOd, Option.map_eq_some_iff] at hod
    obtain ⟨v', hv, rfl⟩ := hod
    have := cV_ok hv S w O
    exact ug_rep this (cV_ug hv)
  | func f =>
    simp only [rOd, Option.some.injEq] at hod
    subst hod
    simp only [opv, evO, ug, Act.eval, Rep]
    exact ⟨#[], rfl, rfl, by simp [RepL]⟩
  | global g => simp [rOd] at hod

/-- what a step of the region asks for: one operation in wpIn, in whatever mode -/
theorem q_step {Γ : Gam} (hG : GOk P Γ) (hF : OpenF F) {pu : Bool} {o : Oper} {q : Q} (hr : resQ P pu o = some q) {S : Nat → Prop} {w : World} {O : OInfo} {hp : List Blk} (hm : Mat S w O hp)
    {a : Act} {fr : Nat → V} (hfr : FrM S w O fr a) {ro : RO} (hts : ro.ts = o.op.operands.toList.filterMap tmpOf) (hneed : needQ fr ro.ts q) (hok : (qv Γ (EqFlat P) hp q (opv true fr)).1)
    {K : Act → World → Prop} {Q' : Exit → Act → World → Prop}
    (hK : ∀ c S' w', Evol S S' w w' O O → Mat S' w' O hp → Rep S' w' O (qv Γ (EqFlat P) hp q (opv true fr)).2 c → K (a.put o.dst c) w') : o.wpIn F n P a w K Q' := by
  by_cases hpk : ∃ c x y, q = .pick c x y
  · obtain ⟨c, x, y, rfl⟩ := hpk
    unfold resQ at hr
    cases hop : o.op <;> rw [hop] at hr <;> first | (simp at hr; done) | (try dsimp only at hr)
    case pick c' x' y' =>
      simp only [Option.bind_eq_bind, Option.bind_eq_some_iff, Option.pure_def, Option.some.injEq, Q.pick.injEq] at hr
      obtain ⟨c1, hc1, x1, hx1, y1, hy1, rfl, rfl, rfl⟩ := hr
      have base : ∀ (z : Operand) t od, rOd P t z = some od → Rep S w O (evO fr od) (a.eval z) := by
        intro z t od hod
        exact odsOk_plain (P := P) hfr { dst := none, op := .move z, type := 0, pos := "", after := #[], guard := none } z (by simp [Op.operands]) t od hod
      simp only [needQ] at hneed
      obtain ⟨hn1, hn2⟩ := hneed
      have r1 := ug_rep (base _ _ _ hc1) hn1
      simp only [qv, opv] at hok hK
      split at hok
      · rename_i p hp'
        rw [hp'] at hn2 r1
        simp only [hp'] at hK
        rcases pickV_val hok with ⟨p1, hp1, rfl, hv⟩ | ⟨p1, hp1, rfl, hv⟩
        · rw [hv] at hK
          refine wpIn_value (w' := w) (c := .bool p1) hF (by simp [hop]) ?_ (hK _ S w (Evol.refl S w O) hm (by simp [Rep]))
          have r2 := ug_rep (base _ _ _ hx1) (hn2.1 rfl)
          rw [hp1] at r2
          simp only [execOp, hop, rep_b r1]
          simp [asBool, rep_b r2]
        · rw [hv] at hK
          refine wpIn_value (w' := w) (c := .bool p1) hF (by simp [hop]) ?_ (hK _ S w (Evol.refl S w O) hm (by simp [Rep]))
          have r3 := ug_rep (base _ _ _ hy1) (hn2.2 rfl)
          rw [hp1] at r3
          simp only [execOp, hop, rep_b r1]
          simp [asBool, rep_b r3]
      · exact hok.elim
    all_goals
      exfalso
      clear hok hK hneed
      first
        | (simp [Option.bind_eq_some_iff] at hr; done)
        | ((repeat' split at hr) <;> first | (rename_i heq; simp at heq; done) | (simp [Option.bind_eq_some_iff] at hr; done) | (rename_i heq; exact absurd heq (by simp)))
  · have hn : (ro.ts.all fun n => (ug (fr n)).1) = true := by
      cases q <;> first | exact hneed | exact absurd ⟨_, _, _, rfl⟩ hpk
    rw [hts] at hn
    exact q_sound hG hF hr hm (odsOk_guard hfr o hn) hok hK

theorem yield_cond {S : Nat → Prop} {w : World} {O : OInfo} {fr : Nat → V} {a : Act} (h : FrM S w O fr a) {ops : Array Oper} {o : Oper} {j : Nat} {want : Bool} (hg : o.guard = some (j, want)) {s : Nat} (hs : (ops[j]?).bind (·.dst) = some s) {c : Bool}
    (hc : condB fr (some (s, want)) = some c) : Region.wanted o (yielded ops a.tmps) = c := by
  have hr := h s
  simp only [condB] at hc
  have hy : Region.wanted o (yielded ops a.tmps) = ((match a.tmps[s]? with | some (.bool b) => some b | _ => none) == some want) := by
    simp only [Region.wanted, hg, yielded]
    rw [hs]
    rfl
  rw [hy]
  have key : ∀ x, a.tmps.getD s undef = .bool x → a.tmps[s]? = some (.bool x) := by
    intro x hx
    cases hts : a.tmps[s]? with
    | none => simp [hts, undef] at hx
    | some v => simpa [hts] using hx
  split at hc
  · rename_i x hx
    rw [hx] at hr
    cases hc
    rw [key x (rep_b hr)]
    simp
  · rename_i q x hx
    rw [hx] at hr
    cases hc
    simp only [Rep] at hr
    cases q with
    | true =>
      rw [key x (hr.1 rfl)]
      simp
    | false =>
      have hu := hr.2 rfl
      have : (match a.tmps[s]? with | some (.bool b) => some b | _ => none) = (none : Option Bool) := by
        cases hts : a.tmps[s]? with
        | none => rfl
        | some v => 
          have : v = undef := by simpa [hts] using hu
          subst this; rfl
      rw [this]; rfl
  · cases hc


theorem resO_inv {pu : List Nat} {N : Nat × Nat} {ops : Array Oper} {o : Oper} {ro : RO} (h : resO P pu N ops o = some ro) :
    ro.dst = o.dst ∧ (∀ d, o.dst = some d → d < N.1 ∧ N.2 ≤ d) ∧ ro.ts = o.op.operands.toList.filterMap tmpOf ∧
    ((o.guard = none ∧ ro.gd = none) ∨ ∃ j want s, o.guard = some (j, want) ∧ (ops[j]?).bind (·.dst) = some s ∧ ro.gd = some (s, want)) ∧
    ((∃ q b, ro.x = .q q ∧ resQ P b o = some q) ∨ (∃ q, ro.x = .w q ∧ o.guard = none ∧ resW P o = some q) ∨ (∃ f xs, ro.x = .o f xs ∧ o.guard = none ∧ resOc P o = some (f, xs))) := by
  unfold resO at h
  split at h
  · rename_i hd
    have hdst : ∀ d, o.dst = some d → d < N.1 ∧ N.2 ≤ d := by
      intro d hd'
      rw [hd'] at hd
      simpa [dstOk] using hd
    split at h
    · cases h
    · rename_i gd hgd
      have hg : (o.guard = none ∧ gd = none) ∨ ∃ j want s, o.guard = some (j, want) ∧ (ops[j]?).bind (·.dst) = some s ∧ gd = some (s, want) := by
        cases hgu : o.guard with
        | none => rw [hgu] at hgd; simp [gdOf] at hgd; exact .inl ⟨rfl, hgd.symm⟩
        | some jw =>
          obtain ⟨j, want⟩ := jw
          rw [hgu] at hgd
          simp only [gdOf, Option.map_eq_some_iff] at hgd
          obtain ⟨s, hs, rfl⟩ := hgd
          exact .inr ⟨j, want, s, rfl, hs, rfl⟩
      split at h
      · split at h
        · rename_i hgn
          have hgn' : o.guard = none := by simpa using hgn
          simp only [Option.map_eq_some_iff] at h
          obtain ⟨x, hx, rfl⟩ := h
          exact ⟨rfl, hdst, rfl, .inl ⟨hgn', rfl⟩, .inr (.inr ⟨x.1, x.2, rfl, hgn', hx⟩)⟩
        · cases h
      · split at h
        · rename_i q hq
          simp only [Option.some.injEq] at h
          subst h
          exact ⟨rfl, hdst, rfl, hg, .inl ⟨q, _, rfl, hq⟩⟩
        · split at h
          · rename_i hgn
            have hgn' : o.guard = none := by simpa using hgn
            simp only [Option.map_eq_some_iff] at h
            obtain ⟨q, hq, rfl⟩ := h
            exact ⟨rfl, hdst, rfl, .inl ⟨hgn', rfl⟩, .inr (.inl ⟨q, rfl, hgn', hq⟩)⟩
          · cases h
  · cases h

theorem put_defers (a : Act) (d : Option Nat) (v : Value) : (a.put d v).defers = a.defers := by cases d <;> rfl
theorem put_size (a : Act) (d : Option Nat) (v : Value) : (a.put d v).tmps.size = a.tmps.size := by cases d <;> simp [Act.put]

theorem put_ne (a : Act) (d : Option Nat) (v : Value) (t : Nat) (h : ∀ d', d = some d' → d' ≠ t) : (a.put d v).tmps.getD t undef = a.tmps.getD t undef := by
  cases d with
  | none => rfl
  | some d => simp [Act.put, Array.getElem?_setIfInBounds_ne (h d rfl)]

/-- ONE OPERATION OF A REGION -/
theorem op_step {Γ : Gam} (hG : GOk P Γ) (hF : OpenF F) {pu : List Nat} {M : FrI} {ops : Array Oper} {i : Nat} {o : Oper} (hi : ops[i]? = some o) {ro : RO} (hro : resO P pu M.nm ops o = some { ro with nid := none })
    {g : Bool} (hg : g = false → o.guard = none) {base : Nat} {S : Nat → Prop} {w : World} {O : OInfo} {σ : St} {a : Act} (hsr : SR M S w O σ a) (hok : (step Γ (EqFlat P) g base ro σ).1)
    {K : Act → World → Prop} {Q' : Exit → Act → World → Prop}
    (hK : ∀ S' w' O' a', Evol S S' w w' O O' → SR M S' w' O' (step Γ (EqFlat P) g base ro σ).2 a' → a'.defers = a.defers → K a' w') : wpOpIn F n P ops Q' i K a w := by
  obtain ⟨hdst, hdlt, hts, hgd, hx⟩ := resO_inv hro
  simp only at hdst hts hgd hx
  have hdlt' : ∀ d, o.dst = some d → d < a.tmps.size := by rw [hsr.size]; exact fun d hd => (hdlt d hd).1
  have hkept : ∀ (c : Value) t, t < M.md → (a.put o.dst c).tmps.getD t undef = M.T t := fun c t ht => (put_ne a o.dst c t fun d hd => by have := (hdlt d hd).2; simp only [FrI.nm] at this; omega).trans (hsr.kept t ht)
  simp only [wpOpIn, hi]
  rcases hx with ⟨q, b, hxq, hq⟩ | ⟨q, hxq, hgn, hq⟩ | ⟨f0, xs0, hxq, hgn, hq⟩
  · -- a quiet one
    simp only [step, hxq] at hok hK
    have fin : ∀ (v : V), (∀ S' w' O' a', Evol S S' w w' O O' → SR M S' w' O' ⟨upd σ.fr ro.dst v, σ.hp⟩ a' → a'.defers = a.defers → K a' w') →
        ∀ c S' w', Evol S S' w w' O O → Mat S' w' O σ.hp → Rep S' w' O v c → K (a.put o.dst c) w' := by
      intro v hK c S' w' hev hmat hrep
      refine hK S' w' O _ hev ⟨by rw [put_size]; exact hsr.size, hkept _, ?_, hmat⟩ (put_defers _ _ _)
      rw [hdst]
      exact hsr.fr.put hev.ext hdlt' hrep
    cases g with
    | false =>
      have hgn := hg rfl
      simp only [stepQ] at hok hK
      have hw : Region.wanted o (yielded ops a.tmps) = true := by simp [Region.wanted, hgn]
      rw [if_pos hw]
      exact q_sound hG hF hq hsr.mat (odsOk_plain hsr.fr o) hok (fin _ hK)
    | true =>
      rcases hgd with ⟨hgn, hgd⟩ | ⟨j, want, s, hgo, hs, hgd⟩
      · have hw : Region.wanted o (yielded ops a.tmps) = true := by simp [Region.wanted, hgn]
        rw [if_pos hw]
        simp only [stepQ, hgd, condB] at hok hK
        exact q_step hG hF hq hsr.mat hsr.fr hts hok.1 hok.2 (fin _ hK)
      · simp only [stepQ, hgd] at hok hK
        cases hc : condB σ.fr (some (s, want)) with
        | none => simp [hc] at hok
        | some c =>
          have hw := yield_cond hsr.fr (o := o) hgo hs hc
          simp only [hc] at hok hK
          rw [hw]
          cases c with
          | true =>
            rw [if_pos rfl]
            refine q_step hG hF hq hsr.mat hsr.fr hts (hok rfl).1 (hok rfl).2 ?_
            intro c S' w' hev hmat hrep
            exact fin _ hK c S' w' hev hmat (by simp only [Rep]; exact ⟨fun _ => hrep, fun h => by cases h⟩)
          | false =>
            rw [if_neg (by simp)]
            refine ⟨fun f _ => hF.1 f, ?_⟩
            exact fin _ hK undef S w (Evol.refl S w O) hsr.mat (by simp only [Rep]; exact ⟨fun h => (by cases h), fun _ => trivial⟩)
  · -- one that makes or changes a block
    have hw : Region.wanted o (yielded ops a.tmps) = true := by simp [Region.wanted, hgn]
    rw [if_pos hw]
    have hods : needW g ro σ.fr → OdsOk P S w O (opv g σ.fr) a.eval o := by
      intro hn
      cases g with
      | false => exact odsOk_plain hsr.fr o
      | true => simp only [needW] at hn; rw [hts] at hn; exact odsOk_guard hsr.fr o hn
    simp only [step, hxq, stepW] at hok hK
    cases hnv : nv σ.hp q (opv g σ.fr) with
    | none =>
      simp only [hnv] at hok hK
      refine s_sound hF hq hsr.mat (hods hok.1) hok.2 ?_
      intro c w' O' hev hmat hrep hno
      refine hK S w' O' _ hev ⟨by rw [put_size]; exact hsr.size, hkept _, ?_, hmat⟩ (put_defers _ _ _)
      rw [hdst]
      exact hsr.fr.put hev.ext hdlt' hrep
    | some t =>
      obtain ⟨ok, blk, mk⟩ := t
      simp only [hnv] at hok hK
      cases hnid : ro.nid with
      | none =>
        simp only [hnid] at hok hK
        refine n_sound (id := σ.hp.length) hF hq hsr.mat (mat_app hsr.mat [blk]) (hods hok.1) hnv hok.2 (mat_none hsr.mat) (by simp) ?_
        intro c w' O' hev hmat hrep _
        refine hK S w' O' _ hev ⟨by rw [put_size]; exact hsr.size, hkept _, ?_, hmat⟩ (put_defers _ _ _)
        rw [hdst]
        exact hsr.fr.put hev.ext hdlt' hrep
      | some k =>
        simp only [hnid] at hok hK
        obtain ⟨h1, h2⟩ := mat_hole hsr.mat hok.2.2 blk
        refine n_sound (id := base + k) hF hq hsr.mat h2 (hods hok.1) hnv hok.2.1 h1 (by rw [List.getElem?_set_self (getElemLt hok.2.2)]) ?_
        intro c w' O' hev hmat hrep _
        refine hK S w' O' _ hev ⟨by rw [put_size]; exact hsr.size, hkept _, ?_, hmat⟩ (put_defers _ _ _)
        rw [hdst]
        exact hsr.fr.put hev.ext hdlt' hrep
  · -- a call whose result owns blocks
    have hw : Region.wanted o (yielded ops a.tmps) = true := by simp [Region.wanted, hgn]
    rw [if_pos hw]
    simp only [step, hxq, stepO] at hok hK
    have hods : OdsOk P S w O (opv g σ.fr) a.eval o := by
      cases g with
      | false => exact odsOk_plain hsr.fr o
      | true => have hn := hok.1; simp only [needW] at hn; rw [hts] at hn; exact odsOk_guard hsr.fr o hn
    refine oc_sound hG hF hq hsr.mat hods hok.2 ?_
    intro c S' w' O' hev hmat hrep
    refine hK S' w' O' _ hev ⟨by rw [put_size]; exact hsr.size, hkept _, ?_, hmat⟩ (put_defers _ _ _)
    rw [hdst]
    exact hsr.fr.put hev.ext hdlt' hrep


/-- what is still to be yielded: block 0 -/
def ghO (hp : List Blk) : Option (List V × Option (List (List V))) := match (hp[0]? : Option Blk) with | some (Blk.gh c y) => some (c, y) | _ => none
theorem ghO_at {hp : List Blk} {y : List V × Option (List (List V))} (h : ghO hp = some y) : hp[0]? = some (.gh y.1 y.2) := by
  unfold ghO at h
  split at h
  · rename_i c' y' hy; cases h; exact hy
  · cases h
theorem ghO_of {hp : List Blk} {y : List V × Option (List (List V))} (h : hp[0]? = some (.gh y.1 y.2)) : ghO hp = some y := by simp [ghO, h]
theorem ghO_app {hp hp' : List Blk} {y : List V × Option (List (List V))} (h : ghO hp = some y) : ghO (hp ++ hp') = some y := by
  refine ghO_of ?_
  have := ghO_at h
  rw [List.getElem?_append_left (getElemLt this)]
  exact this
theorem ghO_set {hp : List Blk} {y : List V × Option (List (List V))} (h : ghO hp = some y) {id : Nat} {b b' : Blk} (hid : hp[id]? = some b) (hb : ∀ c y, b ≠ .gh c y) : ghO (hp.set id b') = some y := by
  refine ghO_of ?_
  have := ghO_at h
  rw [List.getElem?_set_ne (by rintro rfl; rw [this] at hid; cases hid; exact hb _ _ rfl)]
  exact this
theorem sv_gh {E : TypeId → Nat → Prop} {hp : List Blk} {q : W} {ρ : Od → V} {y : List V × Option (List (List V))} (h : ghO hp = some y) : ghO (putB hp (sv E hp q ρ).2.2) = some y := by
  cases q <;> simp only [sv] <;> try exact h
  all_goals
    split
    · split
      · rename_i hid
        exact ghO_set h hid (fun _ _ h => by cases h)
      · exact h
    · exact h
theorem step_gh {Γ : Gam} {E : TypeId → Nat → Prop} {g : Bool} {base : Nat} {o : RO} {σ : St} {y : List V × Option (List (List V))} (hok : (step Γ E g base o σ).1) (h : ghO σ.hp = some y) : ghO (step Γ E g base o σ).2.hp = some y := by
  unfold step at hok ⊢
  cases hx : o.x with
  | q q => exact h
  | w q =>
    simp only [hx, stepW] at hok ⊢
    cases hn : nv σ.hp q (opv g σ.fr) with
    | none => simp only [hn] at hok ⊢; exact sv_gh h
    | some t =>
      obtain ⟨ok, b, mk⟩ := t
      simp only [hn] at hok ⊢
      cases hnid : o.nid with
      | none => simp only [hnid] at hok ⊢; exact ghO_app h
      | some k => simp only [hnid] at hok ⊢; exact ghO_set h hok.2.2 (fun _ _ h => by cases h)
  | o f xs =>
    simp only [hx, stepO, ocV] at hok ⊢
    split
    · split
      · exact ghO_app h
      · exact h
    · exact h
end
end Go.Fam
