import Derived.Test.YtgcinomjcgebhaaFamS
set_option linter.all false
/- A function's contract out of its body. -/
namespace Go.Fam
inductive RV where
  | t (n : Nat) | c (a : Nat) (ag : Bool) (n : Nat)

def rv1 (hp : List Blk) (fr : Nat → V) : RV → Prop × V
  | .t n => (True, fr n)
  | .c a ag n => ldV hp ag n (fr a)
def rvs (hp : List Blk) (fr : Nat → V) : List RV → Prop
  | [] => True
  | r :: l => (rv1 hp fr r).1 ∧ rvs hp fr l
def resV (hp : List Blk) (fr : Nat → V) : List RV → V
  | [r] => (rv1 hp fr r).2
  | l => .tp (l.map fun r => (rv1 hp fr r).2)

def resRV1 (P : Program) : ResultVar → Option RV
  | .tmp t => some (.t t)
  | .cell a t => (ldB P t).map (.c a (isAggB P t))
def resRV (P : Program) (l : List ResultVar) : Option (List RV) := l.mapM (resRV1 P)

/-- what a function's end asks for -/
def endQ (rs : List RV) (r : V) : Exit → St → Prop
  | .normal, σ | .ret, σ => rvs σ.hp σ.fr rs ∧ vw σ.hp 8 (resV σ.hp σ.fr rs) = r
  | _, _ => False

section
variable {P : Program} {F : Fence} {n : Nat} {Γ : Gam} {N : FrI} {pu : List Nat}

def resGet (tmps : Array Value) : ResultVar → Sem Value
  | .tmp t => pure (tmps.getD t undef)
  | .cell a t => do loadVar t (← asAddr (tmps.getD a undef))

theorem results_eq (fn : Func) (tmps : Array Value) : results fn tmps = (do let vs ← fn.results.mapM (resGet tmps); pure (if h : vs.size = 1 then vs[0] else .tuple vs)) := by
  unfold results
  rfl

theorem rv1_run {S : Nat → Prop} {w : World} {O : OInfo} {σ : St} {a : Act} (hsr : SR N S w O σ a) {x : ResultVar} {r : RV} (hr : resRV1 P x = some r) (hok : (rv1 σ.hp σ.fr r).1) :
    ∃ c, (resGet a.tmps x).run P w = .ok c w ∧ Rep S w O (rv1 σ.hp σ.fr r).2 c := by
  cases x with
  | tmp t =>
    simp only [resRV1, Option.some.injEq] at hr
    subst hr
    exact ⟨_, rfl, hsr.fr t⟩
  | cell t ty =>
    simp only [resRV1, Option.map_eq_some_iff] at hr
    obtain ⟨k, hk, rfl⟩ := hr
    simp only [rv1] at hok ⊢
    obtain ⟨c, hrun, hrep⟩ := ld_run hk hsr.mat (hsr.fr t) hok
    refine ⟨c, ?_, hrep⟩
    have hp : ∃ ad, a.tmps.getD t undef = .pointer (some ad) := by
      have h1 := hsr.fr t
      cases hv : σ.fr t <;> rw [hv] at hok h1 <;> first | (simp [ldV] at hok; done) | skip
      case pa cs =>
        simp only [Rep] at h1
        obtain ⟨blk, off, cur, e, fr, h2, _⟩ := h1
        exact ⟨_, h2⟩
      case ad id g off =>
        simp only [ldV] at hok
        split at hok
        · rename_i g' vs hid
          simp only [Rep] at h1
          obtain ⟨_, gO, ob, hO, hle, h2⟩ := h1
          have hb := hsr.mat.blk id gO ob hO
          rw [hid] at hb
          simp only [BlkOk] at hb
          have e : g = gO := hok.1.symm.trans hb.1
          obtain ⟨b, _, h3⟩ := h2 e
          exact ⟨_, h3⟩
        · exact hok.elim
    obtain ⟨ad, had⟩ := hp
    rw [had] at hrun
    simp only [resGet, had, asAddr, Sem.run_bind, Sem.run_pure, Result.andThen_ok]
    simpa [Instr.loadAt, Instr.sureAddr] using hrun

theorem rvs_run {S : Nat → Prop} {w : World} {O : OInfo} {σ : St} {a : Act} (hsr : SR N S w O σ a) : ∀ (xs : List ResultVar) (rs : List RV), resRV P xs = some rs → rvs σ.hp σ.fr rs →
    ∃ cs, (xs.mapM (resGet a.tmps)).run P w = .ok cs w ∧ cs.length = rs.length ∧ RepL S w O (rs.map fun r => (rv1 σ.hp σ.fr r).2) cs
  | [], rs, h, _ => by
    simp [resRV] at h
    subst h
    exact ⟨[], rfl, rfl, by simp [RepL]⟩
  | x :: xs, rs, h, hok => by
    simp only [resRV, List.mapM_cons, Option.bind_eq_bind, Option.bind_eq_some_iff, Option.pure_def, Option.some.injEq] at h
    obtain ⟨r, hr, rs', hrs, rfl⟩ := h
    obtain ⟨h1, h2⟩ := hok
    obtain ⟨c, hc, hrep⟩ := rv1_run hsr hr h1
    obtain ⟨cs, hcs, hl, hreps⟩ := rvs_run hsr xs rs' hrs h2
    refine ⟨c :: cs, ?_, by simp [hl], by simp only [List.map_cons, RepL]; exact ⟨hrep, hreps⟩⟩
    rw [List.mapM_cons]
    simp only [Sem.run_bind, hc, Result.andThen_ok, hcs, Sem.run_pure]

theorem results_run {S : Nat → Prop} {w : World} {O : OInfo} {σ : St} {a : Act} (hsr : SR N S w O σ a) {fn : Func} {rs : List RV} (hr : resRV P fn.results.toList = some rs) (hok : rvs σ.hp σ.fr rs) :
    ∃ c, (results fn a.tmps).run P w = .ok c w ∧ Rep S w O (resV σ.hp σ.fr rs) c := by
  obtain ⟨cs, hcs, hl, hrep⟩ := rvs_run hsr _ _ hr hok
  rw [results_eq, Array.mapM_eq_mapM_toList]
  simp only [Sem.run_bind, map_eq_pure_bind, hcs, Result.andThen_ok, Sem.run_pure]
  refine ⟨_, rfl, ?_⟩
  match rs, cs, hl, hrep with
  | [], [], _, _ => simp [resV, Rep, RepL]
  | [r], [c], _, h => simpa [resV, RepL] using h
  | r :: r' :: rs, c :: c' :: cs, hl, h =>
    simp only [resV, Rep]
    exact ⟨(c :: c' :: cs).toArray, by simp, by simpa using hl, by simpa using h⟩

def zipA : Nat → List V → List (Nat × V)
  | _, [] => []
  | k, v :: vs => (k, v) :: zipA (k + 1) vs

theorem lkp_zipA : ∀ (vs : List V) (k t : Nat), lkp (zipA k vs) t = if k ≤ t then (vs[t - k]?).getD .u else .u
  | [], k, t => by simp [zipA, lkp]
  | v :: vs, k, t => by
    simp only [zipA, lkp]
    split
    · rename_i e; subst e; simp
    · rename_i hne
      rw [lkp_zipA vs (k + 1) t]
      by_cases h : k ≤ t
      · have h1 : k + 1 ≤ t := by omega
        rw [if_pos h, if_pos h1]
        have : t - k = (t - (k + 1)) + 1 := by omega
        rw [this]; simp
      · rw [if_neg h, if_neg (by omega)]

theorem Rep.ext_false {w w' : World} {x : List V} {cs : List Value} (h : RepL (fun _ => False) w noO x cs) : RepL (fun _ => False) w' noO x cs :=
  RepL.ext ⟨fun _ h => h.elim, fun _ _ _ h => by cases h⟩ _ _ h

theorem evol_turn {S0 S : Nat → Prop} {w0 w : World} {O : OInfo} (h : Evol S0 S w0 w noO O) {L : Nat} {o o' : Obj} (hb : w.heap[L]? = some o) (hc : o.isCells = false) (hc' : o'.isCells = false) (hS : ¬ S L) (hL : w0.heap.size ≤ L) :
    Evol S0 S w0 (w.putObj L o') noO O := by
  have hoth : ∀ k, k ≠ L → (w.putObj L o').heap[k]? = w.heap[k]? := fun k hk => World.putObj_heap_other hk
  have hnew : (w.putObj L o').heap[L]? = some o' := World.putObj_heap_same (Array.getElem?_eq_some_iff.1 hb).1
  refine ⟨⟨fun k hk => ⟨(h.ext.keep k hk).1, ?_⟩, fun _ _ _ h => (by cases h)⟩, h.os, h.tape, h.output, by simpa using h.size, fun a => ?_, fun k hk hno => ?_, h.fresh, h.grow⟩
  · rw [hoth k (by rintro rfl; exact hS (h.ext.keep k hk).1)]; exact (h.ext.keep k hk).2
  · refine Eq.trans ?_ (h.fz a)
    by_cases e : a.block = L
    · simp only [World.frozen?, e, hnew, hb]
      cases o <;> cases o' <;> first | rfl | (simp [Obj.isCells] at hc; done) | (simp [Obj.isCells] at hc'; done)
    · simp only [World.frozen?, hoth _ e]
  · rw [hoth k (by omega)]; exact h.old k hk hno

/-- what a function carries along -/
def Cn (S0 : Nat → Prop) (w0 : World) : Ctx := fun S w O ds _ => Evol S0 S w0 w noO O ∧ ∃ Ds : List Nat, ds = Ds.map col ∧ Ds.Nodup ∧ ∀ D ∈ Ds, w.heap[D]? = some (.deferred (some [])) ∧ ¬ S D ∧ ¬ Own O D ∧ w0.heap.size ≤ D

theorem cn_ok {M : FrI} {S0 : Nat → Prop} {w0 : World} (hro : F.round = none) : CtxOk P F n M (Cn S0 w0) 0 1 w0.heap.size := by
  refine ⟨?_, ?_, fun _ => hro, fun _ _ _ _ _ _ h => h.1.size, ?_, ?_, ?_, fun h => (by cases h)⟩
  · rintro S S' w w' O O' ds h h' ⟨h1, Ds, h2, h3, h4⟩ hlt ev _
    refine ⟨h1.trans ev, Ds, h2, h3, fun D hD => ?_⟩
    obtain ⟨a1, a2, a3, a4⟩ := h4 D hD
    have hDlt := (Array.getElem?_eq_some_iff.1 a1).1
    refine ⟨(ev.old D hDlt a3).trans a1, fun hS => ?_, fun hO => ?_, a4⟩
    · rcases ev.grow D hS with h | h | h
      · exact a2 h
      · exact a3 h
      · omega
    · rcases ev.fresh D hO with h | h
      · exact a3 h
      · omega
  · rintro S w O ds h h' k ⟨h1, Ds, h2, h3, h4⟩ _ _
    refine ⟨h1.cut k, Ds, h2, h3, fun D hD => ?_⟩
    obtain ⟨a1, a2, a3, a4⟩ := h4 D hD
    refine ⟨a1, ?_, fun ⟨id, g, ho⟩ => a3 ⟨id, g, (restO_some ho).2⟩, a4⟩
    rintro (h | ⟨id, g, ho⟩)
    · exact a2 h
    · exact a3 ⟨id, g, (fromO_some ho).2⟩
  · rintro _ S w O ds h L r r' ⟨h1, Ds, h2, h3, h4⟩ hL hS hO hb
    refine ⟨evol_turn h1 hL rfl rfl hS hb, Ds, h2, h3, fun D hD => ?_⟩
    obtain ⟨a1, a2, a3, a4⟩ := h4 D hD
    refine ⟨?_, a2, a3, a4⟩
    rw [World.putObj_heap_other (by rintro rfl; rw [hL] at a1; cases a1)]
    exact a1
  · rintro _ S w O ds h r ⟨h1, Ds, h2, h3, h4⟩ hS hO
    have hl : Later w ((w.alloc (.deferred (some []))).alloc (.loop r)) := (later_alloc w _ rfl).trans (later_alloc _ _ rfl)
    refine ⟨h1.trans (hl.evol hS hO), w.heap.size :: Ds, by rw [h2]; rfl, List.nodup_cons.2 ⟨fun hD => ?_, h3⟩, fun D hD => ?_⟩
    · have := (Array.getElem?_eq_some_iff.1 (h4 _ hD).1).1; omega
    · rcases List.mem_cons.1 hD with rfl | hD
      · refine ⟨?_, fun h => ?_, fun h => ?_, h1.size⟩
        · exact (heap_alloc_old _ _ (by simp)).trans (World.alloc_heap_new w _)
        · have := hS _ h; omega
        · have := hO _ h; omega
      · obtain ⟨a1, a2, a3, a4⟩ := h4 D hD
        exact ⟨(hl.old D (Array.getElem?_eq_some_iff.1 a1).1).trans a1, a2, a3, a4⟩

  · rintro _ _ S w O O' ds h h' ⟨h1, Ds, h2, h3, h4⟩ hO
    exact ⟨h1.less hO, Ds, h2, h3, fun D hD => ⟨(h4 D hD).1, (h4 D hD).2.1, fun h => (h4 D hD).2.2.1 (hO D h), (h4 D hD).2.2.2⟩⟩

/-- the way out, past the marks of the ranges over functions -/
theorem leave_marks {M : FrI} {fn : Func} {rs : List RV} (hr : resRV P fn.results.toList = some rs) {S0 S : Nat → Prop} {w0 : World} {O : OInfo} {σ : St} {a : Act} (hok : rvs σ.hp σ.fr rs) {R : Ending → World → Prop}
    (hR : ∀ w' c, Evol S0 S w0 w' noO O → Mat S w' O σ.hp → Rep S w' O (resV σ.hp σ.fr rs) c → R (.returned c) w') :
    ∀ (Ds : List Nat) (w : World), Ds.Nodup → (∀ D ∈ Ds, w.heap[D]? = some (.deferred (some [])) ∧ ¬ S D ∧ ¬ Own O D ∧ w0.heap.size ≤ D) → Evol S0 S w0 w noO O → SR M S w O σ a → LeavesInM F n P fn a.tmps R (Ds.map col) .returning w
  | [], w, _, _, hev, hsr => by
    obtain ⟨c, hrun, hrp⟩ := results_run hsr hr hok
    exact ⟨c, hrun, hR w c hev hsr.mat hrp⟩
  | D :: Ds, w, hnd, hD, hev, hsr => by
    obtain ⟨hn1, hn2⟩ := List.nodup_cons.1 hnd
    obtain ⟨a1, a2, a3, a4⟩ := hD D (by simp)
    refine ⟨by simp, .inl ⟨D, _, rfl, run_takeDeferred a1, ?_⟩⟩
    refine leave_marks hr hok hR Ds _ hn2 (fun D' hD' => ?_) (evol_turn hev a1 rfl rfl a2 a4) (sr_turn hsr _ a2 a3)
    obtain ⟨b1, b2⟩ := hD D' (by simp [hD'])
    exact ⟨(World.putObj_heap_other (by rintro rfl; exact hn1 hD')).trans b1, b2⟩

theorem start_fr {S : Nat → Prop} {w : World} {args : List V} {cargs : Array Value} {nt : Nat} (hsz : cargs.size = args.length) (hn : args.length ≤ nt) (hrep : RepL S w noO args cargs.toList) :
    (cargs ++ Array.replicate (nt - cargs.size) undef).size = nt ∧ FrM S w noO (lkp (zipA 0 args)) { tmps := cargs ++ Array.replicate (nt - cargs.size) undef, defers := [] } ∧
      ∀ t, t < cargs.size → (cargs ++ Array.replicate (nt - cargs.size) undef).getD t undef = cargs.getD t undef := by
  have hlo : ∀ t, t < cargs.size → (cargs ++ Array.replicate (nt - cargs.size) undef).getD t undef = cargs.getD t undef := by
    intro t ht
    simp [Array.getElem?_append, ht]
  refine ⟨by simp; omega, fun t => ?_, hlo⟩
  show Rep S w noO (lkp (zipA 0 args) t) _
  rw [lkp_zipA, if_pos (Nat.zero_le _), Nat.sub_zero]
  cases ht : args[t]? with
  | none => simp [Rep]
  | some v =>
    obtain ⟨cv, hcv, hv⟩ := RepL.get _ _ t v hrep ht
    have hlt : t < cargs.size := by have := getElemLt hcv; simpa using this
    show Rep S w noO v ((cargs ++ Array.replicate (nt - cargs.size) undef).getD t undef)
    rw [hlo t hlt]
    have : cargs.getD t undef = cv := by
      rw [Array.getElem?_toList] at hcv
      have h2 := (Array.getElem?_eq_some_iff.1 hcv).2
      simp [hlt, h2]
    rw [this]
    exact hv

/-- what a body's end asks for -/
def endK (rs : List RV) (K : St → Prop) : Exit → St → Prop
  | .normal, σ | .ret, σ => rvs σ.hp σ.fr rs ∧ K σ
  | _, _ => False

theorem body_calls (hG : GOk P Γ) (hm : P.follows .mixedOrders = true) {f : FuncId} {fn : Func} {c : Code} {rc : RC} {rs : List RV} (hf : P.funcs[f]? = some fn) (hb : fn.body = some c)
    (hc : comp P pu (fn.ntmps, 0) 0 1 rc c = some rc) (hr : resRV P fn.results.toList = some rs) {args : List V} (hn : args.length ≤ fn.ntmps) {K : St → Prop}
    (h : wpR Γ (EqFlat P) rc (endK rs K) ⟨lkp (zipA 0 args), []⟩) {S : Nat → Prop} {w : World} {cargs : Array Value} (hS : ∀ n, S n → n < w.heap.size) (hsz : cargs.size = args.length) (hrep : RepL S w noO args cargs.toList) {R : Ending → World → Prop}
    (hR : ∀ σ S' O' w' c, K σ → Evol S S' w w' noO O' → Mat S' w' O' σ.hp → Rep S' w' O' (resV σ.hp σ.fr rs) c → R (.returned c) w') : Calls P f cargs w R := by
  refine openF_wide.calls (n := 0) (callsIn_of_wp_marks hf hb trivial ?_)
  obtain ⟨h1, h2, h3⟩ := start_fr hsz hn hrep
  obtain ⟨M, hM⟩ : ∃ M : FrI, M = ⟨fn.ntmps, 0, fun _ => undef⟩ := ⟨_, rfl⟩
  have hnm : M.nm = (fn.ntmps, 0) := by rw [hM]; rfl
  have hat : At (Cn S w) M S w noO ⟨lkp (zipA 0 args), []⟩ { tmps := cargs ++ Array.replicate (fn.ntmps - cargs.size) undef, defers := [] } := by
    refine ⟨⟨Evol.refl _ _ _, [], rfl, List.nodup_nil, fun _ h => by cases h⟩, ⟨by rw [hM]; exact h1, fun t ht => by rw [hM] at ht; exact absurd ht (Nat.not_lt_zero _), h2, ⟨hS, fun _ _ _ h => (by cases h), fun _ _ _ _ _ h => (by cases h), fun _ _ _ h => (by cases h)⟩⟩⟩
  refine wpR_sound hG hm (M := M) rc c rc _ 0 0 1 openF_wide (by rw [hnm]; exact hc) (Cn S w) w.heap.size (cn_ok rfl) _ _ _ S w noO _ h hat ?_
  intro e σ' S' w' O' a' he hat'
  have fin : (rvs σ'.hp σ'.fr rs ∧ K σ') → LeavesInM Fence.wide 0 P fn a'.tmps R a'.defers .returning w' := by
    rintro ⟨k1, k2⟩
    obtain ⟨ev, Ds, e1, e2, e3⟩ := hat'.ctx
    rw [e1]
    exact leave_marks hr k1 (fun w2 c hev hmat hrp => hR σ' S' O' w2 c k2 hev hmat hrp) Ds w' e2 e3 ev hat'.sr
  cases e <;> first | exact fin he | exact he.elim

theorem pure_body (hG : GOk P Γ) (hm : P.follows .mixedOrders = true) {f : FuncId} {fn : Func} {c : Code} {rc : RC} {rs : List RV} (hf : P.funcs[f]? = some fn) (hb : fn.body = some c)
    (hc : comp P pu (fn.ntmps, 0) 0 1 rc c = some rc) (hr : resRV P fn.results.toList = some rs) {args : List V} {r : V} (hn : args.length ≤ fn.ntmps)
    (h : wpR Γ (EqFlat P) rc (endQ rs r) ⟨lkp (zipA 0 args), []⟩) : PureCall P f args r := by
  intro S w cargs hS hsz hrep
  have he : endQ rs r = endK rs fun σ => vw σ.hp 8 (resV σ.hp σ.fr rs) = r := by
    funext e σ; cases e <;> rfl
  rw [he] at h
  refine body_calls hG hm hf hb hc hr hn h hS hsz hrep ?_
  intro σ' S' O' w' cv h2 hev hmat hrp
  refine ⟨cv, rfl, ?_, ?_⟩
  · exact ⟨⟨fun k hk => ⟨.inl hk, (hev.ext.keep k hk).2⟩, fun _ _ _ h => by cases h⟩, hev.os, hev.tape, hev.output, hev.size, hev.fz, hev.old, fun k ⟨_, _, h⟩ => (by cases h), fun k hk => hk.imp id fun h => .inr h.1⟩
  · have h3 := vw_rep hmat 8 _ _ hrp
    rw [h2] at h3
    refine Rep.ext ⟨fun k hk => ⟨?_, rfl⟩, fun _ _ _ h => by cases h⟩ _ _ h3
    rcases hk with hk | ⟨id, g, ho⟩
    · rcases hev.grow k hk with h4 | h4 | h4
      · exact .inl h4
      · obtain ⟨_, _, h4⟩ := h4; cases h4
      · exact .inr ⟨h4, hmat.lt k hk⟩
    · rcases hev.fresh k ⟨id, g, ho⟩ with h4 | h4
      · obtain ⟨_, _, h4⟩ := h4; cases h4
      · exact .inr ⟨h4, (hmat.own id g k ho).1⟩

/-- where the result owns blocks -/
def endO (rs : List RV) (r : V) (hp : List Blk) : Exit → St → Prop
  | .normal, σ | .ret, σ => rvs σ.hp σ.fr rs ∧ resV σ.hp σ.fr rs = r ∧ σ.hp = hp
  | _, _ => False
theorem own_body (hG : GOk P Γ) (hm : P.follows .mixedOrders = true) {f : FuncId} {fn : Func} {c : Code} {rc : RC} {rs : List RV} (hf : P.funcs[f]? = some fn) (hb : fn.body = some c)
    (hc : comp P pu (fn.ntmps, 0) 0 1 rc c = some rc) (hr : resRV P fn.results.toList = some rs) {args : List V} {r : V} {hp : List Blk} (hn : args.length ≤ fn.ntmps)
    (h : wpR Γ (EqFlat P) rc (endO rs r hp) ⟨lkp (zipA 0 args), []⟩) : OwnCall P f args r hp := by
  intro S w cargs hS hsz hrep
  have he : endO rs r hp = endK rs fun σ => resV σ.hp σ.fr rs = r ∧ σ.hp = hp := by
    funext e σ; cases e <;> rfl
  rw [he] at h
  refine body_calls hG hm hf hb hc hr hn h hS hsz hrep ?_
  rintro σ' S' O' w' cv ⟨h2, h3⟩ hev hmat hrp
  rw [h2] at hrp
  rw [h3] at hmat
  exact ⟨cv, S', O', rfl, hev, hmat, hrp⟩

/-- where the result is not determined (and owns blocks) -/
theorem relo_body (hG : GOk P Γ) (hm : P.follows .mixedOrders = true) {f : FuncId} {fn : Func} {c : Code} {rc : RC} {rs : List RV} (hf : P.funcs[f]? = some fn) (hb : fn.body = some c)
    (hc : comp P pu (fn.ntmps, 0) 0 1 rc c = some rc) (hr : resRV P fn.results.toList = some rs) {args : List V} {R : V → List Blk → Prop} (hn : args.length ≤ fn.ntmps)
    (h : wpR Γ (EqFlat P) rc (endK rs fun σ => R (resV σ.hp σ.fr rs) σ.hp) ⟨lkp (zipA 0 args), []⟩) : RelCall P f args R := by
  intro S w cargs hS hsz hrep
  refine body_calls hG hm hf hb hc hr hn h hS hsz hrep ?_
  rintro σ' S' O' w' cv h2 hev hmat hrp
  exact ⟨cv, S', O', _, _, rfl, h2, hev, hmat, hrp⟩

/-- where the result is not determined, and pure -/
theorem relp_body (hG : GOk P Γ) (hm : P.follows .mixedOrders = true) {f : FuncId} {fn : Func} {c : Code} {rc : RC} {rs : List RV} (hf : P.funcs[f]? = some fn) (hb : fn.body = some c)
    (hc : comp P pu (fn.ntmps, 0) 0 1 rc c = some rc) (hr : resRV P fn.results.toList = some rs) {args : List V} {R : V → Prop} (hn : args.length ≤ fn.ntmps)
    (h : wpR Γ (EqFlat P) rc (endK rs fun σ => R (vw σ.hp 8 (resV σ.hp σ.fr rs))) ⟨lkp (zipA 0 args), []⟩) : RelCall P f args fun r hp => R r ∧ hp = [] := by
  intro S w cargs hS hsz hrep
  refine body_calls hG hm hf hb hc hr hn h hS hsz hrep ?_
  rintro σ' S' O' w' cv h2 hev hmat hrp
  have h3 := vw_rep hmat 8 _ _ hrp
  refine ⟨cv, fun k => S' k ∨ Own O' k, noO, _, [], rfl, ⟨h2, rfl⟩, ?_, ⟨fun k hk => ?_, fun _ _ _ h => (by cases h), fun _ _ _ _ _ h => (by cases h), fun _ _ _ h => (by cases h)⟩, h3⟩
  · refine ⟨⟨fun k hk => ⟨.inl (hev.ext.keep k hk).1, (hev.ext.keep k hk).2⟩, fun _ _ _ h => (by cases h)⟩, hev.os, hev.tape, hev.output, hev.size, hev.fz, hev.old, fun k ⟨_, _, h⟩ => (by cases h), ?_⟩
    rintro k (hk | hk)
    · exact hev.grow k hk
    · exact .inr (hev.fresh k hk)
  · rcases hk with hk | ⟨id, g, ho⟩
    · exact hmat.lt k hk
    · exact (hmat.own id g k ho).1

/-- what an iterator carries along -/
def Ci (S : Nat → Prop) (caps : List V) (ys : List (List V)) (J Jx : Nat → World → Prop) : Ctx := fun S' W O ds h => ds = [] ∧ ∃ y, h = some (caps, y) ∧ ∃ Sk wk k, Evol Sk S' wk W noO O ∧ (∀ m, S m → Sk m) ∧
  ((k ≤ ys.length ∧ y = some (ys.drop k) ∧ J k wk) ∨ (y = none ∧ Jx k wk))

theorem later_of {S S' : Nat → Prop} {w w' : World} {O : OInfo} (h : Evol S S' w w' noO O) : Later w w' :=
  ⟨h.os, h.tape, h.output, h.size, h.fz, fun n hn => h.old n hn (by rintro ⟨_, _, h⟩; cases h)⟩

def endI : Exit → St → Prop
  | .normal, σ | .ret, σ => match (σ.hp[0]? : Option Blk) with
    | some (Blk.gh _ (some [])) => True
    | some (Blk.gh _ none) => True
    | _ => False
  | _, _ => False

theorem iter_body (hG : GOk P Γ) (hm : P.follows .mixedOrders = true) {f : FuncId} {fn : Func} {c : Code} {rc : RC} (hf : P.funcs[f]? = some fn) (hb : fn.body = some c) {caps : List V} {md : Nat} (hmd : md = 1 + caps.length)
    (hc : comp P pu (fn.ntmps, md) 1 2 rc c = some rc) (hr : resRV P fn.results.toList = some []) {ys : List (List V)} (hn : md ≤ fn.ntmps)
    (h : ∀ l, wpR Γ (EqFlat P) rc endI ⟨lkp (zipA 0 (.yl l :: caps)), [.gh (.yl l :: caps) (some ys)]⟩) : IterCall P f caps ys := by
  subst hmd
  intro F n S w ccaps l J Jx hF hro hS hsz hrep hJ hJx hJS hyl hJ0
  refine callsIn_of_wp_marks hf hb (hF.1 f) ?_ hro
  obtain ⟨args, hargs⟩ : ∃ args, args = V.yl l :: caps := ⟨_, rfl⟩
  obtain ⟨cargs, hcargs⟩ : ∃ cargs : Array Value, cargs = #[.func (.yield l) #[] #[]] ++ ccaps := ⟨_, rfl⟩
  have hrepA : RepL S w noO args cargs.toList := by
    rw [hargs, hcargs]
    simp only [Array.toList_append, List.cons_append, List.nil_append, RepL, Rep]
    exact ⟨trivial, hrep⟩
  have hszA : cargs.size = args.length := by rw [hargs, hcargs]; simp [hsz]; omega
  rw [← hcargs]
  obtain ⟨h1, h2, h3⟩ := start_fr (nt := fn.ntmps) hszA (by rw [hargs]; simp; omega) hrepA
  obtain ⟨M, hM⟩ : ∃ M : FrI, M = ⟨fn.ntmps, 1 + caps.length, fun t => cargs.getD t undef⟩ := ⟨_, rfl⟩
  have hnm : M.nm = (fn.ntmps, 1 + caps.length) := by rw [hM]; rfl
  have hlen : args.length = 1 + caps.length := by rw [hargs]; simp; omega
  have hCi : CtxOk P F n M (Ci S args ys J Jx) 1 2 0 := by
    refine ⟨?_, ?_, fun h => (by cases h), fun h => (by cases h), fun h => (by cases h), fun h => (by cases h), fun h => (by cases h), ?_⟩
    · rintro S1 S2 w1 w2 O1 O2 ds g g' ⟨a1, y, a2, Sk, wk, k, a3, a4, a5⟩ _ ev hg
      exact ⟨a1, y, hg _ a2, Sk, wk, k, a3.trans ev, a4, a5⟩
    · rintro S1 w1 O1 ds g g' kk ⟨a1, y, a2, Sk, wk, k, a3, a4, a5⟩ _ hg
      exact ⟨a1, y, hg (Nat.le_refl _) _ a2, Sk, wk, k, a3.cut kk, a4, a5⟩
    · rintro _ S1 w1 O1 ds caps' x rest cx l' ⟨a1, y, a2, Sk, wk, k, a3, a4, a5⟩ hlt hno hl' hx hxs
      simp only [Option.some.injEq, Prod.mk.injEq] at a2
      obtain ⟨rfl, rfl⟩ := a2
      rw [hargs] at hl'
      simp only [List.getElem?_cons_zero, Option.some.injEq, V.yl.injEq] at hl'
      subst hl'
      rcases a5 with ⟨b1, b2, b3⟩ | ⟨b2, _⟩
      · simp only [Option.some.injEq] at b2
        have hxk : ys[k]? = some x := by
          have := congrArg (fun l => l[0]?) b2
          simpa using this.symm
        have hrest : rest = ys.drop (k + 1) := by
          have := congrArg List.tail b2
          simpa using this
        have hJk := hJ k wk w1 b3 (later_of a3)
        obtain ⟨fn', tm, as, bd, hyr, hround⟩ := hyl k x w1 cx hxk hJk (Rep.ext_false hx) hxs
        refine ⟨fn', tm, as, bd, hyr, hround.mono ?_⟩
        intro e W' hcase
        have facts : ∀ W', (w.heap.size ≤ W'.heap.size ∧ ∀ n, S n → W'.heap[n]? = w.heap[n]?) → (∀ k, S k → k < W'.heap.size) ∧ ∀ t v, caps'[t]? = some v → t < M.md ∧ Rep S W' noO v (M.T t) := by
          intro W' hk
          refine ⟨fun m hm => Nat.lt_of_lt_of_le (hS m hm) hk.1, fun t v htv => ?_⟩
          have htl := getElemLt htv
          refine ⟨by rw [hM]; show t < 1 + caps.length; omega, ?_⟩
          obtain ⟨cv, hcv, hv⟩ := RepL.get _ _ t v hrepA htv
          have : M.T t = cv := by
            rw [hM]
            show cargs.getD t undef = cv
            rw [Array.getElem?_toList] at hcv
            have h2 := Array.getElem?_eq_some_iff.1 hcv
            simp [h2.1, h2.2]
          rw [this]
          exact Rep.ext ⟨fun m hm => ⟨hm, hk.2 m hm⟩, fun _ _ _ h => by cases h⟩ _ _ hv
        rcases hcase with ⟨rfl, hJ'⟩ | ⟨rfl, hJ'⟩
        · obtain ⟨f1, f2⟩ := facts W' (hJS _ _ (.inl hJ'))
          refine ⟨true, S, rfl, ⟨a1, _, rfl, S, W', k + 1, Evol.refl _ _ _, fun _ h => h, .inl ⟨?_, ?_, hJ'⟩⟩, f1, f2⟩
          · have := getElemLt hxk; omega
          · simp [hrest]
        · obtain ⟨f1, f2⟩ := facts W' (hJS _ _ (.inr hJ'))
          exact ⟨false, S, rfl, ⟨a1, _, rfl, S, W', k, Evol.refl _ _ _, fun _ h => h, .inr ⟨rfl, hJ'⟩⟩, f1, f2⟩
      · cases b2
  have hat : At (Ci S args ys J Jx) M S w noO ⟨lkp (zipA 0 args), [.gh args (some ys)]⟩ { tmps := cargs ++ Array.replicate (fn.ntmps - cargs.size) undef, defers := [] } := by
    refine ⟨⟨rfl, _, rfl, S, w, 0, Evol.refl _ _ _, fun _ h => h, .inl ⟨Nat.zero_le _, rfl, hJ0⟩⟩, ⟨by rw [hM]; exact h1, fun t ht => ?_, h2, ⟨hS, fun _ _ _ h => (by cases h), fun _ _ _ _ _ h => (by cases h), fun _ _ _ h => (by cases h)⟩⟩⟩
    rw [hM] at ht ⊢
    exact h3 t (by rw [hszA, hlen]; exact ht)
  refine wpR_sound hG hm (M := M) rc c rc F n 1 2 hF (by rw [hnm]; exact hc) _ 0 hCi _ _ _ S w noO _ (by rw [hargs]; exact h l) hat ?_
  intro e σ' S' w' O' a' he hat'
  have fin : endI .ret σ' → LeavesInM F n P fn a'.tmps (fun e W' => (∃ v, e = .returned v) ∧ (J ys.length W' ∨ ∃ k, Jx k W')) a'.defers .returning w' := by
    intro he
    obtain ⟨a1, y, a2, Sk, wk, k, a3, a4, a5⟩ := hat'.ctx
    rw [a1]
    obtain ⟨cv, hrun, hrp⟩ := results_run hat'.sr hr (show rvs σ'.hp σ'.fr [] from trivial)
    refine ⟨cv, hrun, ⟨cv, rfl⟩, ?_⟩
    have hg := ghO_at a2
    simp only [endI, hg] at he
    rcases a5 with ⟨b1, b2, b3⟩ | ⟨b2, b3⟩
    · left
      subst b2
      have hnil : ys.drop k = [] := by
        cases hd : ys.drop k with
        | nil => rfl
        | cons x l => rw [hd] at he; exact he.elim
      have : k = ys.length := by
        have := List.drop_eq_nil_iff.1 hnil
        omega
      rw [← this]
      exact hJ k wk w' b3 (later_of a3)
    · exact .inr ⟨k, hJx k wk w' b3 (later_of a3)⟩
  cases e <;> first | exact fin he | exact he.elim

def Γ0 : Gam := fun _ _ => (False, .u)
theorem g0_ok : GOk P Γ0 := ⟨fun _ _ _ h => h.elim, fun _ _ _ _ h => h.elim, fun _ _ _ _ h => h.elim, fun _ _ _ h => h.elim⟩
/-- one function more -/
def Gam.ext (Γ : Gam) (f : Nat) (r : List V → Prop × V) : Gam := fun g as => if g = f then r as else Γ g as
theorem ext_ne {f g : Nat} {r : List V → Prop × V} {as : List V} (h : g ≠ f) : Γ.ext f r g as = Γ g as := by unfold Gam.ext; rw [if_neg h]
theorem ext_eq {f : Nat} {r : List V → Prop × V} {as : List V} : Γ.ext f r f as = r as := by unfold Gam.ext; rw [if_pos rfl]
theorem GOk.ext (h : GOk P Γ) {f : Nat} {r : List V → Prop × V} (he : Enters P f) (hr : ∀ as, (r as).1 → PureCall P f as (r as).2) (hf : f < 1000000 := by decide) : GOk P (Γ.ext f r) := by
  refine ⟨fun g as hg6 hg => ?_, fun g as r' bs hg hg6 hv => ?_, fun g as ys hg6 hg hv => ?_, fun g as hg6 hg => ?_⟩
  · by_cases e : g = f
    · subst e
      rw [ext_eq] at hg ⊢
      exact ⟨he, hr as hg⟩
    · rw [ext_ne e] at hg ⊢
      exact h.pure g as hg6 hg
  · rw [ext_ne (by omega)] at hg hv
    exact h.own g as r' bs hg hg6 hv
  · rw [ext_ne (by omega)] at hg hv
    exact h.iter g as ys hg6 hg hv
  · rw [ext_ne (by omega)] at hg
    have e1 : ∀ x, Γ.ext f r (4000000 + g) x = Γ (4000000 + g) x := fun x => ext_ne (by omega)
    simp only [e1]
    exact h.rel g as hg6 hg
/-- a function whose result owns blocks -/
theorem GOk.extO (h : GOk P Γ) {f : Nat} {r : List V → Prop × V} (he : Enters P f) (hr : ∀ as v bs, (r as).1 → (r as).2 = .tp [v, .tp bs] → OwnCall P f as v (bs.map vB)) (hf : f < 1000000 := by decide) : GOk P (Γ.ext (1000000 + f) r) := by
  refine ⟨fun g as hg6 hg => ?_, fun g as r' bs hg hg6 hv => ?_, fun g as ys hg6 hg hv => ?_, fun g as hg6 hg => ?_⟩
  · rw [ext_ne (by omega)] at hg ⊢
    exact h.pure g as hg6 hg
  · by_cases e : g = f
    · subst e
      rw [ext_eq] at hg hv
      exact ⟨he, hr as r' bs hg hv⟩
    · rw [ext_ne (by omega)] at hg hv
      exact h.own g as r' bs hg hg6 hv
  · rw [ext_ne (by omega)] at hg hv
    exact h.iter g as ys hg6 hg hv
  · rw [ext_ne (by omega)] at hg
    have e1 : ∀ x, Γ.ext (1000000 + f) r (4000000 + g) x = Γ (4000000 + g) x := fun x => ext_ne (by omega)
    simp only [e1]
    exact h.rel g as hg6 hg
/-- an iterator -/
theorem GOk.extI (h : GOk P Γ) {f : Nat} {r : List V → Prop × V} (he : Enters P f) (hr : ∀ as ys, (r as).1 → (r as).2 = .sl 0 ys → IterCall P f as ys) (hf : f < 1000000 := by decide) : GOk P (Γ.ext (2000000 + f) r) := by
  refine ⟨fun g as hg6 hg => ?_, fun g as r' bs hg hg6 hv => ?_, fun g as ys hg6 hg hv => ?_, fun g as hg6 hg => ?_⟩
  · rw [ext_ne (by omega)] at hg ⊢
    exact h.pure g as hg6 hg
  · rw [ext_ne (by omega)] at hg hv
    exact h.own g as r' bs hg hg6 hv
  · by_cases e : g = f
    · subst e
      rw [ext_eq] at hg hv
      exact ⟨he, hr as ys hg hv⟩
    · rw [ext_ne (by omega)] at hg hv
      exact h.iter g as ys hg6 hg hv
  · rw [ext_ne (by omega)] at hg
    have e1 : ∀ x, Γ.ext (2000000 + f) r (4000000 + g) x = Γ (4000000 + g) x := fun x => ext_ne (by omega)
    simp only [e1]
    exact h.rel g as hg6 hg
/-- a function whose result is not determined: p the condition, q what is known of the result -/
theorem GOk.extR (h : GOk P Γ) {f : Nat} {p q : List V → Prop} (he : Enters P f) (hr : ∀ as, p as → RelCall P f as fun r hp => ∃ bs : List V, hp = bs.map vB ∧ q (.tp (r :: bs) :: as)) (hf : f < 1000000 := by decide) :
    GOk P ((Γ.ext (3000000 + f) fun as => (p as, .u)).ext (4000000 + f) fun as => (q as, .u)) := by
  refine ⟨fun g as hg6 hg => ?_, fun g as r' bs hg hg6 hv => ?_, fun g as ys hg6 hg hv => ?_, fun g as hg6 hg => ?_⟩
  · rw [ext_ne (by omega), ext_ne (by omega)] at hg ⊢
    exact h.pure g as hg6 hg
  · rw [ext_ne (by omega), ext_ne (by omega)] at hg hv
    exact h.own g as r' bs hg hg6 hv
  · rw [ext_ne (by omega), ext_ne (by omega)] at hg hv
    exact h.iter g as ys hg6 hg hv
  · by_cases e : g = f
    · subst e
      rw [ext_ne (by omega), ext_eq] at hg
      refine ⟨he, ?_⟩
      simp only [ext_eq]
      exact hr as hg
    · rw [ext_ne (by omega), ext_ne (by omega)] at hg
      have e1 : ∀ x, (Γ.ext (3000000 + f) fun as => (p as, .u)).ext (4000000 + f) (fun as => (q as, .u)) (4000000 + g) x = Γ (4000000 + g) x := fun x => by rw [ext_ne (by omega), ext_ne (by omega)]
      simp only [e1]
      exact h.rel g as hg6 hg
end
end Go.Fam
