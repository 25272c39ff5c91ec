import Derived.Test.YthnjkbahffgemaaGreatG3
import Derived.ProofKit
import Derived.OpenShut
import Derived.Laws.StructEq
import Derived.Shelf.Sort.Plain
import Derived.Shelf.Slices.CompactI
set_option linter.all false
namespace Go.Fam
inductive RV where
 | t (n : Nat) | c (a : Nat) (ag : Bool) (n : Nat)
def rv1 (hp : List Blk) (fr : Nat → V) : RV → Prop × V
 | .t n => (True, fr n)
 | .c a ag n => ldV hp ag n (fr a)
def rvs (hp : List Blk) (fr : Nat → V) : List RV → Prop
 | [] => True
 | r :: l => (rv1 hp fr r).1 ∧ rvs hp fr l
def resV (hp : List Blk) (fr : Nat → V) : List RV → V
 | [r] => (rv1 hp fr r).2
 | l => .tp (l.map fun r => (rv1 hp fr r).2)
def resRV1 (P : Program) : ResultVar → Option RV
 | .tmp t => some (.t t)
 | .cell a t => (ldB P t).map (.c a (isAggB P t))
def resRV (P : Program) (l : List ResultVar) : Option (List RV) := l.mapM (resRV1 P)
def endQ (rs : List RV) (r : V) : Exit → St → Prop
 | .normal, σ | .ret, σ => rvs σ.hp σ.fr rs ∧ vw σ.hp 8 (resV σ.hp σ.fr rs) = r
 | _, _ => False
section
variable {P : Program} {F : Fence} {n : Nat} {Γ : Gam} {N : FrI} {pu : List Nat}
def resGet (tmps : Array Value) : ResultVar → Sem Value
 | .tmp t => pure (tmps.getD t undef)
 | .cell a t => do loadVar t (← asAddr (tmps.getD a undef))
theorem results_eq (fn : Func) (tmps : Array Value) : results fn tmps = (do let vs ← fn.results.mapM (resGet tmps); pure (if h : vs.size = 1 then vs[0] else .tuple vs)) := by
 unfold results
 rfl
theorem rv1_run {S : Nat → Prop} {w : World} {O : OInfo} {σ : St} {a : Act} (hsr : SR N S w O σ a) {x : ResultVar} {r : RV} (hr : resRV1 P x = some r) (hok : (rv1 σ.hp σ.fr r).1) :
  ∃ c, (resGet a.tmps x).run P w = .ok c w ∧ Rep S w O (rv1 σ.hp σ.fr r).2 c := by
 cases x with
 | tmp t =>
  simp only [resRV1, Option.some.injEq] at hr
  subst hr
  exact ⟨_, rfl, hsr.fr t⟩
 | cell t ty =>
  simp only [resRV1, Option.map_eq_some_iff] at hr
  obtain ⟨k, hk, rfl⟩ := hr
  simp only [rv1] at hok ⊢
  obtain ⟨c, hrun, hrep⟩ := ld_run hk hsr.mat (hsr.fr t) hok
  refine ⟨c, ?_, hrep⟩
  have hp : ∃ ad, a.tmps.getD t undef = .pointer (some ad) := by
   have h1 := hsr.fr t
   cases hv : σ.fr t <;> rw [hv] at hok h1 <;> first | (simp [ldV] at hok; done) | skip
   case pa cs =>
    simp only [Rep] at h1
    obtain ⟨blk, off, cur, e, fr, h2, _⟩ := h1
    exact ⟨_, h2⟩
   case ad id g off =>
    simp only [ldV] at hok
    split at hok
    ·rename_i g' vs hid
     simp only [Rep] at h1
     obtain ⟨_, gO, ob, hO, hle, h2⟩ := h1
     have hb := hsr.mat.blk id gO ob hO
     rw [hid] at hb
     simp only [BlkOk] at hb
     have e : g = gO := hok.1.symm.trans hb.1
     obtain ⟨b, _, h3⟩ := h2 e
     exact ⟨_, h3⟩
    ·exact hok.elim
  obtain ⟨ad, had⟩ := hp
  rw [had] at hrun
  simp only [resGet, had, asAddr, Sem.run_bind, Sem.run_pure, Result.andThen_ok]
  simpa [Instr.loadAt, Instr.sureAddr] using hrun
theorem rvs_run {S : Nat → Prop} {w : World} {O : OInfo} {σ : St} {a : Act} (hsr : SR N S w O σ a) : ∀ (xs : List ResultVar) (rs : List RV), resRV P xs = some rs → rvs σ.hp σ.fr rs →
  ∃ cs, (xs.mapM (resGet a.tmps)).run P w = .ok cs w ∧ cs.length = rs.length ∧ RepL S w O (rs.map fun r => (rv1 σ.hp σ.fr r).2) cs
 | [], rs, h, _ => by
  simp [resRV] at h
  subst h
  exact ⟨[], rfl, rfl, by simp [RepL]⟩
 | x :: xs, rs, h, hok => by
  simp only [resRV, List.mapM_cons, Option.bind_eq_bind, Option.bind_eq_some_iff, Option.pure_def, Option.some.injEq] at h
  obtain ⟨r, hr, rs', hrs, rfl⟩ := h
  obtain ⟨h1, h2⟩ := hok
  obtain ⟨c, hc, hrep⟩ := rv1_run hsr hr h1
  obtain ⟨cs, hcs, hl, hreps⟩ := rvs_run hsr xs rs' hrs h2
  refine ⟨c :: cs, ?_, by simp [hl], by simp only [List.map_cons, RepL]; exact ⟨hrep, hreps⟩⟩
  rw [List.mapM_cons]
  simp only [Sem.run_bind, hc, Result.andThen_ok, hcs, Sem.run_pure]
theorem results_run {S : Nat → Prop} {w : World} {O : OInfo} {σ : St} {a : Act} (hsr : SR N S w O σ a) {fn : Func} {rs : List RV} (hr : resRV P fn.results.toList = some rs) (hok : rvs σ.hp σ.fr rs) :
  ∃ c, (results fn a.tmps).run P w = .ok c w ∧ Rep S w O (resV σ.hp σ.fr rs) c := by
 obtain ⟨cs, hcs, hl, hrep⟩ := rvs_run hsr _ _ hr hok
 rw [results_eq, Array.mapM_eq_mapM_toList]
 simp only [Sem.run_bind, map_eq_pure_bind, hcs, Result.andThen_ok, Sem.run_pure]
 refine ⟨_, rfl, ?_⟩
 match rs, cs, hl, hrep with
 | [], [], _, _ => simp [resV, Rep, RepL]
 | [r], [c], _, h => simpa [resV, RepL] using h
 | r :: r' :: rs, c :: c' :: cs, hl, h =>
  simp only [resV, Rep]
  exact ⟨(c :: c' :: cs).toArray, by simp, by simpa using hl, by simpa using h⟩
def zipA : Nat → List V → List (Nat × V)
 | _, [] => []
 | k, v :: vs => (k, v) :: zipA (k + 1) vs
theorem lkp_zipA : ∀ (vs : List V) (k t : Nat), lkp (zipA k vs) t = if k ≤ t then (vs[t - k]?).getD .u else .u
 | [], k, t => by simp [zipA, lkp]
 | v :: vs, k, t => by
  simp only [zipA, lkp]
  split
  ·rename_i e; subst e; simp
  ·rename_i hne
   rw [lkp_zipA vs (k + 1) t]
   by_cases h : k ≤ t
   ·have h1 : k + 1 ≤ t := by omega
    rw [if_pos h, if_pos h1]
    have : t - k = (t - (k + 1)) + 1 := by omega
    rw [this]; simp
   ·rw [if_neg h, if_neg (by omega)]
theorem evol_turn {S0 S : Nat → Prop} {w0 w : World} {O : OInfo} (h : Evol S0 S w0 w noO O) {L : Nat} {o o' : Obj} (hb : w.heap[L]? = some o) (hc : o.isCells = false) (hc' : o'.isCells = false) (hS : ¬ S L) (hL : w0.heap.size ≤ L) :
  Evol S0 S w0 (w.putObj L o') noO O := by
 have hoth : ∀ k, k ≠ L → (w.putObj L o').heap[k]? = w.heap[k]? := fun k hk => World.putObj_heap_other hk
 have hnew : (w.putObj L o').heap[L]? = some o' := World.putObj_heap_same (Array.getElem?_eq_some_iff.1 hb).1
 refine ⟨⟨fun k hk => ⟨(h.ext.keep k hk).1, ?_⟩, fun _ _ _ h => (by cases h)⟩, h.os, h.tape, h.output, by simpa using h.size, fun a ha => ?_, fun k hk hno => ?_, h.fresh, h.grow⟩
 ·rw [hoth k (by rintro rfl; exact hS (h.ext.keep k hk).1)]; exact (h.ext.keep k hk).2
 ·refine Eq.trans ?_ (h.fz a ha)
  by_cases e : a.block = L
  ·simp only [World.frozen?, e, hnew, hb]
   cases o <;> cases o' <;> first | rfl | (simp [Obj.isCells] at hc; done) | (simp [Obj.isCells] at hc'; done)
  ·simp only [World.frozen?, hoth _ e]
 ·rw [hoth k (by omega)]; exact h.old k hk hno
def Cn (S0 : Nat → Prop) (w0 : World) : Ctx := fun S w O ds _ => Evol S0 S w0 w noO O ∧ ∃ Ds : List Nat, ds = Ds.map col ∧ Ds.Nodup ∧ ∀ D ∈ Ds, w.heap[D]? = some (.deferred (some [])) ∧ ¬ S D ∧ ¬ Own O D ∧ w0.heap.size ≤ D
theorem cn_ok {M : FrI} {S0 : Nat → Prop} {w0 : World} (hro : F.round = none) : CtxOk P F n M (Cn S0 w0) 0 1 w0.heap.size := by
 refine ⟨?_, ?_, fun _ => hro, fun _ _ _ _ _ _ h => h.1.size, ?_, ?_, ?_, fun h => (by cases h), fun h => (by cases h), fun h => (by cases h)⟩
 ·rintro S S' w w' O O' ds h h' ⟨h1, Ds, h2, h3, h4⟩ hlt ev _
  refine ⟨h1.trans ev, Ds, h2, h3, fun D hD => ?_⟩
  obtain ⟨a1, a2, a3, a4⟩ := h4 D hD
  have hDlt := (Array.getElem?_eq_some_iff.1 a1).1
  refine ⟨(ev.old D hDlt a3).trans a1, fun hS => ?_, fun hO => ?_, a4⟩
  ·rcases ev.grow D hS with h | h | h
   ·exact a2 h
   ·exact a3 h
   ·omega
  ·rcases ev.fresh D hO with h | h
   ·exact a3 h
   ·omega
 ·rintro S w O ds h h' k ⟨h1, Ds, h2, h3, h4⟩ _ _
  refine ⟨h1.cut k, Ds, h2, h3, fun D hD => ?_⟩
  obtain ⟨a1, a2, a3, a4⟩ := h4 D hD
  refine ⟨a1, ?_, fun ⟨id, g, ho⟩ => a3 ⟨id, g, (restO_some ho).2⟩, a4⟩
  rintro (h | ⟨id, g, ho⟩)
  ·exact a2 h
  ·exact a3 ⟨id, g, (fromO_some ho).2⟩
 ·rintro _ S w O ds h L r r' ⟨h1, Ds, h2, h3, h4⟩ hL hS hO hb
  refine ⟨evol_turn h1 hL rfl rfl hS hb, Ds, h2, h3, fun D hD => ?_⟩
  obtain ⟨a1, a2, a3, a4⟩ := h4 D hD
  refine ⟨?_, a2, a3, a4⟩
  rw [World.putObj_heap_other (by rintro rfl; rw [hL] at a1; cases a1)]
  exact a1
 ·rintro _ S w O ds h r ⟨h1, Ds, h2, h3, h4⟩ hS hO
  have hl : Later w ((w.alloc (.deferred (some []))).alloc (.loop r)) := (later_alloc w _ rfl).trans (later_alloc _ _ rfl)
  refine ⟨h1.trans (hl.evol hS hO), w.heap.size :: Ds, by rw [h2]; rfl, List.nodup_cons.2 ⟨fun hD => ?_, h3⟩, fun D hD => ?_⟩
  ·have := (Array.getElem?_eq_some_iff.1 (h4 _ hD).1).1; omega
  ·rcases List.mem_cons.1 hD with rfl | hD
   ·refine ⟨?_, fun h => ?_, fun h => ?_, h1.size⟩
    ·exact (heap_alloc_old _ _ (by simp)).trans (World.alloc_heap_new w _)
    ·have := hS _ h; omega
    ·have := hO _ h; omega
   ·obtain ⟨a1, a2, a3, a4⟩ := h4 D hD
    exact ⟨(hl.old D (Array.getElem?_eq_some_iff.1 a1).1).trans a1, a2, a3, a4⟩
 ·rintro _ _ S w O O' ds h h' ⟨h1, Ds, h2, h3, h4⟩ hO
  exact ⟨h1.less hO, Ds, h2, h3, fun D hD => ⟨(h4 D hD).1, (h4 D hD).2.1, fun h => (h4 D hD).2.2.1 (hO D h), (h4 D hD).2.2.2⟩⟩
theorem leave_marks {M : FrI} {fn : Func} {rs : List RV} (hr : resRV P fn.results.toList = some rs) {S0 S : Nat → Prop} {w0 : World} {O : OInfo} {σ : St} {a : Act} (hok : rvs σ.hp σ.fr rs) {R : Ending → World → Prop}
  (hR : ∀ w' c, Evol S0 S w0 w' noO O → Mat S w' O σ.hp → Rep S w' O (resV σ.hp σ.fr rs) c → R (.returned c) w') :
  ∀ (Ds : List Nat) (w : World), Ds.Nodup → (∀ D ∈ Ds, w.heap[D]? = some (.deferred (some [])) ∧ ¬ S D ∧ ¬ Own O D ∧ w0.heap.size ≤ D) → Evol S0 S w0 w noO O → SR M S w O σ a → LeavesInM F n P fn a.tmps R (Ds.map col) .returning w
 | [], w, _, _, hev, hsr => by
  obtain ⟨c, hrun, hrp⟩ := results_run hsr hr hok
  exact ⟨c, hrun, hR w c hev hsr.mat hrp⟩
 | D :: Ds, w, hnd, hD, hev, hsr => by
  obtain ⟨hn1, hn2⟩ := List.nodup_cons.1 hnd
  obtain ⟨a1, a2, a3, a4⟩ := hD D (by simp)
  refine ⟨by simp, .inl ⟨D, _, rfl, run_takeDeferred a1, ?_⟩⟩
  refine leave_marks hr hok hR Ds _ hn2 (fun D' hD' => ?_) (evol_turn hev a1 rfl rfl a2 a4) (sr_turn hsr _ a2 a3)
  obtain ⟨b1, b2⟩ := hD D' (by simp [hD'])
  exact ⟨(World.putObj_heap_other (by rintro rfl; exact hn1 hD')).trans b1, b2⟩
theorem start_fr {S : Nat → Prop} {w : World} {args : List V} {cargs : Array Value} {nt : Nat} (hsz : cargs.size = args.length) (hn : args.length ≤ nt) (hrep : RepL S w noO args cargs.toList) :
  (cargs ++ Array.replicate (nt - cargs.size) undef).size = nt ∧ FrM S w noO (lkp (zipA 0 args)) { tmps := cargs ++ Array.replicate (nt - cargs.size) undef, defers := [] } ∧
   ∀ t, t < cargs.size → (cargs ++ Array.replicate (nt - cargs.size) undef).getD t undef = cargs.getD t undef := by
 have hlo : ∀ t, t < cargs.size → (cargs ++ Array.replicate (nt - cargs.size) undef).getD t undef = cargs.getD t undef := by
  intro t ht
  simp [Array.getElem?_append, ht]
 refine ⟨by simp; omega, fun t => ?_, hlo⟩
 show Rep S w noO (lkp (zipA 0 args) t) _
 rw [lkp_zipA, if_pos (Nat.zero_le _), Nat.sub_zero]
 cases ht : args[t]? with
 | none => simp [Rep]
 | some v =>
  obtain ⟨cv, hcv, hv⟩ := RepL.get _ _ t v hrep ht
  have hlt : t < cargs.size := by have := getElemLt hcv; simpa using this
  show Rep S w noO v ((cargs ++ Array.replicate (nt - cargs.size) undef).getD t undef)
  rw [hlo t hlt]
  have : cargs.getD t undef = cv := by
   rw [Array.getElem?_toList] at hcv
   have h2 := (Array.getElem?_eq_some_iff.1 hcv).2
   simp [hlt, h2]
  rw [this]
  exact hv
def endK (rs : List RV) (K : St → Prop) : Exit → St → Prop
 | .normal, σ | .ret, σ => rvs σ.hp σ.fr rs ∧ K σ
 | _, _ => False
theorem body_calls (hG : GOk P Γ) (hm : P.follows .mixedOrders = true) {f : FuncId} {fn : Func} {c : Code} {rc : RC} {rs : List RV} (hf : P.funcs[f]? = some fn) (hb : fn.body = some c)
  (hc : comp P pu (fn.ntmps, 0) 0 1 rc c = some rc) (hr : resRV P fn.results.toList = some rs) {args : List V} (hn : args.length ≤ fn.ntmps) {K : St → Prop}
  (h : wpR Γ (EqFlat P) rc (endK rs K) ⟨lkp (zipA 0 args), []⟩) {S : Nat → Prop} {w : World} {cargs : Array Value} (hS : ∀ n, S n → n < w.heap.size) (hsz : cargs.size = args.length) (hrep : RepL S w noO args cargs.toList) {R : Ending → World → Prop}
  (hR : ∀ σ S' O' w' c, K σ → Evol S S' w w' noO O' → Mat S' w' O' σ.hp → Rep S' w' O' (resV σ.hp σ.fr rs) c → R (.returned c) w') : Calls P f cargs w R := by
 refine openF_wide.calls (n := 0) (callsIn_of_wp_marks hf hb trivial ?_)
 obtain ⟨h1, h2, h3⟩ := start_fr hsz hn hrep
 obtain ⟨M, hM⟩ : ∃ M : FrI, M = ⟨fn.ntmps, 0, fun _ => undef, fun _ => False⟩ := ⟨_, rfl⟩
 have hnm : M.nm = (fn.ntmps, 0) := by rw [hM]; rfl
 have hat : At (Cn S w) M S w noO ⟨lkp (zipA 0 args), []⟩ { tmps := cargs ++ Array.replicate (fn.ntmps - cargs.size) undef, defers := [] } := by
  refine ⟨⟨Evol.refl _ _ _, [], rfl, List.nodup_nil, fun _ h => by cases h⟩, ⟨by rw [hM]; exact h1, fun t ht => by rw [hM] at ht; exact absurd ht (Nat.not_lt_zero _), h2, ⟨hS, fun _ _ _ h => (by cases h), fun _ _ _ _ _ h => (by cases h), fun _ _ _ h => (by cases h)⟩⟩⟩
 refine wpR_sound hG hm (M := M) (by rw [hM]; exact fun _ h => h.elim) rc c rc _ 0 0 1 openF_wide (by rw [hnm]; exact hc) (Cn S w) w.heap.size (cn_ok rfl) _ _ _ S w noO _ h hat ?_
 intro e σ' S' w' O' a' he hat'
 have fin : (rvs σ'.hp σ'.fr rs ∧ K σ') → LeavesInM Fence.wide 0 P fn a'.tmps R a'.defers .returning w' := by
  rintro ⟨k1, k2⟩
  obtain ⟨ev, Ds, e1, e2, e3⟩ := hat'.ctx
  rw [e1]
  exact leave_marks hr k1 (fun w2 c hev hmat hrp => hR σ' S' O' w2 c k2 hev hmat hrp) Ds w' e2 e3 ev hat'.sr
 cases e <;> first | exact fin he | exact he.elim
theorem pure_body (hG : GOk P Γ) (hm : P.follows .mixedOrders = true) {f : FuncId} {fn : Func} {c : Code} {rc : RC} {rs : List RV} (hf : P.funcs[f]? = some fn) (hb : fn.body = some c)
  (hc : comp P pu (fn.ntmps, 0) 0 1 rc c = some rc) (hr : resRV P fn.results.toList = some rs) {args : List V} {r : V} (hn : args.length ≤ fn.ntmps)
  (h : wpR Γ (EqFlat P) rc (endQ rs r) ⟨lkp (zipA 0 args), []⟩) : PureCall P f args r := by
 intro S w cargs hS hsz hrep
 have he : endQ rs r = endK rs fun σ => vw σ.hp 8 (resV σ.hp σ.fr rs) = r := by
  funext e σ; cases e <;> rfl
 rw [he] at h
 refine body_calls hG hm hf hb hc hr hn h hS hsz hrep ?_
 intro σ' S' O' w' cv h2 hev hmat hrp
 refine ⟨cv, rfl, ?_, ?_⟩
 ·exact ⟨⟨fun k hk => ⟨.inl hk, (hev.ext.keep k hk).2⟩, fun _ _ _ h => by cases h⟩, hev.os, hev.tape, hev.output, hev.size, hev.fz, hev.old, fun k ⟨_, _, h⟩ => (by cases h), fun k hk => hk.imp id fun h => .inr h.1⟩
 ·have h3 := vw_rep hmat 8 _ _ hrp
  rw [h2] at h3
  refine Rep.ext ⟨fun k hk => ⟨?_, rfl⟩, fun _ _ _ h => by cases h⟩ _ _ h3
  rcases hk with hk | ⟨id, g, ho⟩
  ·rcases hev.grow k hk with h4 | h4 | h4
   ·exact .inl h4
   ·obtain ⟨_, _, h4⟩ := h4; cases h4
   ·exact .inr ⟨h4, hmat.lt k hk⟩
  ·rcases hev.fresh k ⟨id, g, ho⟩ with h4 | h4
   ·obtain ⟨_, _, h4⟩ := h4; cases h4
   ·exact .inr ⟨h4, (hmat.own id g k ho).1⟩
def endO (rs : List RV) (r : V) (hp : List Blk) : Exit → St → Prop
 | .normal, σ | .ret, σ => rvs σ.hp σ.fr rs ∧ resV σ.hp σ.fr rs = r ∧ σ.hp = hp
 | _, _ => False
theorem own_body (hG : GOk P Γ) (hm : P.follows .mixedOrders = true) {f : FuncId} {fn : Func} {c : Code} {rc : RC} {rs : List RV} (hf : P.funcs[f]? = some fn) (hb : fn.body = some c)
  (hc : comp P pu (fn.ntmps, 0) 0 1 rc c = some rc) (hr : resRV P fn.results.toList = some rs) {args : List V} {r : V} {hp : List Blk} (hn : args.length ≤ fn.ntmps)
  (h : wpR Γ (EqFlat P) rc (endO rs r hp) ⟨lkp (zipA 0 args), []⟩) : OwnCall P f args r hp := by
 intro S w cargs hS hsz hrep
 have he : endO rs r hp = endK rs fun σ => resV σ.hp σ.fr rs = r ∧ σ.hp = hp := by
  funext e σ; cases e <;> rfl
 rw [he] at h
 refine body_calls hG hm hf hb hc hr hn h hS hsz hrep ?_
 rintro σ' S' O' w' cv ⟨h2, h3⟩ hev hmat hrp
 rw [h2] at hrp
 rw [h3] at hmat
 exact ⟨cv, S', O', rfl, hev, hmat, hrp⟩
def endI : Exit → St → Prop
 | .normal, σ | .ret, σ => match (σ.hp[0]? : Option Blk) with
  | some (Blk.gh _ (some [])) => True
  | some (Blk.gh _ none) => True
  | _ => False
 | _, _ => False
def Γ0 : Gam := ⟨fun _ _ => (False, .u), fun _ _ _ => (False, fun _ _ => False), fun _ => False, fun _ _ _ _ => (False, fun _ _ => False)⟩
theorem g0_ok : GOk P Γ0 := ⟨fun _ _ _ h => h.elim, fun _ _ _ _ h => h.elim, fun _ _ _ _ h => h.elim, fun _ _ _ h => h.elim, fun _ _ _ h => h.elim, fun _ _ _ _ h => h.elim⟩
def Gam.ext (Γ : Gam) (f : Nat) (r : List V → Prop × V) : Gam := ⟨fun g as0 => if g = f then r as0 else Γ g as0, Γ.h, Γ.al, Γ.y⟩
theorem ext_ne {f g : Nat} {r : List V → Prop × V} {as0 : List V} (h : g ≠ f) : Γ.ext f r g as0 = Γ g as0 := if_neg h
theorem ext_eq {f : Nat} {r : List V → Prop × V} {as0 : List V} : Γ.ext f r f as0 = r as0 := if_pos rfl
theorem GOk.ext (h : GOk P Γ) {f : Nat} {r : List V → Prop × V} (he : Enters P f) (hr : ∀ as0, (r as0).1 → PureCall P f as0 (r as0).2) (hf : f < 1000000 := by decide) : GOk P (Γ.ext f r) := by
 refine ⟨fun g as0 hg6 hg => ?_, fun g as0 r' bs hg hg6 hv => ?_, fun g as0 ys hg6 hg hv => ?_, fun g as0 hg6 hg => ?_, h.heap, h.yc⟩
 ·by_cases e : g = f
  ·subst e
   rw [ext_eq] at hg ⊢
   exact ⟨he, hr as0 hg⟩
  ·rw [ext_ne e] at hg ⊢
   exact h.pure g as0 hg6 hg
 ·rw [ext_ne (by omega)] at hg hv
  exact h.own g as0 r' bs hg hg6 hv
 ·rw [ext_ne (by omega)] at hg hv
  exact h.iter g as0 ys hg6 hg hv
 ·rw [ext_ne (by omega)] at hg
  have e1 : ∀ x, Γ.ext f r (4000000 + g) x = Γ (4000000 + g) x := fun x => ext_ne (by omega)
  simp only [e1]
  exact h.rel g as0 hg6 hg
theorem GOk.extO (h : GOk P Γ) {f : Nat} {r : List V → Prop × V} (he : Enters P f) (hr : ∀ as0 v bs, (r as0).1 → (r as0).2 = .tp [v, .tp bs] → OwnCall P f as0 v (bs.map vB)) (hf : f < 1000000 := by decide) : GOk P (Γ.ext (1000000 + f) r) := by
 refine ⟨fun g as0 hg6 hg => ?_, fun g as0 r' bs hg hg6 hv => ?_, fun g as0 ys hg6 hg hv => ?_, fun g as0 hg6 hg => ?_, h.heap, h.yc⟩
 ·rw [ext_ne (by omega)] at hg ⊢
  exact h.pure g as0 hg6 hg
 ·by_cases e : g = f
  ·subst e
   rw [ext_eq] at hg hv
   exact ⟨he, hr as0 r' bs hg hv⟩
  ·rw [ext_ne (by omega)] at hg hv
   exact h.own g as0 r' bs hg hg6 hv
 ·rw [ext_ne (by omega)] at hg hv
  exact h.iter g as0 ys hg6 hg hv
 ·rw [ext_ne (by omega)] at hg
  have e1 : ∀ x, Γ.ext (1000000 + f) r (4000000 + g) x = Γ (4000000 + g) x := fun x => ext_ne (by omega)
  simp only [e1]
  exact h.rel g as0 hg6 hg
def Gam.extH (Γ : Gam) (f : Nat) (t : List V → List Blk → Prop × (V → List Blk → Prop)) : Gam := ⟨Γ.f, fun g as0 hp => if g = f then t as0 hp else Γ.h g as0 hp, Γ.al, Γ.y⟩
theorem GOk.extH (h : GOk P Γ) {f : Nat} {t : List V → List Blk → Prop × (V → List Blk → Prop)} (he : Enters P f)
  (hr : ∀ as0 hp, (t as0 hp).1 → (∀ r hp', (t as0 hp).2 r hp' → ∀ y, ghO hp = some y → ghO hp' = some y) ∧ HeapCall P f as0 hp (t as0 hp).2) : GOk P (Γ.extH f t) := by
 refine ⟨h.pure, h.own, h.iter, h.rel, fun g as0 hp hg => ?_, h.yc⟩
 unfold Gam.extH at hg ⊢
 by_cases e : g = f
 ·subst e
  simp only [if_true] at hg ⊢
  exact ⟨he, hr as0 hp hg⟩
 ·simp only [if_neg e] at hg ⊢
  exact h.heap g as0 hp hg
def Gam.extY (Γ : Gam) (f : Nat) (t : (List V → Prop) → List V → List Blk → Prop × (V → List Blk → Prop)) : Gam := ⟨Γ.f, Γ.h, Γ.al, fun g al as0 hp => if g = f then t al as0 hp else Γ.y g al as0 hp⟩
theorem GOk.extY (h : GOk P Γ) {f : Nat} {t : (List V → Prop) → List V → List Blk → Prop × (V → List Blk → Prop)} (he : Enters P f) (hr : ∀ al as0 hp, (t al as0 hp).1 → YCall P f al as0 hp (t al as0 hp).2) : GOk P (Γ.extY f t) := by
 refine ⟨h.pure, h.own, h.iter, h.rel, h.heap, fun g al as0 hp hg => ?_⟩
 unfold Gam.extY at hg ⊢
 by_cases e : g = f
 ·subst e
  simp only [if_true] at hg ⊢
  exact ⟨he, hr al as0 hp hg⟩
 ·simp only [if_neg e] at hg ⊢
  exact h.yc g al as0 hp hg
def Gam.wal (Γ : Gam) (al : List V → Prop) : Gam := ⟨Γ.f, Γ.h, al, Γ.y⟩
theorem GOk.wal (h : GOk P Γ) (al : List V → Prop) : GOk P (Γ.wal al) := ⟨h.pure, h.own, h.iter, h.rel, h.heap, h.yc⟩
theorem YCall.mono {f : FuncId} {al : List V → Prop} {args : List V} {hp : List Blk} {R R' : V → List Blk → Prop} (h : YCall P f al args hp R) (hr : ∀ r hp, R r hp → R' r hp) : YCall P f al args hp R' := by
 intro F n lo C S w O cargs a1 a2 a3 a4 a5 a6 a7 a8
 refine (h F n lo C S w O cargs a1 a2 a3 a4 a5 a6 a7 a8).mono ?_
 rintro e w' ⟨c, S', O', r, hp', h1, h2, h3⟩
 exact ⟨c, S', O', r, hp', h1, hr _ _ h2, h3⟩
theorem start_frO {S : Nat → Prop} {w : World} {O : OInfo} {args : List V} {cargs : Array Value} {nt : Nat} (hsz : cargs.size = args.length) (hn : args.length ≤ nt) (hrep : RepL S w O args cargs.toList) :
  (cargs ++ Array.replicate (nt - cargs.size) undef).size = nt ∧ FrM S w O (lkp (zipA 0 args)) { tmps := cargs ++ Array.replicate (nt - cargs.size) undef, defers := [] } := by
 have hlo : ∀ t, t < cargs.size → (cargs ++ Array.replicate (nt - cargs.size) undef).getD t undef = cargs.getD t undef := by
  intro t ht
  simp [Array.getElem?_append, ht]
 refine ⟨by simp; omega, fun t => ?_⟩
 show Rep S w O (lkp (zipA 0 args) t) _
 rw [lkp_zipA, if_pos (Nat.zero_le _), Nat.sub_zero]
 cases ht : args[t]? with
 | none => simp [Rep]
 | some v =>
  obtain ⟨cv, hcv, hv⟩ := RepL.get _ _ t v hrep ht
  have hlt : t < cargs.size := by have := getElemLt hcv; simpa using this
  show Rep S w O v ((cargs ++ Array.replicate (nt - cargs.size) undef).getD t undef)
  rw [hlo t hlt]
  have : cargs.getD t undef = cv := by
   rw [Array.getElem?_toList] at hcv
   have h2 := (Array.getElem?_eq_some_iff.1 hcv).2
   simp [hlt, h2]
  rw [this]
  exact hv
def Cy (lo : Nat) (S0 : Nat → Prop) (w0 : World) (O0 : OInfo) (C : (Nat → Prop) → World → OInfo → Gh → Prop) : Ctx := fun S w O ds h => ds = [] ∧ C S w O h ∧ ExtN lo S0 S w0 w O0 O
theorem yfun_body (hG : GOk P Γ) (hm : P.follows .mixedOrders = true) {f : FuncId} {fn : Func} {c : Code} {rc : RC} {rs : List RV} (hf : P.funcs[f]? = some fn) (hb : fn.body = some c) {lo : Nat}
  (hc : comp P pu (fn.ntmps, 0) lo 3 rc c = some rc) (hr : resRV P fn.results.toList = some rs) {args : List V} (hn : args.length ≤ fn.ntmps) {hp : List Blk} (hlo : hp.length = lo) (hpos : 0 < lo) {R : V → List Blk → Prop}
  (h : wpR Γ (EqFlat P) rc (endK rs fun σ => R (resV σ.hp σ.fr rs) σ.hp) ⟨lkp (zipA 0 args), hp⟩) : YCall P f Γ.al args hp R := by
 intro F n lo1 C S w O cargs hF hro hY hlo1 hctx hmat hsz hrep
 refine callsIn_of_wp_marks hf hb (hF.1 f) ?_ hro
 obtain ⟨h1, h2⟩ := start_frO hsz hn hrep
 obtain ⟨M, hM⟩ : ∃ M : FrI, M = ⟨fn.ntmps, 0, fun _ => undef, Γ.al⟩ := ⟨_, rfl⟩
 have hnm : M.nm = (fn.ntmps, 0) := by rw [hM]; rfl
 have hOlt : ∀ id x, O id = some x → id < lo := fun id x h => by have := mat_lt hmat h; omega
 have hCy : CtxOk P F n M (Cy lo S w O C) lo 3 0 := by
  refine ⟨?_, ?_, fun h => (by cases h), fun h => (by cases h), fun h => (by cases h), fun h => (by cases h), fun h => (by cases h), fun h => (by cases h), ?_, fun _ => hro⟩
  ·rintro S1 S2 w1 w2 O1 O2 ds g g' ⟨a1, a2, a3⟩ hlt ev hg
   exact ⟨a1, hY.evol a2 hlt ev hg, a3.then ev.ext⟩
  ·rintro S1 w1 O1 ds g g' kk ⟨a1, a2, a3⟩ hkk hg
   exact ⟨a1, hY.cut a2 (by omega) (hg (by omega)), a3.cut hkk⟩
  ·rintro _ S1 w1 O1 ds caps bv x z rest cx l m ⟨a1, a2, a3⟩ hmat1 hl hx hs
   obtain ⟨fn', tm, as0, bd, hyr, hround⟩ := hY.yld (m := m) a2 hmat1 hl hx hs
   refine ⟨fn', tm, as0, bd, hyr, hround.mono ?_⟩
   rintro e W' ⟨b, S', O', bv', b1, b2, b3, b4, b5⟩
   exact ⟨b, S', O', bv', b1, by rw [hM]; exact b2, ⟨a1, b3, a3.then b4⟩, b4, b5⟩
 have hat : At (Cy lo S w O C) M S w O ⟨lkp (zipA 0 args), hp⟩ { tmps := cargs ++ Array.replicate (fn.ntmps - cargs.size) undef, defers := [] } := by
  refine ⟨⟨rfl, hctx, ExtN.refl _ _ _ _⟩, ⟨by rw [hM]; exact h1, fun t ht => by rw [hM] at ht; exact absurd ht (Nat.not_lt_zero _), h2, hmat⟩⟩
 refine wpR_sound hG hm (M := M) (by rw [hM]; exact fun _ h => h) rc c rc F n lo 3 hF (by rw [hnm]; exact hc) _ 0 hCy _ _ _ S w O _ h hat ?_
 intro e σ' S' w' O' a' he hat'
 have fin : (rvs σ'.hp σ'.fr rs ∧ R (resV σ'.hp σ'.fr rs) σ'.hp) → LeavesInM F n P fn a'.tmps (fun e w' => ∃ c S' O' r hp', e = .returned c ∧ R r hp' ∧ C S' w' O' (ghO hp') ∧ Ext S S' w w' O O' ∧ Mat S' w' O' hp' ∧ Rep S' w' O' r c) a'.defers .returning w' := by
  rintro ⟨k1, k2⟩
  obtain ⟨a1, a2, a3⟩ := hat'.ctx
  rw [a1]
  obtain ⟨cv, hrun, hrp⟩ := results_run hat'.sr hr k1
  exact ⟨cv, hrun, cv, S', O', _, _, rfl, k2, a2, a3.ext hOlt, hat'.sr.mat, hrp⟩
 cases e <;> first | exact fin he | exact he.elim
end
end Go.Fam
namespace Go.Fam
abbrev cMv (d s : Nat) : RO := ⟨some d, none, [s], none, .q (.mv (.t s))⟩
abbrev cEx (d s k : Nat) : RO := ⟨some d, none, [s], none, .q (.ext (.t s) k)⟩
abbrev cFa (d s k : Nat) : RO := ⟨some d, none, [s], none, .q (.fad k (.t s))⟩
abbrev cLd (d s : Nat) (a : Bool) (n : Nat) : RO := ⟨some d, none, [s], none, .q (.ld a n (.t s))⟩
abbrev cLn (d s : Nat) : RO := ⟨some d, none, [s], none, .q (.len (.t s))⟩
abbrev cQ (d : Nat) (ts : List Nat) (q : Q) : RO := ⟨some d, none, ts, none, .q q⟩
abbrev gMv (d g : Nat) (b : Bool) (s : Nat) : RO := ⟨some d, some (g, b), [s], none, .q (.mv (.t s))⟩
abbrev gQ (d g : Nat) (b : Bool) (ts : List Nat) (q : Q) : RO := ⟨some d, some (g, b), ts, none, .q q⟩
abbrev cB (d : Nat) (o : BinOp) (a b : Nat) : RO := ⟨some d, none, [a, b], none, .q (.bin o (.t a) (.t b))⟩
abbrev cC (d : Nat) (o : BinOp) (a : Nat) (n : Int) : RO := ⟨some d, none, [a], none, .q (.bin o (.t a) (.k (.i n)))⟩
abbrev cI (d : Nat) (n : Int) : RO := ⟨some d, none, [], none, .q (.mv (.k (.i n)))⟩
abbrev cA (d k a b : Nat) : RO := ⟨some d, none, [a, b], none, .q (.iad k (.t a) (.t b))⟩
abbrev cZ (d s : Nat) : RO := ⟨some d, none, [s], none, .q (.nilc (.t s))⟩
abbrev cN (d s : Nat) : RO := ⟨some d, none, [s], none, .q (.not (.t s))⟩
abbrev cX (d s : Nat) : RO := ⟨some d, none, [s], none, .q (.box (.t s))⟩
abbrev CCx (p : Program) (f : Func) (pu : List Nat) (rc : RC) : Prop := comp p pu (f.ntmps, 0) 0 1 rc (f.body.getD .skip) = some rc
abbrev CBx (f : Func) : Prop := f.body = some (f.body.getD .skip)
abbrev CSx (p : Program) (f : Func) (rs : List RV) : Prop := resRV p f.results.toList = some rs
abbrev kI (n : Int) : Od := .k (.i n)
abbrev kB (b : Bool) : Od := .k (.b b)
abbrev kF (f : Nat) : Od := .k (.fn f [])
end Go.Fam
namespace Go.Fam
theorem upd_some (fr : List (Nat × V)) (d : Nat) (v : V) : upd (lkp fr) (some d) v = lkp ((d, v) :: fr) := rfl
theorem upd_none (fr : Nat → V) (v : V) : upd fr none v = fr := rfl
theorem lkp_cons (fr : List (Nat × V)) (d t : Nat) (v : V) : lkp ((d, v) :: fr) t = if t = d then v else lkp fr t := rfl
theorem lkp_nil (t : Nat) : lkp [] t = .u := rfl
theorem vw_i (hp : List Blk) (n : Nat) (x : Int) : vw hp (n + 1) (.i x) = .i x := rfl
theorem vw_b (hp : List Blk) (n : Nat) (x : Bool) : vw hp (n + 1) (.b x) = .b x := rfl
theorem vw_u (hp : List Blk) (n : Nat) : vw hp n .u = .u := by cases n <;> rfl
theorem vw_pn (hp : List Blk) (n : Nat) : vw hp (n + 1) .pn = .pn := rfl
theorem vw_z (hp : List Blk) (n : Nat) (e : Nat) : vw hp (n + 1) (.z e) = .sl e [] := rfl
theorem vw_sl (hp : List Blk) (n : Nat) (e : Nat) (r : List (List V)) : vw hp (n + 1) (.sl e r) = .sl e r := rfl
theorem vw_pa (hp : List Blk) (n : Nat) (r : List V) : vw hp (n + 1) (.pa r) = .pa r := rfl
theorem vw_ag (hp : List Blk) (n : Nat) (r : List V) : vw hp (n + 1) (.ag r) = .ag (r.map (vw hp n)) := rfl
theorem vw_tp (hp : List Blk) (n : Nat) (r : List V) : vw hp (n + 1) (.tp r) = .tp (r.map (vw hp n)) := rfl
theorem vw_fn (hp : List Blk) (n f : Nat) (r : List V) : vw hp (n + 1) (.fn f r) = .fn f (r.map (vw hp n)) := rfl
theorem vw_ad (hp : List Blk) (n id g off : Nat) : vw hp (n + 1) (.ad id g off) = match hp[id]? with
   | some (.cells g' vs) => if g' = g then .pa ((vs.drop off).map (vw hp n)) else .u
   | _ => .u := rfl
theorem vw_rf (hp : List Blk) (n id g off len es : Nat) : vw hp (n + 1) (.rf id g off len es) = match hp[id]? with
   | some (.cells g' vs) => if g' = g ∧ off + len * es ≤ vs.length then .sl es ((chunk es vs off len).map fun r => r.map (vw hp n)) else .u
   | _ => .u := rfl
theorem vw8 (hp : List Blk) (v : V) : vw hp 8 v = vw hp (7 + 1) v := rfl
section
variable {Γ : Gam} {E : TypeId → Nat → Prop} {g : Bool} {base : Nat}
theorem run_nil (σ : St) (K : St → Prop) : runR Γ E g base [] σ K = K σ := rfl
theorem run_cons (o : RO) (l : List RO) (σ : St) (K : St → Prop) : runR Γ E g base (o :: l) σ K = ((step Γ E g base o σ).1 ∧ runR Γ E g base l (step Γ E g base o σ).2 K) := rfl
theorem step_q (d : Option Nat) (gd : Option (Nat × Bool)) (ts : List Nat) (nid : Option Nat) (q : Q) (σ : St) :
  step Γ E false base ⟨d, gd, ts, nid, .q q⟩ σ = ((qv Γ E σ.hp q (evO σ.fr)).1, ⟨upd σ.fr d (qv Γ E σ.hp q (evO σ.fr)).2, σ.hp⟩) := rfl
theorem eff_q (d : Option Nat) (gd : Option (Nat × Bool)) (ts : List Nat) (nid : Option Nat) (q : Q) (σ : St) :
  eff Γ E false base ⟨d, gd, ts, nid, .q q⟩ σ = ((qv Γ E σ.hp q (evO σ.fr)).1, (qv Γ E σ.hp q (evO σ.fr)).2, []) := rfl
variable {Q : Exit → St → Prop} {σ : St}
theorem ru_no : wpR Γ E .no Q σ = False := rfl
theorem ru_skip : wpR Γ E .skip Q σ = Q .normal σ := rfl
theorem ru_reg (l : List RO) : wpR Γ E (.reg g l) Q σ = runR Γ E g 0 l σ (Q .normal) := rfl
theorem ru_any (m : Nat) (l : List AnyOp) : wpR Γ E (.any g m l) Q σ = runX Γ E g σ.hp.length l [] ⟨σ.fr, σ.hp ++ List.replicate m .hole⟩ (Q .normal) := rfl
theorem ru_seq (a b : RC) : wpR Γ E (.seq a b) Q σ = wpR Γ E a (thenQ (wpR Γ E b Q) Q) σ := rfl
theorem ru_cond (c : Od) (a b : RC) : wpR Γ E (.cond c a b) Q σ = match evO σ.fr c with
  | .b t => (t = true → wpR Γ E a Q σ) ∧ (t = false → wpR Γ E b Q σ)
  | _ => False := rfl
theorem ru_cnd (c : Od) (a b : RC) : wpR Γ E (.cond c a b) Q σ = match evO σ.fr c with
  | .b t => if t = true then wpR Γ E a Q σ else wpR Γ E b Q σ
  | _ => False := by
 rw [ru_cond]
 cases evO σ.fr c <;> try rfl
 rename_i t
 cases t <;> simp
theorem ru_block (id : Nat) (a : RC) : wpR Γ E (.block id a) Q σ = wpR Γ E a (blockQ id Q) σ := rfl
theorem ru_exit (id : Nat) : wpR Γ E (.exit id) Q σ = Q (.exit id) σ := rfl
theorem ru_ret : wpR Γ E .ret Q σ = Q .ret σ := rfl
theorem ru_keep (l : List Nat) (a : RC) : wpR Γ E (.keep l a) Q σ = wpR Γ E a Q ⟨lkp (l.map fun t => (t, σ.fr t)), σ.hp⟩ := rfl
theorem ru_drp (n : Nat) (a : RC) : wpR Γ E (.drp n a) Q σ = wpR Γ E a Q ⟨fun t => cutV σ.hp n (σ.fr t), cutH n σ.hp⟩ := rfl
theorem ru_own (t es : Nat) (a : RC) : wpR Γ E (.own t es a) Q σ = match σ.fr t with
  | .z _ => wpR Γ E a Q ⟨upd σ.fr (some t) (.rf σ.hp.length 0 0 0 es), σ.hp ++ [.cells 0 []]⟩
  | _ => False := rfl
theorem ru_owng (t es gs : Nat) (a : RC) : wpR Γ E (.owng t es gs a) Q σ = match σ.fr t with
  | .z _ => wpR Γ E a Q ⟨upd σ.fr (some t) (.rf σ.hp.length gs 0 0 es), σ.hp ++ [.cells gs []]⟩
  | _ => False := rfl
theorem ru_ownc (t off es : Nat) (a : RC) : wpR Γ E (.ownc t off es a) Q σ = match σ.fr t with
  | .ad id g o => match σ.hp[id]? with
   | some (.cells g' vs) => match vs[o + off]? with
    | some (.z _) => g' = g ∧ wpR Γ E a Q ⟨σ.fr, σ.hp.set id (.cells g (vs.set (o + off) (.rf σ.hp.length 0 0 0 es))) ++ [.cells 0 []]⟩
    | _ => False
   | _ => False
  | _ => False := rfl
theorem ru_owni (t i off es : Nat) (a : RC) : wpR Γ E (.owni t i off es a) Q σ = match σ.fr t, σ.fr i with
  | .rf id g o _ es', .i k => match σ.hp[id]? with
   | some (.cells g' vs) => match vs[o + k.toNat * es' + off]? with
    | some (.z _) => g' = g ∧ wpR Γ E a Q ⟨σ.fr, σ.hp.set id (.cells g (vs.set (o + k.toNat * es' + off) (.rf σ.hp.length 0 0 0 es))) ++ [.cells 0 []]⟩
    | _ => False
   | _ => False
  | _, _ => False := rfl
theorem ru_swp (i j : Nat) (a : RC) : wpR Γ E (.swp i j a) Q σ = (i < σ.hp.length ∧ j < σ.hp.length ∧ wpR Γ E a Q ⟨fun t => renV (sw i j) (σ.fr t), swH i j σ.hp⟩) := rfl
theorem ru_nxt (d m it : Nat) : wpR Γ E (.nxt d m it) Q σ = match σ.fr it with
  | .it id g => match σ.hp[id]? with
   | some (.iter mid n left _) => match σ.hp[mid]? with
    | some (.map _ ks _) => g = 0 ∧ ks.length = n ∧ (left = [] → Q .normal ⟨upd (upd σ.fr (some d) .u) (some m) (.b false), σ.hp⟩) ∧
      ∀ j ∈ left, Q .normal ⟨upd (upd σ.fr (some d) .u) (some m) (.b true), σ.hp.set id (.iter mid n (left.erase j) (some j))⟩
    | _ => False
   | _ => False
  | _ => False := rfl
theorem ru_yrg (l1 : List RO) (y : RO) (ks : List Nat) (l2 : List RO) : wpR Γ E (.yrg g l1 y ks l2) Q σ = runR Γ E g 0 l1 σ fun σ1 => match condB σ1.fr y.gd with
  | none => False
  | some false => runR Γ E g 0 l2 ⟨upd σ1.fr y.dst (.gv false .u), σ1.hp⟩ (Q .normal)
  | some true => match y.x with
   | .o f args => match opv g σ1.fr f, σ1.hp with
    | .yl l, [.gh caps (some (x :: rest))] => needW g y σ1.fr ∧ caps[0]? = some (.yl l) ∧ args.map (opv g σ1.fr) = x ∧ flatL x = true ∧ (∀ t ∈ ks, sfree (σ1.fr t) = true ∨ caps[t]? = some (σ1.fr t)) ∧
      ∀ b, runR Γ E g 0 l2 ⟨upd (lkp (slots ks σ1.fr)) y.dst (yres y.gd b), [.gh caps (if b then some rest else none)]⟩ (Q .normal)
    | _, _ => False
   | _ => False := rfl
theorem ru_hcl (l1 : List RO) (y : RO) (l2 : List RO) : wpR Γ E (.hcl g l1 y l2) Q σ = runR Γ E g 0 l1 σ fun σ1 => match y.x with
  | .o f args => match opv g σ1.fr f with
   | .fn gf caps => needW g y σ1.fr ∧ (Γ.h gf (args.map (opv g σ1.fr) ++ caps) σ1.hp).1 ∧
     ∀ r hp', (Γ.h gf (args.map (opv g σ1.fr) ++ caps) σ1.hp).2 r hp' → runR Γ E g 0 l2 ⟨upd σ1.fr y.dst r, hp'⟩ (Q .normal)
   | _ => False
  | _ => False := rfl
theorem ru_yrx (m1 : Nat) (l1 : List AnyOp) (y : AnyOp) (m2 : Nat) (l2 : List AnyOp) : wpR Γ E (.yrx g m1 l1 y m2 l2) Q σ = runX Γ E g σ.hp.length l1 [] ⟨σ.fr, σ.hp ++ List.replicate m1 .hole⟩ fun σ1 => match y.o.x with
  | .o f args => match opv g σ1.fr f, σ1.hp with
   | .yl l, .gh caps (some ((.b true :: bv) :: [.tp x, .tp z] :: rest)) :: tl => needW g y.o σ1.fr ∧ caps[0]? = some (.yl l) ∧ args.map (opv g σ1.fr) = x ∧ tl = (bv ++ z).map vB ∧
     ∀ b bv', Γ.al bv' → runX Γ E g (Blk.gh caps (some ((.b b :: bv') :: if b then rest else [])) :: (bv' ++ z).map vB).length l2 (List.replicate (l1.length + 1) ⟨none, []⟩) ⟨upd σ1.fr y.o.dst (.b b), (Blk.gh caps (some ((.b b :: bv') :: if b then rest else [])) :: (bv' ++ z).map vB) ++ List.replicate m2 .hole⟩ (Q .normal)
   | _, _ => False
  | _ => False := rfl
theorem ru_yra (m1 : Nat) (l1 : List AnyOp) (y : AnyOp) (ks : List Nat) (m2 : Nat) (l2 : List AnyOp) : wpR Γ E (.yra g m1 l1 y ks m2 l2) Q σ = runX Γ E g σ.hp.length l1 [] ⟨σ.fr, σ.hp ++ List.replicate m1 .hole⟩ fun σ1 => match y.o.x with
  | .o f args => match opv g σ1.fr f, σ1.hp with
   | .yl l, [.gh caps (some (x :: rest))] => needW g y.o σ1.fr ∧ caps[0]? = some (.yl l) ∧ args.map (opv g σ1.fr) = x ∧ flatL x = true ∧ (∀ t ∈ ks, sfree (σ1.fr t) = true ∨ caps[t]? = some (σ1.fr t)) ∧
     ∀ b, runX Γ E g [Blk.gh caps (if b then some rest else none)].length l2 (List.replicate (l1.length + 1) ⟨none, []⟩) ⟨upd (lkp (slots ks σ1.fr)) y.o.dst (.b b), [.gh caps (if b then some rest else none)] ++ List.replicate m2 .hole⟩ (Q .normal)
   | _, _ => False
  | _ => False := rfl
theorem ru_hca (m1 : Nat) (l1 : List AnyOp) (y : AnyOp) (m2 : Nat) (l2 : List AnyOp) : wpR Γ E (.hca g m1 l1 y m2 l2) Q σ = runX Γ E g σ.hp.length l1 [] ⟨σ.fr, σ.hp ++ List.replicate m1 .hole⟩ fun σ1 => match y.o.x with
  | .o f args => match opv g σ1.fr f with
   | .fn gf caps => needW g y.o σ1.fr ∧ (Γ.h gf (args.map (opv g σ1.fr) ++ caps) σ1.hp).1 ∧
     ∀ r hp', (Γ.h gf (args.map (opv g σ1.fr) ++ caps) σ1.hp).2 r hp' → runX Γ E g hp'.length l2 (List.replicate (l1.length + 1) ⟨none, []⟩) ⟨upd σ1.fr y.o.dst r, hp' ++ List.replicate m2 .hole⟩ (Q .normal)
   | _ => False
  | _ => False := rfl
theorem ru_rnl (l1 : List RO) (y : RO) (l2 : List RO) : wpR Γ E (.rnl g l1 y l2) Q σ = runR Γ E g 0 l1 σ fun σ1 => match y.x with
  | .q (.len a) => match opv g σ1.fr a with
   | .sl _ rows => needW g y σ1.fr ∧ ∀ b, (rows ≠ [] → b = false) → runR Γ E g 0 l2 ⟨upd σ1.fr y.dst (.b b), σ1.hp⟩ (Q .normal)
   | .z _ => needW g y σ1.fr ∧ ∀ b, runR Γ E g 0 l2 ⟨upd σ1.fr y.dst (.b b), σ1.hp⟩ (Q .normal)
   | _ => False
  | _ => False := rfl
theorem ru_itm (l : List It) : wpR Γ E (.itm l) Q σ = runI Γ E l σ (Q .normal) := rfl
theorem runI_nil (K : St → Prop) : runI Γ E [] σ K = K σ := rfl
theorem runI_r (o : RO) (l : List It) (K : St → Prop) : runI Γ E (.r o :: l) σ K = ((step Γ E true 0 o σ).1 ∧ runI Γ E l (step Γ E true 0 o σ).2 K) := rfl
theorem runI_w (o : RO) (l : List It) (K : St → Prop) : runI Γ E (.w o :: l) σ K = match condB σ.fr o.gd with
  | none => False
  | some false => runI Γ E l ⟨upd σ.fr o.dst (.gv false .u), σ.hp⟩ K
  | some true => (step Γ E true 0 o σ).1 ∧ runI Γ E l (step Γ E true 0 o σ).2 K := rfl
theorem runI_h (o : RO) (l : List It) (K : St → Prop) : runI Γ E (.h o :: l) σ K = match condB σ.fr o.gd with
  | none => False
  | some false => runI Γ E l ⟨upd σ.fr o.dst (.gv false .u), σ.hp⟩ K
  | some true => match o.x with
   | .o f args => match opv true σ.fr f with
    | .fn gf caps => needW true o σ.fr ∧ (Γ.h gf (args.map (opv true σ.fr) ++ caps) σ.hp).1 ∧
      ∀ r hp', (Γ.h gf (args.map (opv true σ.fr) ++ caps) σ.hp).2 r hp' → runI Γ E l ⟨upd σ.fr o.dst r, hp'⟩ K
    | _ => False
   | _ => False := rfl
theorem runI_y (lo d : Nat) (o : RO) (l : List It) (K : St → Prop) : runI Γ E (.y lo d o :: l) σ K = match condB σ.fr o.gd with
  | none => False
  | some false => runI Γ E l ⟨upd σ.fr o.dst (.gv false .u), σ.hp⟩ K
  | some true => match o.x with
   | .o f args => match opv true (drpS d σ).fr f with
    | .fn gf caps => needW true o (drpS d σ).fr ∧ lo ≤ (drpS d σ).hp.length ∧ (Γ.y gf Γ.al (args.map (opv true (drpS d σ).fr) ++ caps) (drpS d σ).hp).1 ∧
      ∀ r hp', (Γ.y gf Γ.al (args.map (opv true (drpS d σ).fr) ++ caps) (drpS d σ).hp).2 r hp' → runI Γ E l ⟨upd (drpS d σ).fr o.dst r, hp'⟩ K
    | _ => False
   | _ => False := rfl
theorem ru_scp (a : RC) : wpR Γ E (.scp a) Q σ = wpR Γ E a (noGo Q) σ := rfl
theorem ru_dum (a : RC) : wpR Γ E (.dum a) Q σ = wpR Γ E a Q ⟨σ.fr, σ.hp ++ [.hole]⟩ := rfl
theorem ru_yrh (l1 : List RO) (y : RO) (l2 : List RO) : wpR Γ E (.yrh g l1 y l2) Q σ = runR Γ E g 0 l1 σ fun σ1 => match condB σ1.fr y.gd with
  | none => False
  | some false => runR Γ E g 0 l2 ⟨upd σ1.fr y.dst (.gv false .u), σ1.hp⟩ (Q .normal)
  | some true => match y.x with
   | .o f args => match opv g σ1.fr f, σ1.hp with
    | .yl l, .gh caps (some ((.b true :: bv) :: [.tp x, .tp z] :: rest)) :: tl => needW g y σ1.fr ∧ caps[0]? = some (.yl l) ∧ args.map (opv g σ1.fr) = x ∧ tl = (bv ++ z).map vB ∧
      ∀ b bv', Γ.al bv' → runR Γ E g 0 l2 ⟨upd σ1.fr y.dst (yres y.gd b), .gh caps (some ((.b b :: bv') :: if b then rest else [])) :: (bv' ++ z).map vB⟩ (Q .normal)
    | _, _ => False
   | _ => False := rfl
theorem ru_ycl (lo : Nat) (l1 : List RO) (y : RO) (l2 : List RO) : wpR Γ E (.ycl lo g l1 y l2) Q σ = runR Γ E g 0 l1 σ fun σ1 => match y.x with
  | .o f args => match opv g σ1.fr f with
   | .fn gf caps => needW g y σ1.fr ∧ lo ≤ σ1.hp.length ∧ (Γ.y gf Γ.al (args.map (opv g σ1.fr) ++ caps) σ1.hp).1 ∧
     ∀ r hp', (Γ.y gf Γ.al (args.map (opv g σ1.fr) ++ caps) σ1.hp).2 r hp' → runR Γ E g 0 l2 ⟨upd σ1.fr y.dst r, hp'⟩ (Q .normal)
   | _ => False
  | _ => False := rfl
theorem ru_crl (l1 : List RO) (y : RO) (l2 : List RO) : wpR Γ E (.crl g l1 y l2) Q σ = runR Γ E g 0 l1 σ fun σ1 => match y.x with
  | .o f args => match opv g σ1.fr f with
   | .fn gf caps => needW g y σ1.fr ∧ gf < 1000000 ∧ hasRefL (args.map (opv g σ1.fr) ++ caps) = false ∧ (Γ (3000000 + gf) ((args.map (opv g σ1.fr) ++ caps).map (vw σ1.hp 8))).1 ∧
     ∀ r bs, (Γ (4000000 + gf) (.tp (r :: bs) :: (args.map (opv g σ1.fr) ++ caps).map (vw σ1.hp 8))).1 →
      runR Γ E g 0 l2 ⟨upd σ1.fr y.dst (shV σ1.hp.length r), σ1.hp ++ (bs.map vB).map (shB σ1.hp.length)⟩ (Q .normal)
   | _ => False
  | _ => False := rfl
theorem cut_lkp (hp : List Blk) (n : Nat) : ∀ L : List (Nat × V), (fun t => cutV hp n (lkp L t)) = lkp (L.map fun p => (p.1, cutV hp n p.2))
 | [] => by funext t; simp [lkp, cutV]
 | (k, v) :: L => by
  funext t
  have := congrFun (cut_lkp hp n L) t
  simp only [lkp, List.map_cons]
  split
  ·rfl
  ·exact this
theorem ren_lkp (f : Nat → Nat) : ∀ L : List (Nat × V), (fun t => renV f (lkp L t)) = lkp (L.map fun p => (p.1, renV f p.2))
 | [] => by funext t; simp [lkp, renV]
 | (k, v) :: L => by
  funext t
  have := congrFun (ren_lkp f L) t
  simp only [lkp, List.map_cons]
  split
  ·rfl
  ·exact this
theorem ru_loop {l : List Nat} {d : Option Nat} {a : RC} (I : Nat → St → Prop) (h0 : ∃ k, I k (kp l d σ)) (h : ∀ k σ', I k σ' → wpR Γ E a (thenQ (fun σ'' => ∃ j, j < k ∧ I j (kp l d σ'')) Q) σ') :
  wpR Γ E (.loop l d a) Q σ := ⟨I, h0, h⟩
theorem runR_mono {K K' : St → Prop} (hK : ∀ σ, K σ → K' σ) : ∀ (l : List RO) (σ : St), runR Γ E g base l σ K → runR Γ E g base l σ K'
 | [], σ, h => hK σ h
 | _ :: l, _, h => ⟨h.1, runR_mono hK l _ h.2⟩
theorem runX_mono {K K' : St → Prop} (hK : ∀ σ, K σ → K' σ) : ∀ (l : List AnyOp) (ds : List FP) (σ : St), runX Γ E g base l ds σ K → runX Γ E g base l ds σ K'
 | [], _, σ, h => hK σ h
 | _ :: l, _, _, h => ⟨h.1, h.2.1, runX_mono hK l _ _ h.2.2⟩
theorem runI_mono {K K' : St → Prop} (hK : ∀ σ, K σ → K' σ) : ∀ (l : List It) (σ : St), runI Γ E l σ K → runI Γ E l σ K'
 | [], σ, h => hK σ h
 | .r _ :: l, _, h => ⟨h.1, runI_mono hK l _ h.2⟩
 | .w o :: l, σ, h => by
  rw [runI_w] at h ⊢
  split
  ·rename_i hc; rw [hc] at h; exact h
  ·rename_i hc; rw [hc] at h; exact runI_mono hK l _ h
  ·rename_i hc; rw [hc] at h; exact ⟨h.1, runI_mono hK l _ h.2⟩
 | .h o :: l, σ, h => by
  rw [runI_h] at h ⊢
  split
  ·rename_i hc; rw [hc] at h; exact h
  ·rename_i hc; rw [hc] at h; exact runI_mono hK l _ h
  ·rename_i hc; rw [hc] at h
   simp only at h ⊢
   split at h
   ·split at h
    ·exact ⟨h.1, h.2.1, fun r hp' hr => runI_mono hK l _ (h.2.2 r hp' hr)⟩
    ·exact h.elim
   ·exact h.elim
 | .y lo d o :: l, σ, h => by
  rw [runI_y] at h ⊢
  split
  ·rename_i hc; rw [hc] at h; exact h
  ·rename_i hc; rw [hc] at h; exact runI_mono hK l _ h
  ·rename_i hc; rw [hc] at h
   simp only at h ⊢
   split at h
   ·split at h
    ·exact ⟨h.1, h.2.1, h.2.2.1, fun r hp' hr => runI_mono hK l _ (h.2.2.2 r hp' hr)⟩
    ·exact h.elim
   ·exact h.elim
theorem wpR_mono : ∀ (r : RC) (Q Q' : Exit → St → Prop) (σ : St), (∀ e σ, Q e σ → Q' e σ) → wpR Γ E r Q σ → wpR Γ E r Q' σ := by
  intro r
  induction r with
  | skip => intro Q Q' σ h hw; exact h _ _ hw
  | no => intro Q Q' σ h hw; exact hw.elim
  | reg g l => intro Q Q' σ h hw; exact runR_mono (h _) l σ hw
  | any g m l => intro Q Q' σ h hw; exact runX_mono (h _) l [] _ hw
  | seq a b iha ihb =>
    intro Q Q' σ h hw
    refine iha _ _ σ (fun e σ' he => ?_) hw
    cases e <;> first | exact h _ _ he | exact ihb _ _ _ h he
  | mid a b iha ihb =>
    intro Q Q' σ h hw
    obtain ⟨M, h1, h2⟩ := hw
    refine ⟨M, iha _ _ σ (fun e σ' he => ?_) h1, fun σ' hM => ihb _ _ _ h (h2 σ' hM)⟩
    cases e <;> first | exact h _ _ he | exact he
  | cond c a b iha ihb =>
    intro Q Q' σ h hw
    simp only [wpR] at hw ⊢
    cases hc : evO σ.fr c <;> simp only [hc] at hw ⊢ <;> try exact hw
    exact ⟨fun ht => iha _ _ _ h (hw.1 ht), fun ht => ihb _ _ _ h (hw.2 ht)⟩
  | block id a iha =>
    intro Q Q' σ h hw
    refine iha _ _ σ (fun e σ' he => ?_) hw
    cases e <;> first | exact h _ _ he | skip
    simp only [blockQ] at he ⊢
    split
    · rename_i hi; rw [if_pos hi] at he; exact h _ _ he
    · rename_i hi; rw [if_neg hi] at he; exact h _ _ he
  | loop l d a iha =>
    intro Q Q' σ h hw
    obtain ⟨I, h0, h1⟩ := hw
    refine ⟨I, h0, fun k σ' hI => iha _ _ σ' (fun e σ'' he => ?_) (h1 k σ' hI)⟩
    cases e <;> first | exact h _ _ he | exact he
  | exit id => intro Q Q' σ h hw; exact h _ _ hw
  | ret => intro Q Q' σ h hw; exact h _ _ hw
  | keep l a iha => intro Q Q' σ h hw; exact iha _ _ _ h hw
  | drp n a iha => intro Q Q' σ h hw; exact iha _ _ _ h hw
  | own t es a iha =>
    intro Q Q' σ h hw
    simp only [wpR] at hw ⊢
    cases ht : σ.fr t <;> simp only [ht] at hw ⊢ <;> try exact hw
    exact iha _ _ _ h hw
  | owng t es gs a iha =>
    intro Q Q' σ h hw
    simp only [wpR] at hw ⊢
    cases ht : σ.fr t <;> simp only [ht] at hw ⊢ <;> try exact hw
    exact iha _ _ _ h hw
  | ownc t off es a iha =>
    intro Q Q' σ h hw
    simp only [wpR] at hw ⊢
    cases ht : σ.fr t <;> simp only [ht] at hw ⊢ <;> try exact hw
    case ad id g o =>
      cases hid : σ.hp[id]? with
      | none => simp [hid] at hw
      | some bk =>
        cases bk <;> simp only [hid] at hw ⊢ <;> try exact hw
        case cells g' vs =>
          cases hv : vs[o + off]? with
          | none => simp [hv] at hw
          | some v => cases v <;> simp only [hv] at hw ⊢ <;> first | exact hw | exact ⟨hw.1, iha _ _ _ h hw.2⟩
  | owni t i off es a iha =>
    intro Q Q' σ h hw
    simp only [wpR] at hw ⊢
    cases ht : σ.fr t <;> simp only [ht] at hw ⊢ <;> try exact hw
    case rf id g o len es' =>
     cases hi : σ.fr i <;> simp only [hi] at hw ⊢ <;> try exact hw
     case i k =>
      cases hid : σ.hp[id]? with
      | none => simp [hid] at hw
      | some bk =>
        cases bk <;> simp only [hid] at hw ⊢ <;> try exact hw
        case cells g' vs =>
          cases hv : vs[o + k.toNat * es' + off]? with
          | none => simp [hv] at hw
          | some v => cases v <;> simp only [hv] at hw ⊢ <;> first | exact hw | exact ⟨hw.1, iha _ _ _ h hw.2⟩
  | swp i j a iha => intro Q Q' σ h hw; exact ⟨hw.1, hw.2.1, iha _ _ _ h hw.2.2⟩
  | nxt d m it =>
    intro Q Q' σ h hw
    simp only [wpR] at hw ⊢
    cases ht : σ.fr it <;> simp only [ht] at hw ⊢ <;> try exact hw
    case it id g =>
      cases hid : σ.hp[id]? with
      | none => simp [hid] at hw
      | some bk =>
        cases bk <;> simp only [hid] at hw ⊢ <;> try exact hw
        case iter mid n left cur =>
          cases hm : σ.hp[mid]? with
          | none => simp [hm] at hw
          | some bk2 =>
            cases bk2 <;> simp only [hm] at hw ⊢ <;> try exact hw
            case map st ks vs => exact ⟨hw.1, hw.2.1, fun hl => h _ _ (hw.2.2.1 hl), fun j hj => h _ _ (hw.2.2.2 j hj)⟩
  | rfn f ps lo b a ihb iha =>
    intro Q Q' σ h hw
    simp only [wpR] at hw ⊢
    split at hw
    · rename_i gf caps hf
      split at hw
      · rename_i ok ys hΓ
        obtain ⟨h1, h2, h3, h4, I, h5, h6, h7⟩ := hw
        refine ⟨h1, h2, h3, h4, I, h5, fun k x hp hx hI => ihb _ _ _ (fun e σ' he => ?_) (h6 k x hp hx hI), fun hp hI => h _ _ (h7 hp hI)⟩
        cases e <;> first | exact he | skip
        refine iha _ _ _ (fun e σ'' he' => ?_) he
        cases e <;> first | exact he' | exact h _ _ he'
      · exact hw
    · exact hw
  | yrg g l1 y ks l2 =>
    intro Q Q' σ h hw
    refine runR_mono (fun σ1 hw => ?_) l1 σ hw
    split at hw
    · exact hw.elim
    · exact runR_mono (h _) l2 _ hw
    · split at hw
      · split at hw
        · exact ⟨hw.1, hw.2.1, hw.2.2.1, hw.2.2.2.1, hw.2.2.2.2.1, fun b => runR_mono (h _) l2 _ (hw.2.2.2.2.2 b)⟩
        · exact hw.elim
      · exact hw.elim
  | hcl g l1 y l2 =>
    intro Q Q' σ h hw
    refine runR_mono (fun σ1 hw => ?_) l1 σ hw
    split at hw
    · split at hw
      · exact ⟨hw.1, hw.2.1, fun r bs hR => runR_mono (h _) l2 _ (hw.2.2 r bs hR)⟩
      · exact hw.elim
    · exact hw.elim
  | yrx g m1 l1 y m2 l2 =>
    intro Q Q' σ h hw
    refine runX_mono (fun σ1 hw => ?_) l1 _ _ hw
    split at hw
    · split at hw
      · exact ⟨hw.1, hw.2.1, hw.2.2.1, hw.2.2.2.1, fun b bv' ha => runX_mono (h _) l2 _ _ (hw.2.2.2.2 b bv' ha)⟩
      · exact hw.elim
    · exact hw.elim
  | yra g m1 l1 y ks m2 l2 =>
    intro Q Q' σ h hw
    refine runX_mono (fun σ1 hw => ?_) l1 _ _ hw
    split at hw
    · split at hw
      · exact ⟨hw.1, hw.2.1, hw.2.2.1, hw.2.2.2.1, hw.2.2.2.2.1, fun b => runX_mono (h _) l2 _ _ (hw.2.2.2.2.2 b)⟩
      · exact hw.elim
    · exact hw.elim
  | hca g m1 l1 y m2 l2 =>
    intro Q Q' σ h hw
    refine runX_mono (fun σ1 hw => ?_) l1 _ _ hw
    split at hw
    · split at hw
      · exact ⟨hw.1, hw.2.1, fun r bs hR => runX_mono (h _) l2 _ _ (hw.2.2 r bs hR)⟩
      · exact hw.elim
    · exact hw.elim
  | crl g l1 y l2 =>
    intro Q Q' σ h hw
    refine runR_mono (fun σ1 hw => ?_) l1 σ hw
    split at hw
    · split at hw
      · exact ⟨hw.1, hw.2.1, hw.2.2.1, hw.2.2.2.1, fun r bs hR => runR_mono (h _) l2 _ (hw.2.2.2.2 r bs hR)⟩
      · exact hw.elim
    · exact hw.elim
  | scp a iha =>
    intro Q Q' σ h hw
    refine iha _ _ σ (fun e σ' he => ?_) hw
    cases e <;> first | exact he | exact h _ _ he
  | dum a iha => intro Q Q' σ h hw; exact iha _ _ _ h hw
  | itm l => intro Q Q' σ h hw; exact runI_mono (h _) l σ hw
  | rnl g l1 y l2 =>
    intro Q Q' σ h hw
    refine runR_mono (fun σ1 hw => ?_) l1 σ hw
    split at hw
    · split at hw
      · exact ⟨hw.1, fun b hb => runR_mono (h _) l2 _ (hw.2 b hb)⟩
      · exact ⟨hw.1, fun b => runR_mono (h _) l2 _ (hw.2 b)⟩
      · exact hw.elim
    · exact hw.elim
  | yrh g l1 y l2 =>
    intro Q Q' σ h hw
    refine runR_mono (fun σ1 hw => ?_) l1 σ hw
    split at hw
    · exact hw.elim
    · exact runR_mono (h _) l2 _ hw
    · split at hw
      · split at hw
        · exact ⟨hw.1, hw.2.1, hw.2.2.1, hw.2.2.2.1, fun b bv' hb => runR_mono (h _) l2 _ (hw.2.2.2.2 b bv' hb)⟩
        · exact hw.elim
      · exact hw.elim
  | ycl lo g l1 y l2 =>
    intro Q Q' σ h hw
    refine runR_mono (fun σ1 hw => ?_) l1 σ hw
    split at hw
    · split at hw
      · exact ⟨hw.1, hw.2.1, hw.2.2.1, fun r bs hR => runR_mono (h _) l2 _ (hw.2.2.2 r bs hR)⟩
      · exact hw.elim
    · exact hw.elim
  | rfh f ps lo zl b a ihb iha =>
    intro Q Q' σ h hw
    simp only [wpR] at hw ⊢
    split at hw
    · rename_i gf caps sd hf
      obtain ⟨al, ys, bv0, I, h1, h2, h3, h4, h5, h6, h7⟩ := hw
      refine ⟨al, ys, bv0, I, h1, h2, h3, h4, h5, fun l k x z bv hx hI => ⟨(h6 l k x z bv hx hI).1, (h6 l k x z bv hx hI).2.1, ihb _ _ _ (fun e σ' he => ?_) (h6 l k x z bv hx hI).2.2⟩, fun l bv hI => h _ _ (h7 l bv hI)⟩
      cases e <;> first | exact he | skip
      refine iha _ _ _ (fun e σ'' he' => ?_) he
      cases e <;> first | exact he' | skip
      all_goals
        obtain ⟨bv', a1, a2, a3, a4⟩ := he'
        exact ⟨bv', a1, a2, a3, h _ _ a4⟩
    · exact hw
theorem ru_rfh {f : Od} {ps : List Nat} {lo zl : Nat} {b a : RC} {gf : Nat} {caps : List V} (hf : cutV σ.hp lo (evO σ.fr f) = .fn gf caps) (al : List V → Prop) (ys : List (List V × List V)) {bv0 : List V} (hb0 : cutH lo σ.hp = .hole :: bv0.map vB)
  (I : Nat → List V → Prop) (h0 : I 0 bv0) (hal : ∀ k bv, I k bv → al bv) (hlo : ∀ bv, al bv → bv.length + 1 = lo ∧ ∀ hp, (bv.map vB).map (cutB hp lo) = bv.map vB)
  (hy : ∀ l, (Γ.y gf al (.yl l :: caps) (.gh (.yl l :: caps) (some ((.b true :: bv0) :: ys.map fun y => gyE y.1 y.2)) :: bv0.map vB)).1 ∧
     ∀ r hp', (Γ.y gf al (.yl l :: caps) (.gh (.yl l :: caps) (some ((.b true :: bv0) :: ys.map fun y => gyE y.1 y.2)) :: bv0.map vB)).2 r hp' →
      ∃ (b : Bool) (bv' : List V) (rest : List (List V)) (tl : List Blk), hp' = .gh (.yl l :: caps) (some ((.b b :: bv') :: rest)) :: (bv'.map vB ++ tl) ∧ (b = true → rest = []) ∧ al bv')
  (hs : ∀ k x z bv, ys[k]? = some (x, z) → I k bv → x.length = ps.length ∧ z.length ≤ zl ∧
     wpR Γ E b (rnQ (wpR Γ E a (rndH Q lo zl (fun t => cutV σ.hp lo (σ.fr t)) z al (I (k + 1))))) ⟨updL (fun t => cutV σ.hp lo (σ.fr t)) ps x, .hole :: (bv ++ z).map vB⟩)
  (he : ∀ bv, I ys.length bv → Q .normal ⟨fun t => cutV σ.hp lo (σ.fr t), .hole :: bv.map vB⟩) : wpR Γ E (.rfh f ps lo zl b a) Q σ := by
 simp only [wpR, hf, rfA]
 exact ⟨al, fun _ => ys, bv0, I, hb0, h0, hal, hlo, hy, fun _ => hs, fun _ => he⟩
theorem ru_rfhL {f : Od} {ps : List Nat} {lo zl : Nat} {b a : RC} {gf : Nat} {caps : List V} (hf : cutV σ.hp lo (evO σ.fr f) = .fn gf caps) (al : List V → Prop) (ys : Nat → List (List V × List V)) {bv0 : List V} (hb0 : cutH lo σ.hp = .hole :: bv0.map vB)
  (I : Nat → List V → Prop) (h0 : I 0 bv0) (hal : ∀ k bv, I k bv → al bv) (hlo : ∀ bv, al bv → bv.length + 1 = lo ∧ ∀ hp, (bv.map vB).map (cutB hp lo) = bv.map vB)
  (hy : ∀ l, (Γ.y gf al (.yl l :: caps) (.gh (.yl l :: caps) (some ((.b true :: bv0) :: (ys l).map fun y => gyE y.1 y.2)) :: bv0.map vB)).1 ∧
     ∀ r hp', (Γ.y gf al (.yl l :: caps) (.gh (.yl l :: caps) (some ((.b true :: bv0) :: (ys l).map fun y => gyE y.1 y.2)) :: bv0.map vB)).2 r hp' →
      ∃ (b : Bool) (bv' : List V) (rest : List (List V)) (tl : List Blk), hp' = .gh (.yl l :: caps) (some ((.b b :: bv') :: rest)) :: (bv'.map vB ++ tl) ∧ (b = true → rest = []) ∧ al bv')
  (hs : ∀ l k x z bv, (ys l)[k]? = some (x, z) → I k bv → x.length = ps.length ∧ z.length ≤ zl ∧
     wpR Γ E b (rnQ (wpR Γ E a (rndH Q lo zl (fun t => cutV σ.hp lo (σ.fr t)) z al (I (k + 1))))) ⟨updL (fun t => cutV σ.hp lo (σ.fr t)) ps x, .hole :: (bv ++ z).map vB⟩)
  (he : ∀ l bv, I (ys l).length bv → Q .normal ⟨fun t => cutV σ.hp lo (σ.fr t), .hole :: bv.map vB⟩) : wpR Γ E (.rfh f ps lo zl b a) Q σ := by
 simp only [wpR, hf, rfA]
 exact ⟨al, ys, bv0, I, hb0, h0, hal, hlo, hy, hs, he⟩
theorem ru_count {l : List Nat} {d : Option Nat} {a : RC} (n : Nat) (S : Nat → St) (h0 : kp l d σ = S 0) (hs : ∀ i, i < n → wpR Γ E a (thenQ (fun σ'' => kp l d σ'' = S (i + 1)) Q) (S i))
  (he : wpR Γ E a (thenQ (fun _ => False) Q) (S n)) : wpR Γ E (.loop l d a) Q σ := by
 refine ru_loop (fun k σ => ∃ i, i ≤ n ∧ k = n - i ∧ σ = S i) ⟨n, 0, Nat.zero_le _, rfl, h0⟩ ?_
 rintro k _ ⟨i, hi, rfl, rfl⟩
 by_cases h : i < n
 ·refine wpR_mono _ _ _ _ (fun e σ he => ?_) (hs i h)
  cases e <;> first | exact he | skip
  exact ⟨n - (i + 1), by omega, i + 1, h, rfl, he⟩
 ·have : i = n := by omega
  subst this
  refine wpR_mono _ _ _ _ (fun e σ he => ?_) he
  cases e <;> first | exact he | exact he.elim
theorem ru_countC {l : List Nat} {d : Option Nat} {a : RC} (n : Nat) (S : Nat → St) (C : Nat → Prop) (h0 : kp l d σ = S 0) (c0 : C 0) (hs : ∀ i, i < n → C i → wpR Γ E a (thenQ (fun σ'' => C (i + 1) ∧ kp l d σ'' = S (i + 1)) Q) (S i))
  (he : C n → wpR Γ E a (thenQ (fun _ => False) Q) (S n)) : wpR Γ E (.loop l d a) Q σ := by
 refine ru_loop (fun k σ => ∃ i, i ≤ n ∧ k = n - i ∧ C i ∧ σ = S i) ⟨n, 0, Nat.zero_le _, rfl, c0, h0⟩ ?_
 rintro k _ ⟨i, hi, rfl, hc, rfl⟩
 by_cases h : i < n
 ·refine wpR_mono _ _ _ _ (fun e σ he => ?_) (hs i h hc)
  cases e <;> first | exact he | skip
  exact ⟨n - (i + 1), by omega, i + 1, h, rfl, he.1, he.2⟩
 ·have : i = n := by omega
  subst this
  refine wpR_mono _ _ _ _ (fun e σ he => ?_) (he hc)
  cases e <;> first | exact he | exact he.elim
end
theorem chunk1 (es : Nat) (vs : List V) : chunk es vs 0 1 = [vs.take es] := by simp [chunk]
theorem ite_P (p A B : Prop) [Decidable p] : (if p then A else B) = ((p → A) ∧ (¬ p → B)) := by by_cases h : p <;> simp [h]
theorem ite_f (p : Prop) [Decidable p] (x : Bool) : (if p then x else false) = (decide p && x) := by by_cases h : p <;> simp [h]
theorem ite_t (p : Prop) [Decidable p] (x : Bool) : (if p then true else x) = (decide p || x) := by by_cases h : p <;> simp [h]
end Go.Fam
namespace Go.Fam
open Go.ChangeShapes Go.WideShapes Go.ChangeAt Go.RowKit
variable {P : Program} {W : World} {H : Type} {enc : TypeId × Value → H} {α β : Type}
def there (W : World) : Nat → Prop := fun n => n < W.heap.size
def Rd (enc : TypeId × Value → H) (P : Program) (W : World) (t : TypeId) (e : α → List V) (ok : α → Prop) : Prop :=
 ∀ fuel (cs : List Value) d ps, DataW.trod enc P W 0 (fun _ => true) true fuel t cs = some (d, ps) → ∃ a, ok a ∧ (e a).length = cs.length ∧ RepL (there W) W noO (e a) cs ∧ ∀ c ∈ cs, c.oneCell' = true
theorem Rd.map {t : TypeId} {e : α → List V} {ok : α → Prop} (h : Rd enc P W t e ok) {e' : β → List V} {ok' : β → Prop} (g : α → β) (he : ∀ a, e' (g a) = e a) (hok : ∀ a, ok a → ok' (g a)) : Rd enc P W t e' ok' := by
 intro fuel cs d ps hd
 obtain ⟨a, h1, h2, h3, h4⟩ := h fuel cs d ps hd
 exact ⟨g a, hok a h1, by rw [he]; exact h2, by rw [he]; exact h3, h4⟩
theorem rd_int {t : TypeId} (hu : P.underlying t = some (.int .i64)) : Rd enc P W t (fun n : Int => [.i n]) inI := by
 intro fuel cs d ps h
 cases fuel with
 | zero => simp [DataW.trod] at h
 | succ fuel =>
  unfold DataW.trod at h
  split at h <;> rename_i heq <;> (try rw [hu] at heq) <;> first | (cases heq; done) | skip
  ·cases heq
   rename_i k' n
   split at h
   ·rename_i hk
    obtain ⟨rfl, hw⟩ := hk
    refine ⟨n, ?_, rfl, by simp [RepL, Rep], by simp [Value.oneCell']⟩
    simp [Lit.wf, IntKind.min, IntKind.max, IntKind.signed, IntKind.bits] at hw
    unfold inI
    omega
   ·cases h
  ·cases h
theorem rd_struct {t : TypeId} {fs : Array Field} (hu : P.underlying t = some (.struct fs)) {e : α → List V} {ok : α → Prop}
  (hf : ∀ fuel (cs : List Value) xs, cs.length = P.cellsOf t → (fs.toList.mapM fun f => DataW.trod enc P W 0 (fun _ => true) true fuel f.type ((cs.drop f.offset).take (P.cellsOf f.type))) = some xs →
   ∃ a, ok a ∧ (e a).length = cs.length ∧ RepL (there W) W noO (e a) cs ∧ ∀ c ∈ cs, c.oneCell' = true) : Rd enc P W t e ok := by
 intro fuel cs d ps h
 cases fuel with
 | zero => simp [DataW.trod] at h
 | succ fuel =>
  unfold DataW.trod at h
  split at h <;> rename_i heq <;> (try rw [hu] at heq) <;> first | (cases heq; done) | skip
  ·cases heq
   split at h
   ·rename_i hl
    simp only [Option.map_eq_some_iff] at h
    obtain ⟨xs, hx, _⟩ := h
    exact hf fuel _ xs hl hx
   ·cases h
  ·cases h
def RdF (enc : TypeId × Value → H) (P : Program) (W : World) (n : Nat) (fs : List Field) (off : Nat) (e : α → List V) (ok : α → Prop) : Prop :=
 ∀ fuel (cs : List Value) xs, cs.length = n → (fs.mapM fun f => DataW.trod enc P W 0 (fun _ => true) true fuel f.type ((cs.drop f.offset).take (P.cellsOf f.type))) = some xs →
  ∃ a, ok a ∧ (e a).length = (cs.drop off).length ∧ RepL (there W) W noO (e a) (cs.drop off) ∧ ∀ c ∈ cs.drop off, c.oneCell' = true
theorem RdF.rd {t : TypeId} {fs : Array Field} (hu : P.underlying t = some (.struct fs)) {e : α → List V} {ok : α → Prop} (h : RdF enc P W (P.cellsOf t) fs.toList 0 e ok) : Rd enc P W t e ok :=
 rd_struct hu fun fuel cs xs hl hx => by simpa using h fuel cs xs hl hx
theorem rows_of {es : Nat} {e : α → List V} {ok : α → Prop} {cur : List Value} : ∀ (len off : Nat), (∀ i, i < len → ∃ x, ok x ∧ (e x).length = es ∧ (∀ c ∈ (cur.drop (off + i * es)).take es, c.oneCell' = true) ∧ RepL (there W) W noO (e x) (cur.drop (off + i * es))) →
  ∃ l : List α, l.length = len ∧ (∀ x ∈ l, ok x) ∧ RepRows (there W) W es (l.map e) (cur.drop off)
 | 0, _, _ => ⟨[], rfl, by simp, by simp [RepRows]⟩
 | len + 1, off, h => by
  obtain ⟨x, x1, x2, x3, x4⟩ := h 0 (by omega)
  obtain ⟨l, l1, l2, l3⟩ := rows_of len (off + es) fun i hi => by
   have := h (i + 1) (by omega)
   rwa [Nat.succ_mul, show off + (i * es + es) = off + es + i * es by omega] at this
  simp only [Nat.zero_mul, Nat.add_zero] at x3 x4
  refine ⟨x :: l, by simp [l1], ?_, ?_⟩
  ·intro y hy
   rcases List.mem_cons.1 hy with rfl | hy
   ·exact x1
   ·exact l2 y hy
  ·simp only [List.map_cons, RepRows]
   exact ⟨⟨x2, x3⟩, x4, by rw [List.drop_drop]; exact l3⟩
theorem rd_slice {t el : TypeId} {es : Nat} {e : α → List V} {ok : α → Prop} (hu : P.underlying t = some (.slice el)) (hk : P.cellsOf el = es) (h0 : es ≠ 0) (he : Rd enc P W el e ok) :
  Rd enc P W t (fun l : List α => [.sl es (l.map e)]) (fun l => (∀ x ∈ l, ok x) ∧ l.length ≤ maxLen) := by
 intro fuel cs d ps h
 cases fuel with
 | zero => simp [DataW.trod] at h
 | succ fuel =>
  unfold DataW.trod at h
  split at h <;> rename_i heq <;> (try rw [hu] at heq) <;> first | (cases heq; done) | skip
  ·exact ⟨[], by simp, rfl, by simp [RepL, Rep], by simp [Value.oneCell']⟩
  ·cases heq
   rename_i a len cap
   split at h
   ·rename_i hb
    obtain ⟨_, hlc, hcm⟩ := hb
    rw [Option.bind_eq_some_iff] at h
    obtain ⟨elems, hel, _⟩ := h
    have hlen := mapM_some_length hel
    simp only [List.length_range] at hlen
    have hget : ∀ i, i < len → ∃ row x, W.cells? 0 (a.add (i * es)) es = some row ∧ ok x ∧ (e x).length = es ∧ RepL (there W) W noO (e x) row ∧ ∀ c ∈ row, c.oneCell' = true := by
     intro i hi
     have h1 := mapM_some_get hel i i (by simp [hi])
     rw [List.getElem?_eq_getElem (by omega), hk, Option.bind_eq_some_iff] at h1
     obtain ⟨row, hrow, hx⟩ := h1
     obtain ⟨x, x1, x2, x3, x4⟩ := he fuel row _ _ hx
     exact ⟨row, x, hrow, x1, by rw [x2]; exact (World.cells?_some hrow).2.1, x3, x4⟩
    cases len with
    | zero => exact ⟨[], by simp, rfl, by simp [RepL, Rep], by simp [Value.oneCell']⟩
    | succ len =>
     obtain ⟨blk, off, spot⟩ := a
     obtain ⟨row0, _, hrow0, _⟩ := hget 0 (by omega)
     have hc0 := (World.cells?_some hrow0).2.2 0 (by omega)
     have hl0 := (World.cells?_some hrow0).2.1
     rw [List.getElem?_eq_getElem (by omega)] at hc0
     simp only [Nat.zero_mul, Addr.add, if_true, World.cell?] at hc0
     cases hbk : W.heap[blk]? with
     | none => rw [hbk] at hc0; cases hc0
     | some o =>
      rw [hbk] at hc0
      cases o <;> first | (cases hc0; done) | skip
      rename_i cur elt fr
      cases spot with
      | some s => simp at hc0
      | none =>
       have hrows : ∀ i, i < len + 1 → ∃ x, ok x ∧ (e x).length = es ∧ (∀ c ∈ (cur.toList.drop (off + i * es)).take es, c.oneCell' = true) ∧ RepL (there W) W noO (e x) (cur.toList.drop (off + i * es)) := by
        intro i hi
        obtain ⟨row, x, hrow, x1, x2, x3, x4⟩ := hget i hi
        obtain ⟨_, r2, r3⟩ := World.cells?_some hrow
        have hadd : ∀ m, (⟨blk, off, none⟩ : Addr).add m = ⟨blk, off + m, none⟩ := by
         intro m; unfold Addr.add; split
         ·subst m; rfl
         ·rfl
        have hrw : row = (cur.toList.drop (off + i * es)).take es := by
         apply List.ext_getElem?
         intro j
         by_cases hj : j < es
         ·have := r3 j hj
          rw [hadd, show (⟨blk, off + i * es, none⟩ : Addr).add j = ⟨blk, off + i * es + j, none⟩ from by unfold Addr.add; split <;> simp_all] at this
          simp only [World.cell?, hbk, Option.isSome_none, Bool.false_eq_true, if_false] at this
          rw [← this, List.getElem?_take, if_pos hj, List.getElem?_drop, Array.getElem?_toList]
         ·rw [List.getElem?_eq_none (by omega), List.getElem?_eq_none (by simp; omega)]
        refine ⟨x, x1, x2, by rw [← hrw]; exact x4, ?_⟩
        have := RepL.more (e x) row ((cur.toList.drop (off + i * es)).drop es) x3
        rwa [hrw, List.take_append_drop] at this
       obtain ⟨l, l1, l2, l3⟩ := rows_of (len + 1) off hrows
       refine ⟨l, ⟨l2, by rw [l1]; omega⟩, rfl, ?_, by simp [Value.oneCell']⟩
       simp only [RepL, Rep, and_true]
       refine ⟨_, cap, by rw [List.length_map, l1], by simp; omega, .inr ⟨blk, off, cur, elt, fr, rfl, ?_, hbk, l3⟩⟩
       exact (Array.getElem?_eq_some_iff.1 hbk).1
   ·cases h
  ·cases h
def RdP (enc : TypeId × Value → H) (P : Program) (W : World) (n : Nat) (ps : List (TypeId × Nat)) (off : Nat) (e : α → List V) (ok : α → Prop) : Prop :=
 ∀ fs : List Field, fs.map (fun f => (f.type, f.offset)) = ps → RdF enc P W n fs off e ok
theorem RdP.rd {t : TypeId} {fs : Array Field} {n : Nat} {ps : List (TypeId × Nat)} (hu : P.underlying t = some (.struct fs)) (hn : P.cellsOf t = n) (hp : fs.toList.map (fun f => (f.type, f.offset)) = ps) {e : α → List V} {ok : α → Prop} (h : RdP enc P W n ps 0 e ok) : Rd enc P W t e ok := by
 subst hn
 exact RdF.rd hu (h _ hp)
def RdV (enc : TypeId × Value → H) (P : Program) (W : World) (t : TypeId) (e : α → V) (ok : α → Prop) : Prop :=
 ∀ v d ps base, DataW.Trod enc P W 0 (fun _ => true) true t v d ps → Value.okWide P W .any base t v → ∃ a, ok a ∧ Rep (there W) W noO (e a) v
theorem Rd.agg {t : TypeId} {fs : Array Field} (hu : P.underlying t = some (.struct fs)) {e : α → List V} {ok : α → Prop} (h : Rd enc P W t e ok) : RdV enc P W t (fun a => .ag (e a)) ok := by
 rintro v d ps base ⟨fuel, hf⟩ hw
 obtain ⟨cs, rfl, _⟩ := okWide_struct hu hw
 obtain ⟨a, h1, h2, h3, _⟩ := h fuel _ d ps hf
 exact ⟨a, h1, cs, rfl, by simpa [Value.cells] using h2.symm, by simpa [Value.cells] using h3⟩
theorem Rd.one {t : TypeId} {e : α → V} {ok : α → Prop} (hone : ∀ v base, Value.okWide P W .any base t v → v.oneCell' = true) (h : Rd enc P W t (fun a => [e a]) ok) : RdV enc P W t e ok := by
 rintro v d ps base ⟨fuel, hf⟩ hw
 have hc := hone v base hw
 have hcs : v.cells.toList = [v] := by cases v <;> simp [Value.oneCell'] at hc <;> rfl
 rw [hcs] at hf
 obtain ⟨a, h1, _, h3, _⟩ := h fuel _ d ps hf
 simp only [RepL, and_true] at h3
 exact ⟨a, h1, h3⟩
theorem one_int {t : TypeId} (hu : P.underlying t = some (.int .i64)) (v : Value) (base : Nat) (h : Value.okWide P W .any base t v) : v.oneCell' = true := by
 obtain ⟨n, rfl⟩ := okWide_int hu h; rfl
theorem one_slice {t el : TypeId} (hu : P.underlying t = some (.slice el)) (v : Value) (base : Nat) (h : Value.okWide P W .any base t v) : v.oneCell' = true := by
 obtain ⟨a, l, c, rfl⟩ := okWide_slice hu h; rfl
def RdA (enc : TypeId × Value → H) (P : Program) (W : World) (ts : List TypeId) (e : α → List V) (ok : α → Prop) : Prop :=
 ∀ vs ds ps base, DataW.TrodAll enc P W 0 (fun _ => true) true ts vs ds ps → (∀ (j : Nat) t v, ts[j]? = some t → vs[j]? = some v → Value.okWide P W .any base t v) → ∃ a, ok a ∧ (e a).length = vs.length ∧ RepL (there W) W noO (e a) vs
theorem rdA_nil : RdA enc P W [] (fun _ : Unit => []) (fun _ => True) := by
 intro vs ds ps base h _
 obtain ⟨rfl, _, _⟩ := trodAll_nil h
 exact ⟨(), trivial, rfl, by simp [RepL]⟩
theorem rdA_cons {t : TypeId} {ts : List TypeId} {e1 : α → V} {ok1 : α → Prop} {e2 : β → List V} {ok2 : β → Prop} (h1 : RdV enc P W t e1 ok1) (h2 : RdA enc P W ts e2 ok2) :
  RdA enc P W (t :: ts) (fun p : α × β => e1 p.1 :: e2 p.2) (fun p => ok1 p.1 ∧ ok2 p.2) := by
 intro vs ds ps base h hv
 obtain ⟨v, vs', d, ds', p, q, rfl, rfl, rfl, ha, hb⟩ := trodAll_cons h
 obtain ⟨a, a1, a2⟩ := h1 v d p base ha (hv 0 t v rfl rfl)
 obtain ⟨b, b1, b2, b3⟩ := h2 vs' ds' q base hb fun j t v hj hv' => hv (j + 1) t v (by simpa using hj) (by simpa using hv')
 exact ⟨(a, b), ⟨a1, b1⟩, by simp [b2], a2, b3⟩
theorem trodAll_stays (hl : laidOutB P = true) {W' : World} {sp' : Nat → Bool} : ∀ {ts : List TypeId} {vs : List Value} {ds : List (DataW H)} {ps : List MemPlace}, (ts.all fun t => P.readableRec t && decide (t < P.types.size)) = true →
  DataW.TrodAll enc P W 0 (fun _ => true) true ts vs ds ps → (∀ p ∈ ps, W.sameAt W' p) → (∀ p ∈ ps, sp' p.block = true) → DataW.TrodAll enc P W' 0 sp' true ts vs ds ps
 | [], vs, ds, ps, _, h, _, _ => by
  obtain ⟨rfl, rfl, rfl⟩ := trodAll_nil h
  exact trodAll_mk0
 | t :: ts, vs, ds, ps, hr, h, hs, hsp => by
  obtain ⟨v, vs', d, ds', p, q, rfl, rfl, rfl, ha, hb⟩ := trodAll_cons h
  simp only [List.all_cons, Bool.and_eq_true, decide_eq_true_eq] at hr
  exact trodAll_cons_mk (WideElems.Trod_stays hl hr.1.1 hr.1.2 ha (fun x hx => hs x (by simp [hx])) fun x hx => hsp x (by simp [hx]))
   (trodAll_stays hl hr.2 hb (fun x hx => hs x (by simp [hx])) fun x hx => hsp x (by simp [hx]))
theorem keptBut_below {W' : World} (h : Below W.heap.size W W') (may : MemPlace → Prop) : W.keptBut W' may := by
 refine ⟨h.os, h.output, fun i hi => ?_⟩
 rw [h.block i hi]
 cases W.heap[i]? with
 | none => rfl
 | some o => cases o <;> first | exact ⟨rfl, rfl, rfl, fun _ _ => rfl⟩ | exact .inr ⟨rfl, rfl⟩ | rfl
open Go.ChangeShapes Go.WideShapes Go.ChangeAt Go.RowKit in
theorem post_same {H : Type} {enc : TypeId × Value → H} {P : Program} {f : Func} {s : ChangeSpec} {apart fresh handsOn again : Bool} {W W' : World} {args : Array Value} {v : Value} {ds gs : List (DataW H)} {before pa pv : List MemPlace}
  (hW : DataW.Whole enc P f.params.toList s.vars apart W args.toList ds gs before)
  (hres : ∀ (b : Nat) (sp : Nat → Bool) (hd : Bool), DataW.TrodAll enc P W' b sp hd f.resultTypes.toList (v.resultList f.resultTypes.size) (s.fn H (ds ++ gs)).results [])
  (hargs : ∀ sp : Nat → Bool, (∀ p ∈ before, sp p.block = true) → DataW.TrodAll enc P W' 0 sp true f.params.toList args.toList (s.fn H (ds ++ gs)).args pa)
  (hvars : ∀ sp : Nat → Bool, (∀ p ∈ before, sp p.block = true) → DataW.TrodVars enc P W' sp s.vars (s.fn H (ds ++ gs)).vars pv)
  (hps : before = pa ++ pv) (hk : W.keptBut W' (· ∈ before)) (hfz : ∀ a, a.block < W.heap.size → W'.frozen? a = W.frozen? a)
  (hok : ∀ (j : Nat) (t : TypeId) (r : Value), f.resultTypes[j]? = some t → (v.resultList f.resultTypes.size)[j]? = some r → Value.okWide P W' .any 0 t r) :
  s.post enc P f apart fresh handsOn again W args v W' := by
 have hlt := hW.lt
 have hold : ∀ p ∈ before, (fun b => decide (b < W.heap.size)) p.block = true := fun p hp => by simpa using hW.lt p hp
 refine ⟨ds, gs, before, [], pa, pv, hW, hres _ _ _, hargs _ hold, hvars _ hold, World.keptBut_mono (fun p hp => ⟨hp, ?_⟩) hk, fun _ => ?_⟩
 ·rw [hps, List.mem_append] at hp
  exact Or.inr hp
 ·obtain ⟨_, _, _, _, _, hz, hn⟩ := hW
  refine ⟨hok, _, _, ([] ++ pa) ++ pv, ⟨[] ++ pa, pv, trodAll_append (hargs _ (fun _ _ => rfl)) (hres _ _ _), hvars _ (fun _ _ => rfl), rfl, ?_, ?_⟩, ?_⟩
  ·intro b off hp
   have hp' : MemPlace.cell b off ∈ before := by rw [hps]; simpa using hp
   rw [hfz _ (hlt _ hp')]
   exact hz b off hp'
  ·intro ha
   have := hn ha
   rw [hps] at this
   simpa using this
  ·intro p hp _
   rw [hps]
   simpa using hp
theorem bridge {F : FuncId} {fn : Func} {s : ChangeSpec} {fresh : Bool} (hl : laidOutB P = true) {e : α → List V} {ok : α → Prop} {ts : List TypeId} (hts : fn.params.toList = ts) (hrd : ∀ W, RdA enc P W ts e ok)
  (hreads : (ts.all fun t => P.readableRec t && decide (t < P.types.size)) = true) (hvars : s.vars = []) (hfn : ∀ ds : List (DataW H), ds.length = ts.length → s.fn H ds = { results := [.lit (.bool true)], args := ds })
  {tb : TypeId} (hres : fn.resultTypes = #[tb]) (hb : P.underlying tb = some .bool) (hlaw : ∀ a, ok a → PureCall P F (e a) (.b true))
  {W : World} {base : Nat} {args : Array Value} {ds gs : List (DataW H)} {before : List MemPlace}
  (hval : ∀ (j : Nat) t v, fn.params[j]? = some t → args[j]? = some v → Value.okWide P W .any base t v) (hW : DataW.Whole enc P fn.params.toList s.vars false W args.toList ds gs before) :
  Calls P F args W fun e' W' => ∃ v, e' = .returned v ∧ s.post enc P fn false fresh false false W args v W' := by
 have hW' := hW
 obtain ⟨p, q, hA, hV, rfl, hfz, hnd⟩ := hW
 have hlt : ∀ x ∈ p ++ q, x.block < W.heap.size := hW'.lt
 rw [hts] at hA
 have hlen : ds.length = ts.length ∧ args.toList.length = ts.length := by
  have : ∀ (ts : List TypeId) (vs : List Value) (ds : List (DataW H)) (ps : List MemPlace), DataW.TrodAll enc P W 0 (fun _ => true) true ts vs ds ps → ds.length = ts.length ∧ vs.length = ts.length := by
   intro ts
   induction ts with
   | nil => intro vs ds ps h; obtain ⟨rfl, rfl, rfl⟩ := trodAll_nil h; exact ⟨rfl, rfl⟩
   | cons t ts ih =>
    intro vs ds ps h
    obtain ⟨v, vs', d, ds', p, q, rfl, rfl, rfl, _, hb⟩ := trodAll_cons h
    have := ih _ _ _ hb
    simp [this.1, this.2]
  exact this _ _ _ _ hA
 rw [hvars] at hV
 obtain ⟨rfl, rfl⟩ : gs = [] ∧ q = [] := trodVars_none hV
 obtain ⟨a, h1, h2, h3⟩ := hrd W _ _ _ base hA fun j t v hj hv => hval j t v (by rw [← hts] at hj; simpa using hj) (by simpa using hv)
 refine (hlaw a h1 (there W) W args (fun _ h => h) (by simpa using h2.symm) h3).mono ?_
 rintro e' W' ⟨c, rfl, hev, hrep⟩
 simp only [Rep] at hrep
 subst hrep
 have hbl : Below W.heap.size W W' := ⟨hev.os, hev.tape, hev.output, hev.size, fun k hk => hev.old k hk (by rintro ⟨id, g, h⟩; cases h)⟩
 have hfe : s.fn H (ds ++ []) = { results := [.lit (.bool true)], args := ds } := by rw [List.append_nil]; exact hfn ds hlen.1
 refine ⟨_, rfl, post_same (pa := p) (pv := []) hW' (fun b sp hd => ?_) (fun sp hsp => ?_) (fun sp hsp => ?_) rfl (keptBut_below hbl _) hev.fz (ok_one hres rfl (okWide_bool_mk hb _))⟩
 ·rw [hfe, hres]
  exact trodAll_mk1 (shut_bool hb true)
 ·rw [hfe, hts]
  exact trodAll_stays hl hreads hA (fun x hx => hbl.same (hlt x (by simp [hx]))) fun x hx => hsp x (by simp [hx])
 ·rw [hfe, hvars]
  rfl
end Go.Fam
namespace Go.Fam
variable {Γ : Gam} {E : TypeId → Nat → Prop} {Q : Exit → St → Prop} {σ : St}
theorem RelCall.mono {P : Program} {f : FuncId} {args : List V} {R R' : V → List Blk → Prop} (h : RelCall P f args R) (hr : ∀ r hp, R r hp → R' r hp) : RelCall P f args R' := fun S w cargs h1 h2 h3 =>
 Calls.mono (h S w cargs h1 h2 h3) fun e w' ⟨c, S', O', r, hp, he, hR, hx⟩ => ⟨c, S', O', r, hp, he, hr _ _ hR, hx⟩
theorem list_snoc_ind {α : Type} {p : List α → Prop} (h0 : p []) (hs : ∀ l x, p l → p (l ++ [x])) (l : List α) : p l := by
 have : ∀ r : List α, p r.reverse := by
  intro r
  induction r with
  | nil => exact h0
  | cons x r ih => rw [List.reverse_cons]; exact hs _ _ ih
 simpa using this l.reverse
theorem mem_putK {ks : List (List Int)} {l k : List Int} : k ∈ putK ks l ↔ k ∈ ks ∨ k = l := by
 unfold putK
 split
 ·rename_i h
  constructor
  ·exact .inl
  ·rintro (h' | rfl) <;> assumption
 ·simp
theorem putK_len {ks : List (List Int)} {l : List Int} : (putK ks l).length ≤ ks.length + 1 := by
 unfold putK
 split <;> simp
end Go.Fam
namespace Go.Fam
variable {β : Type}
abbrev AM (β : Type) := List (List Int × β)
def aks (m : AM β) : List (List Int) := m.map (·.1)
def avs (g : β → V) (m : AM β) : List V := m.map fun e => g e.2
def aput (m : AM β) (k : List Int) (x : β) : AM β := if k ∈ aks m then m.map (fun e => if e.1 = k then (k, x) else e) else m ++ [(k, x)]
def aget (m : AM β) (k : List Int) : Option β := (m.find? fun e => decide (e.1 = k)).map (·.2)
theorem aks_put (m : AM β) (k : List Int) (x : β) : aks (aput m k x) = putK (aks m) k := by
 unfold aput putK
 by_cases h : k ∈ aks m
 ·rw [if_pos h, if_pos h]
  unfold aks
  rw [List.map_map]
  refine List.map_congr_left fun e _ => ?_
  by_cases he : e.1 = k <;> simp [he]
 ·rw [if_neg h, if_neg h]; simp [aks]
theorem aks_nodup {m : AM β} (h : (aks m).Nodup) (k : List Int) (x : β) : (aks (aput m k x)).Nodup := by
 rw [aks_put]; exact putK_nodup h
theorem mem_aks {m : AM β} {k : List Int} : k ∈ aks m ↔ (aget m k).isSome = true := by
 unfold aks aget
 rw [Option.isSome_map, List.find?_isSome]
 simp
theorem aget_none {m : AM β} {k : List Int} : aget m k = none ↔ k ∉ aks m := by
 rw [mem_aks]; cases aget m k <;> simp
theorem avs_get (g : β → V) (m : AM β) (k : List Int) : (avs g m)[(aks m).idxOf k]? = (aget m k).map g := by
 induction m with
 | nil => rfl
 | cons e m ih =>
  simp only [avs, aks, List.map_cons] at ih ⊢
  by_cases h : e.1 = k
  ·subst h; simp [aget]
  ·have h1 : (e.1 == k) = false := by simpa using h
   rw [List.idxOf_cons, h1]
   simp only [aget, List.find?_cons, h, decide_false] at ih ⊢
   simpa using ih
theorem aget_at {m : AM β} (hn : (aks m).Nodup) {j : Nat} {k : List Int} {x : β} (h : m[j]? = some (k, x)) : aget m k = some x := by
 induction m generalizing j with
 | nil => simp at h
 | cons e m ih =>
  simp only [aks, List.map_cons, List.nodup_cons] at hn
  cases j with
  | zero =>
   simp at h; subst h; simp [aget]
  | succ j =>
   have h' : m[j]? = some (k, x) := by simpa using h
   have : e.1 ≠ k := fun he => hn.1 (he ▸ List.mem_map.2 ⟨_, List.mem_of_getElem? h', rfl⟩)
   have := ih hn.2 h'
   simpa [aget, ‹e.1 ≠ k›] using this
theorem avs_put {m : AM β} (hn : (aks m).Nodup) (g : β → V) (k : List Int) (x : β) : putVs (aks m) (avs g m) k (g x) = avs g (aput m k x) := by
 unfold putVs aput
 split
 ·rename_i h
  induction m with
  | nil => rfl
  | cons e m ih =>
   simp only [aks, List.map_cons, List.nodup_cons] at hn
   simp only [avs, aks, List.map_cons] at ih ⊢
   by_cases h : e.1 = k
   ·subst h
    rw [List.idxOf_cons_self, List.set_cons_zero, if_pos rfl]
    congr 1
    rw [List.map_map]
    refine List.map_congr_left fun e' he' => ?_
    have : e'.1 ≠ e.1 := fun h => hn.1 (h ▸ List.mem_map.2 ⟨_, he', rfl⟩)
    simp [this]
   ·have h1 : (e.1 == k) = false := by simpa using h
    rw [List.idxOf_cons, h1, if_neg h]
    simp only [Bool.cond_false]
    rw [List.set_cons_succ, ih hn.2]
    rename_i h9
    simp only [aks, List.map_cons, List.mem_cons] at h9
    exact h9.resolve_left fun h8 => h h8.symm
 ·simp [avs]
theorem noref_avs {g : β → V} (h : ∀ x, hasRef (g x) = false) (m : AM β) : hasRefL (avs g m) = false := by
 unfold avs
 induction m with
 | nil => rfl
 | cons e m ih => rw [List.map_cons]; simp only [hasRefL, h, ih]; rfl
theorem cutL_app' (hp : List Blk) (n : Nat) : ∀ (a b : List V), cutL hp n (a ++ b) = cutL hp n a ++ cutL hp n b
 | [], b => rfl
 | v :: a, b => by simp only [List.cons_append, cutL, cutL_app' hp n a b]
theorem vw_mp (hp : List Blk) (n id g : Nat) : vw hp (n + 1) (.mp id g) = match hp[id]? with
   | some (.map st ks vs) => if g = 0 then .pm st ks (vs.map (vw hp n)) else .u
   | _ => .u := rfl
theorem vw_pm (hp : List Blk) (n : Nat) (st : Bool) (ks : List (List Int)) (vs : List V) : vw hp (n + 1) (.pm st ks vs) = .pm st ks vs := rfl
end Go.Fam
namespace Go.Fam
variable {P : Program}
def flatT (P : Program) : Nat → TypeId → Option Nat
 | 0, _ => none
 | d + 1, t => match P.underlying t with
  | some (.int .i64) => some 1
  | some (.struct fs) => if P.stoodInHeld t || (szB P t).isNone then none else
   match fs.toList.foldlM (fun off f => if f.name == "_" || f.offset != off then none else (flatT P d f.type).map (off + ·)) 0 with
   | some n => if szB P t == some n then some n else none
   | none => none
  | _ => none
def flatV (P : Program) (t : TypeId) (xs : List Int) : Value := if isAggB P t then .agg (xs.map (Value.int .i64)).toArray else .int .i64 (xs.headD 0)
structure FlatOk (P : Program) (d : Nat) (t : TypeId) (n : Nat) : Prop where
 eq : ∀ d', d ≤ d' → ∀ (xs ys : List Int) (w : World), xs.length = n → ys.length = n → (Op.equalIn d' t (flatV P t xs) (flatV P t ys)).run P w = .ok (decide (xs = ys)) w
 key : ∀ d', d ≤ d' → ∀ (xs : List Int) (e : Bool) (w : World), xs.length = n → (Instr.checkKey e d' t (flatV P t xs)).run P w = .ok () w
 part : ∀ (xs : List Int) (off : Nat) (w : World), off + n ≤ xs.length → (part t (xs.map (Value.int .i64)).toArray off).run P w = .ok (flatV P t ((xs.drop off).take n)) w
theorem take_drop_split {α : Type} (xs : List α) (off k : Nat) : xs.drop off = (xs.drop off).take k ++ xs.drop (off + k) := by
 rw [← List.drop_drop, List.take_append_drop]
theorem flatFs_eq {d : Nat} (ih : ∀ t n, flatT P d t = some n → FlatOk P d t n) : ∀ (fs : List Field) (off n : Nat),
  fs.foldlM (fun off f => if f.name == "_" || f.offset != off then none else (flatT P d f.type).map (off + ·)) off = some n →
  off ≤ n ∧ ∀ (d' : Nat), d ≤ d' → ∀ (xs ys : List Int) (w : World), xs.length = n → ys.length = n →
   (Op.eqFields d' (xs.map (Value.int .i64)).toArray (ys.map (Value.int .i64)).toArray fs).run P w = .ok (decide (xs.drop off = ys.drop off)) w ∧
   ∀ e, (forIn fs PUnit.unit fun f (_ : PUnit) => (if f.name ≠ "_" then (do let c ← part f.type (xs.map (Value.int .i64)).toArray f.offset; Instr.checkKey e d' f.type c; pure (ForInStep.yield PUnit.unit) : Sem (ForInStep PUnit)) else pure (ForInStep.yield PUnit.unit))).run P w = .ok PUnit.unit w
 | [], off, n, h => by
  simp at h; subst h
  refine ⟨Nat.le_refl _, fun d' _ xs ys w hx hy => ⟨?_, fun e => by simp⟩⟩
  have h1 : xs.drop off = [] := by rw [List.drop_eq_nil_iff]; omega
  have h2 : ys.drop off = [] := by rw [List.drop_eq_nil_iff]; omega
  simp [Op.eqFields, h1, h2]
 | f :: fs, off, n, h => by
  rw [List.foldlM_cons] at h
  by_cases h1 : f.name = "_"
  ·simp [h1] at h
  by_cases h2 : f.offset = off
  ·cases h3 : flatT P d f.type with
   | none => simp [h1, h2, h3] at h
   | some k =>
    have hc : (f.name == "_" || f.offset != off) = false := by simp [h1, h2]
    rw [hc] at h
    simp only [Bool.false_eq_true, if_false, h3, Option.map_some] at h
    change List.foldlM _ (off + k) fs = some n at h
    obtain ⟨hle, hrest⟩ := flatFs_eq ih fs (off + k) n h
    have hf := ih _ _ h3
    refine ⟨by omega, fun d' hd xs ys w hx hy => ?_⟩
    have hp1 := hf.part xs off w (by omega)
    have hp2 := hf.part ys off w (by omega)
    have hl1 : ((xs.drop off).take k).length = k := by simp; omega
    have hl2 : ((ys.drop off).take k).length = k := by simp; omega
    have he := hf.eq d' hd ((xs.drop off).take k) ((ys.drop off).take k) w hl1 hl2
    obtain ⟨hr1, hr2⟩ := hrest d' hd xs ys w hx hy
    refine ⟨?_, fun e => ?_⟩
    ·simp only [Op.eqFields, if_pos (show f.name ≠ "_" from h1), Sem.run_bind, h2, hp1, hp2, he, Result.andThen_ok]
     by_cases e : (xs.drop off).take k = (ys.drop off).take k
     ·simp only [e, decide_true, Bool.not_true, Bool.false_eq_true, if_false, hr1]
      congr 1
      rw [decide_eq_decide]
      rw [take_drop_split xs off k, take_drop_split ys off k, e]
      exact List.append_cancel_left_eq _ _ _ ▸ Iff.rfl
     ·simp only [e, decide_false, Bool.not_false, if_true, Sem.run_pure]
      congr 1
      symm
      rw [decide_eq_false_iff_not]
      intro hc
      exact e (by rw [hc])
    ·have hk := hf.key d' hd ((xs.drop off).take k) e w hl1
     simp only [List.forIn_cons, if_pos (show f.name ≠ "_" from h1), Sem.run_bind, h2, hp1, hk, Result.andThen_ok, Sem.run_pure]
     exact hr2 e
  ·simp [h1, h2] at h
theorem flatT_ok : ∀ (d : Nat) (t : TypeId) (n : Nat), flatT P d t = some n → FlatOk P d t n
 | 0, _, _, h => by simp [flatT] at h
 | d + 1, t, n, h => by
  rw [flatT] at h
  cases hu : P.underlying t with
  | none => simp [hu] at h
  | some desc =>
   rw [hu] at h
   cases desc <;> first | (simp at h; done) | skip
   ·rename_i k
    cases k <;> first | (simp at h; done) | skip
    simp at h; subst h
    have ha : isAggB P t = false := by simp [isAggB, hu]
    refine ⟨fun d' hd xs ys w hx hy => ?_, fun d' hd xs e w hx => ?_, fun xs off w hx => ?_⟩
    ·obtain ⟨d', rfl⟩ : ∃ k, d' = k + 1 := ⟨d' - 1, by omega⟩
     match xs, ys, hx, hy with
     | [a], [b], _, _ =>
      simp only [flatV, ha, if_false, Bool.false_eq_true, List.headD_cons]
      rw [run_equalIn_int w d' t .i64 .i64 a b hu]
      congr 1
      rw [Bool.eq_iff_iff]; simp
    ·obtain ⟨d', rfl⟩ : ∃ k, d' = k + 1 := ⟨d' - 1, by omega⟩
     simp [Instr.checkKey, run_underlying hu, flatV, ha]
    ·have hlt : off < xs.length := by omega
     simp only [part, Sem.run_bind, run_isAgg' hu, Result.andThen_ok, ha, flatV, Bool.false_eq_true, if_false]
     have h1 : ((xs.drop off).take 1).headD 0 = xs[off] := by rw [List.drop_eq_getElem_cons hlt]; rfl
     rw [h1]
     simp [hlt]
   ·rename_i fs
    simp only at h
    by_cases hs : (P.stoodInHeld t || (szB P t).isNone) = true
    ·simp [hs] at h
    ·rw [if_neg hs] at h
     simp at hs
     have ha : isAggB P t = true := by simp [isAggB, hu]
     split at h
     ·rename_i m hm
      split at h
      ·rename_i hsz
       simp at h hsz; subst h
       obtain ⟨_, hfs⟩ := flatFs_eq (fun t n => flatT_ok d t n) fs.toList 0 m hm
       have hff : P.fieldsOf t = fs := by simp [Program.fieldsOf, hu]
       refine ⟨fun d' hd xs ys w hx hy => ?_, fun d' hd xs e w hx => ?_, fun xs off w hx => ?_⟩
       ·obtain ⟨d', rfl⟩ : ∃ k, d' = k + 1 := ⟨d' - 1, by omega⟩
        simp only [flatV, ha, if_true]
        rw [run_equalIn_struct w d' t _ _ (by rw [hff]; exact hu) hs.1, hff, (hfs d' (by omega) xs ys w hx hy).1]
        simp
       ·obtain ⟨d', rfl⟩ : ∃ k, d' = k + 1 := ⟨d' - 1, by omega⟩
        have := (hfs d' (by omega) xs xs w hx hx).2 e
        simp only [flatV, ha, if_true, Instr.checkKey, Sem.run_bind, run_underlying hu, Result.andThen_ok]
        rw [← Array.forIn_toList]
        rw [this]; rfl
       ·simp only [part, Sem.run_bind, run_isAgg' hu, Result.andThen_ok, ha, flatV, if_true, run_sizeOf' hsz, Sem.run_pure]
        congr 2
        apply Array.ext'
        simp [List.map_drop, List.map_take]
      ·simp at h
     ·simp at h
theorem EqFlat.of {t : TypeId} {n : Nat} {fs : Array Field} (hu : P.underlying t = some (.struct fs)) (hf : flatT P 9 t = some n) (hg : P.eqGuardType P.depth t = false) : EqFlat P t n := by
 have ho := flatT_ok 9 t n hf
 have ha : isAggB P t = true := by simp [isAggB, hu]
 have hv : ∀ xs, flatV P t xs = .agg (xs.map (Value.int .i64)).toArray := fun xs => by simp [flatV, ha]
 refine ⟨⟨fs, hu⟩, fun xs ys w hx hy => ⟨fun op x y hop => ⟨run_eqGuard_agg w op t x y _ _ hg, ?_⟩, ?_, fun e => ?_⟩⟩
 ·have := ho.eq 10000 (by decide) xs ys w hx hy
  rw [hv, hv] at this
  rcases hop with rfl | rfl
  ·rw [run_eql_struct, this]; simp [Result.andThen, show (BinOp.eql == BinOp.neq) = false from rfl]
  ·rw [run_neq_struct, this]; simp [Result.andThen]
 ·have := ho.eq 10000 (by decide) xs ys w hx hy
  rw [hv, hv] at this
  exact this
 ·have := ho.key 10000 (by decide) xs e w hx
  rw [hv] at this
  exact this
end Go.Fam
namespace Go.Fam
theorem Evol.cut0 {S S' : Nat → Prop} {w w' : World} {O0 O : OInfo} (h : Evol S S' w w' O0 O) (n : Nat) (hlo : ∀ id x, O0 id = some x → id < n) : Evol S (cutS S' O n) w w' O0 (restO O n) := by
 refine ⟨⟨fun k hk => ⟨.inl (h.ext.keep k hk).1, (h.ext.keep k hk).2⟩, fun id g ob ho => ?_⟩, h.os, h.tape, h.output, h.size, h.fz, h.old, fun k ⟨id, g, ho⟩ => h.fresh k ⟨id, g, (restO_some ho).2⟩, ?_⟩
 ·obtain ⟨g', ob', h1, h2⟩ := h.ext.own id g ob ho
  refine ⟨g', ob', ?_, h2⟩
  unfold restO
  rw [if_pos (hlo id _ ho)]
  exact h1
 rintro k (hk | ⟨id, g, ho⟩)
 ·exact h.grow k hk
 ·exact .inr (h.fresh k ⟨id, g, (fromO_some ho).2⟩)
theorem evol_turn0 {S0 S : Nat → Prop} {w0 w : World} {O0 O : OInfo} (h : Evol S0 S w0 w O0 O) (h0 : ∀ id g b, O0 id = some (g, some b) → b < w0.heap.size) {L : Nat} {o o' : Obj} (hb : w.heap[L]? = some o) (hc : o.isCells = false) (hc' : o'.isCells = false) (hS : ¬ S L) (hL : w0.heap.size ≤ L) :
  Evol S0 S w0 (w.putObj L o') O0 O := by
 have hoth : ∀ k, k ≠ L → (w.putObj L o').heap[k]? = w.heap[k]? := fun k hk => World.putObj_heap_other hk
 have hnew : (w.putObj L o').heap[L]? = some o' := World.putObj_heap_same (Array.getElem?_eq_some_iff.1 hb).1
 refine ⟨⟨fun k hk => ⟨(h.ext.keep k hk).1, ?_⟩, fun id g ob ho => ?_⟩, h.os, h.tape, h.output, by simpa using h.size, fun a ha => ?_, fun k hk hno => ?_, h.fresh, h.grow⟩
 ·rw [hoth k (by rintro rfl; exact hS (h.ext.keep k hk).1)]; exact (h.ext.keep k hk).2
 ·obtain ⟨g', ob', h1, h2, h3⟩ := h.ext.own id g ob ho
  refine ⟨g', ob', h1, h2, fun e => ?_⟩
  obtain ⟨h4, h5⟩ := h3 e
  refine ⟨h4, fun b cur e hb hh => ?_⟩
  obtain ⟨cur', h6, h7⟩ := h5 b cur e hb hh
  refine ⟨cur', ?_, h7⟩
  rw [hoth b (by have := h0 id g b (by rw [ho, hb]); omega)]
  exact h6
 ·refine Eq.trans ?_ (h.fz a ha)
  by_cases e : a.block = L
  ·simp only [World.frozen?, e, hnew, hb]
   cases o <;> cases o' <;> first | rfl | (simp [Obj.isCells] at hc; done) | (simp [Obj.isCells] at hc'; done)
  ·simp only [World.frozen?, hoth _ e]
 ·rw [hoth k (by omega)]; exact h.old k hk hno
section
variable {P : Program} {F : Fence} {n : Nat} {Γ : Gam} {pu : List Nat}
def Ch (S0 : Nat → Prop) (w0 : World) (O0 : OInfo) : Ctx := fun S w O ds _ => Evol S0 S w0 w O0 O ∧ ∃ Ds : List Nat, ds = Ds.map col ∧ Ds.Nodup ∧ ∀ D ∈ Ds, w.heap[D]? = some (.deferred (some [])) ∧ ¬ S D ∧ ¬ Own O D ∧ w0.heap.size ≤ D
theorem ch_ok {M : FrI} {S0 : Nat → Prop} {w0 : World} {O0 : OInfo} {lo : Nat} (hro : F.round = none) (h0 : ∀ id g b, O0 id = some (g, some b) → b < w0.heap.size) (hlo : ∀ id x, O0 id = some x → id < lo) (hp : 0 < lo) : CtxOk P F n M (Ch S0 w0 O0) lo 1 w0.heap.size := by
 refine ⟨?_, ?_, fun _ => hro, fun _ _ _ _ _ _ h => h.1.size, ?_, ?_, ?_, fun h => (by cases h), fun h => (by cases h), fun h => (by cases h)⟩
 ·rintro S S' w w' O O' ds h h' ⟨h1, Ds, h2, h3, h4⟩ hlt ev _
  refine ⟨h1.trans ev, Ds, h2, h3, fun D hD => ?_⟩
  obtain ⟨a1, a2, a3, a4⟩ := h4 D hD
  have hDlt := (Array.getElem?_eq_some_iff.1 a1).1
  refine ⟨(ev.old D hDlt a3).trans a1, fun hS => ?_, fun hO => ?_, a4⟩
  ·rcases ev.grow D hS with h | h | h
   ·exact a2 h
   ·exact a3 h
   ·omega
  ·rcases ev.fresh D hO with h | h
   ·exact a3 h
   ·omega
 ·rintro S w O ds h h' k ⟨h1, Ds, h2, h3, h4⟩ hk _
  refine ⟨h1.cut0 k (fun id x hx => Nat.lt_of_lt_of_le (hlo id x hx) hk), Ds, h2, h3, fun D hD => ?_⟩
  obtain ⟨a1, a2, a3, a4⟩ := h4 D hD
  refine ⟨a1, ?_, fun ⟨id, g, ho⟩ => a3 ⟨id, g, (restO_some ho).2⟩, a4⟩
  rintro (h | ⟨id, g, ho⟩)
  ·exact a2 h
  ·exact a3 ⟨id, g, (fromO_some ho).2⟩
 ·rintro _ S w O ds h L r r' ⟨h1, Ds, h2, h3, h4⟩ hL hS hO hb
  refine ⟨evol_turn0 h1 h0 hL rfl rfl hS hb, Ds, h2, h3, fun D hD => ?_⟩
  obtain ⟨a1, a2, a3, a4⟩ := h4 D hD
  refine ⟨?_, a2, a3, a4⟩
  rw [World.putObj_heap_other (by rintro rfl; rw [hL] at a1; cases a1)]
  exact a1
 ·rintro _ S w O ds h r ⟨h1, Ds, h2, h3, h4⟩ hS hO
  have hl : Later w ((w.alloc (.deferred (some []))).alloc (.loop r)) := (later_alloc w _ rfl).trans (later_alloc _ _ rfl)
  refine ⟨h1.trans (hl.evol hS hO), w.heap.size :: Ds, by rw [h2]; rfl, List.nodup_cons.2 ⟨fun hD => ?_, h3⟩, fun D hD => ?_⟩
  ·have := (Array.getElem?_eq_some_iff.1 (h4 _ hD).1).1; omega
  ·rcases List.mem_cons.1 hD with rfl | hD
   ·refine ⟨?_, fun h => ?_, fun h => ?_, h1.size⟩
    ·exact (heap_alloc_old _ _ (by simp)).trans (World.alloc_heap_new w _)
    ·have := hS _ h; omega
    ·have := hO _ h; omega
   ·obtain ⟨a1, a2, a3, a4⟩ := h4 D hD
    exact ⟨(hl.old D (Array.getElem?_eq_some_iff.1 a1).1).trans a1, a2, a3, a4⟩
 ·intro _ h; omega
theorem leave_marks0 {M : FrI} {fn : Func} {rs : List RV} (hr : resRV P fn.results.toList = some rs) {S0 S : Nat → Prop} {w0 : World} {O0 O : OInfo} (h0 : ∀ id g b, O0 id = some (g, some b) → b < w0.heap.size) {σ : St} {a : Act} (hok : rvs σ.hp σ.fr rs) {R : Ending → World → Prop}
  (hR : ∀ w' c, Evol S0 S w0 w' O0 O → Mat S w' O σ.hp → Rep S w' O (resV σ.hp σ.fr rs) c → R (.returned c) w') :
  ∀ (Ds : List Nat) (w : World), Ds.Nodup → (∀ D ∈ Ds, w.heap[D]? = some (.deferred (some [])) ∧ ¬ S D ∧ ¬ Own O D ∧ w0.heap.size ≤ D) → Evol S0 S w0 w O0 O → SR M S w O σ a → LeavesInM F n P fn a.tmps R (Ds.map col) .returning w
 | [], w, _, _, hev, hsr => by
  obtain ⟨c, hrun, hrp⟩ := results_run hsr hr hok
  exact ⟨c, hrun, hR w c hev hsr.mat hrp⟩
 | D :: Ds, w, hnd, hD, hev, hsr => by
  obtain ⟨hn1, hn2⟩ := List.nodup_cons.1 hnd
  obtain ⟨a1, a2, a3, a4⟩ := hD D (by simp)
  refine ⟨by simp, .inl ⟨D, _, rfl, run_takeDeferred a1, ?_⟩⟩
  refine leave_marks0 hr h0 hok hR Ds _ hn2 (fun D' hD' => ?_) (evol_turn0 hev h0 a1 rfl rfl a2 a4) (sr_turn hsr _ a2 a3)
  obtain ⟨b1, b2⟩ := hD D' (by simp [hD'])
  exact ⟨(World.putObj_heap_other (by rintro rfl; exact hn1 hD')).trans b1, b2⟩
theorem start_fr0 {S : Nat → Prop} {w : World} {O : OInfo} {args : List V} {cargs : Array Value} {nt : Nat} (hsz : cargs.size = args.length) (hn : args.length ≤ nt) (hrep : RepL S w O args cargs.toList) :
  (cargs ++ Array.replicate (nt - cargs.size) undef).size = nt ∧ FrM S w O (lkp (zipA 0 args)) { tmps := cargs ++ Array.replicate (nt - cargs.size) undef, defers := [] } := by
 have hlo : ∀ t, t < cargs.size → (cargs ++ Array.replicate (nt - cargs.size) undef).getD t undef = cargs.getD t undef := by
  intro t ht
  simp [Array.getElem?_append, ht]
 refine ⟨by simp; omega, fun t => ?_⟩
 show Rep S w O (lkp (zipA 0 args) t) _
 rw [lkp_zipA, if_pos (Nat.zero_le _), Nat.sub_zero]
 cases ht : args[t]? with
 | none => simp [Rep]
 | some v =>
  obtain ⟨cv, hcv, hv⟩ := RepL.get _ _ t v hrep ht
  have hlt : t < cargs.size := by have := getElemLt hcv; simpa using this
  show Rep S w O v ((cargs ++ Array.replicate (nt - cargs.size) undef).getD t undef)
  rw [hlo t hlt]
  have : cargs.getD t undef = cv := by
   rw [Array.getElem?_toList] at hcv
   have h2 := (Array.getElem?_eq_some_iff.1 hcv).2
   simp [hlt, h2]
  rw [this]
  exact hv
theorem heap_body (hG : GOk P Γ) (hm : P.follows .mixedOrders = true) {f : FuncId} {fn : Func} {c : Code} {rc : RC} {rs : List RV} (hf : P.funcs[f]? = some fn) (hb : fn.body = some c) {lo : Nat}
  (hc : comp P pu (fn.ntmps, 0) lo 1 rc c = some rc) (hr : resRV P fn.results.toList = some rs) {args : List V} (hn : args.length ≤ fn.ntmps) {hp : List Blk} (hlo : hp.length ≤ lo) (hpos : 0 < lo) {R : V → List Blk → Prop}
  (h : wpR Γ (EqFlat P) rc (endK rs fun σ => R (resV σ.hp σ.fr rs) σ.hp) ⟨lkp (zipA 0 args), hp⟩) : HeapCall P f args hp R := by
 intro S w O cargs hmat hsz hrep
 have h0 : ∀ id g b, O id = some (g, some b) → b < w.heap.size := fun id g b h => (hmat.own id g b h).1
 have hl : ∀ id x, O id = some x → id < lo := fun id x h => Nat.lt_of_lt_of_le (mat_lt hmat h) hlo
 refine openF_wide.calls (n := 0) (callsIn_of_wp_marks hf hb trivial ?_)
 obtain ⟨h1, h2⟩ := start_fr0 hsz hn hrep
 obtain ⟨M, hM⟩ : ∃ M : FrI, M = ⟨fn.ntmps, 0, fun _ => undef, fun _ => False⟩ := ⟨_, rfl⟩
 have hnm : M.nm = (fn.ntmps, 0) := by rw [hM]; rfl
 have hat : At (Ch S w O) M S w O ⟨lkp (zipA 0 args), hp⟩ { tmps := cargs ++ Array.replicate (fn.ntmps - cargs.size) undef, defers := [] } := by
  refine ⟨⟨Evol.refl _ _ _, [], rfl, List.nodup_nil, fun _ h => by cases h⟩, ⟨by rw [hM]; exact h1, fun t ht => by rw [hM] at ht; exact absurd ht (Nat.not_lt_zero _), h2, hmat⟩⟩
 refine wpR_sound hG hm (M := M) (by rw [hM]; exact fun _ h => h.elim) rc c rc _ 0 lo 1 openF_wide (by rw [hnm]; exact hc) (Ch S w O) w.heap.size (ch_ok rfl h0 hl hpos) _ _ _ S w O _ h hat ?_
 intro e σ' S' w' O' a' he hat'
 have fin : (rvs σ'.hp σ'.fr rs ∧ R (resV σ'.hp σ'.fr rs) σ'.hp) → LeavesInM Fence.wide 0 P fn a'.tmps (fun e w' => ∃ c S' O' r hp', e = .returned c ∧ R r hp' ∧ Evol S S' w w' O O' ∧ Mat S' w' O' hp' ∧ Rep S' w' O' r c) a'.defers .returning w' := by
  rintro ⟨k1, k2⟩
  obtain ⟨ev, Ds, e1, e2, e3⟩ := hat'.ctx
  rw [e1]
  exact leave_marks0 hr h0 k1 (fun w2 c hev hmat hrp => ⟨c, S', O', _, _, rfl, k2, hev, hmat, hrp⟩) Ds w' e2 e3 ev hat'.sr
 cases e <;> first | exact fin he | exact he.elim
end
def hpG {α : Type} (eA : α → List V) (eH : α → List Blk) (dec : List V → List Blk → α) (C : α → Prop) (R : α → V → List Blk → Prop) : List V → List Blk → Prop × (V → List Blk → Prop) :=
 fun as0 hp => (eA (dec as0 hp) = as0 ∧ eH (dec as0 hp) = hp ∧ C (dec as0 hp), R (dec as0 hp))
theorem hpG_at {α : Type} {eA : α → List V} {eH : α → List Blk} {dec : List V → List Blk → α} {C : α → Prop} {R : α → V → List Blk → Prop} (x : α) (h : dec (eA x) (eH x) = x) : hpG eA eH dec C R (eA x) (eH x) = (C x, R x) := by
 unfold hpG
 rw [h]; simp
theorem hpG_ok {P : Program} {f : FuncId} {α : Type} {eA : α → List V} {eH : α → List Blk} {dec : List V → List Blk → α} {C : α → Prop} {R : α → V → List Blk → Prop}
  (h : ∀ x, C x → (∀ r hp', R x r hp' → ∀ y, ghO (eH x) = some y → ghO hp' = some y) ∧ HeapCall P f (eA x) (eH x) (R x)) (as0 : List V) (hp : List Blk) (hc : (hpG eA eH dec C R as0 hp).1) :
  (∀ r hp', (hpG eA eH dec C R as0 hp).2 r hp' → ∀ y, ghO hp = some y → ghO hp' = some y) ∧ HeapCall P f as0 hp (hpG eA eH dec C R as0 hp).2 := by
 obtain ⟨h1, h2, h3⟩ := hc
 have := h _ h3
 rw [h1, h2] at this
 exact this
theorem putAt_set (i : Nat) (v : V) (l : List V) (h : i < l.length) : putAt i [v] l = l.set i v := by
 unfold putAt
 rw [List.set_eq_take_append_cons_drop, if_pos h]
 simp
end Go.Fam
namespace Go.Fam
mutual
def lowV (n : Nat) : V → Bool
 | .ad id _ _ | .rf id _ _ _ _ | .mp id _ | .it id _ => decide (id < n)
 | .ag cs | .tp cs => lowL n cs
 | .fn _ cs => lowL n cs
 | .gv _ v => lowV n v
 | _ => true
def lowL (n : Nat) : List V → Bool
 | [] => true
 | v :: vs => lowV n v && lowL n vs
end
def lowB (n : Nat) : Blk → Bool
 | .cells _ vs | .map _ _ vs => lowL n vs
 | .iter mid _ _ _ => decide (mid < n)
 | _ => true
theorem restO_lt {O : OInfo} {n id : Nat} (h : id < n) : restO O n id = O id := if_pos h
mutual
theorem lowV_rep {S : Nat → Prop} {w : World} {O : OInfo} {n : Nat} : ∀ (v : V) (c : Value), lowV n v = true → Rep S w O v c → Rep S w (restO O n) v c
 | .u, _, _, _ => by simp [Rep]
 | .b x, c, _, hr => by simpa [Rep] using hr
 | .i x, c, _, hr => by simpa [Rep] using hr
 | .z es, c, _, hr => by simpa [Rep] using hr
 | .sl es rows, c, _, hr => by simpa only [Rep] using hr
 | .sx es rows, c, _, hr => by simpa only [Rep] using hr
 | .pa cs, c, _, hr => by simpa only [Rep] using hr
 | .pn, c, _, hr => by simpa [Rep] using hr
 | .yl l, c, _, hr => by simpa only [Rep] using hr
 | .pm _ _ _, c, _, hr => by simpa only [Rep] using hr
 | .fb _ _, c, _, hr => by simpa only [Rep] using hr
 | .w k n, c, _, hr => by simpa only [Rep] using hr
 | .ag cs, c, hl, hr => by
  simp only [lowV] at hl
  simp only [Rep] at hr ⊢
  obtain ⟨ccs, hc, hn, hr⟩ := hr
  exact ⟨ccs, hc, hn, lowL_rep cs _ hl hr⟩
 | .tp cs, c, hl, hr => by
  simp only [lowV] at hl
  simp only [Rep] at hr ⊢
  obtain ⟨ccs, hc, hn, hr⟩ := hr
  exact ⟨ccs, hc, hn, lowL_rep cs _ hl hr⟩
 | .fn f cs, c, hl, hr => by
  simp only [lowV] at hl
  simp only [Rep] at hr ⊢
  obtain ⟨ccs, hc, hn, hr⟩ := hr
  exact ⟨ccs, hc, hn, lowL_rep cs _ hl hr⟩
 | .gv q v, c, hl, hr => by
  simp only [lowV] at hl
  simp only [Rep] at hr ⊢
  exact ⟨fun hq => lowV_rep v c hl (hr.1 hq), hr.2⟩
 | .ad id g off, c, hl, hr => by
  simp only [lowV, decide_eq_true_eq] at hl
  simpa only [Rep, restO_lt hl] using hr
 | .rf id g off len es, c, hl, hr => by
  simp only [lowV, decide_eq_true_eq] at hl
  simpa only [Rep, restO_lt hl] using hr
 | .mp id g, c, hl, hr => by
  simp only [lowV, decide_eq_true_eq] at hl
  simpa only [Rep, restO_lt hl] using hr
 | .it id g, c, hl, hr => by
  simp only [lowV, decide_eq_true_eq] at hl
  simpa only [Rep, restO_lt hl] using hr
theorem lowL_rep {S : Nat → Prop} {w : World} {O : OInfo} {n : Nat} : ∀ (vs : List V) (cs : List Value), lowL n vs = true → RepL S w O vs cs → RepL S w (restO O n) vs cs
 | [], _, _, _ => by simp [RepL]
 | _ :: _, [], _, hr => by simp [RepL] at hr
 | v :: vs, c :: cs, hl, hr => by
  simp only [lowL, Bool.and_eq_true] at hl
  simp only [RepL] at hr ⊢
  exact ⟨lowV_rep v c hl.1 hr.1, lowL_rep vs cs hl.2 hr.2⟩
end
theorem lowB_ok {S : Nat → Prop} {w : World} {O : OInfo} {n g : Nat} {ob : Option Nat} : ∀ (b : Blk), lowB n b = true → BlkOk S w O g ob (some b) → BlkOk S w (restO O n) g ob (some b)
 | .cells g' vs, hl, h => by
  simp only [lowB] at hl
  simp only [BlkOk] at h ⊢
  refine ⟨h.1, ?_⟩
  cases ob with
  | none => exact h.2
  | some b =>
   obtain ⟨cur, e, h1, h2, h3⟩ := h.2
   exact ⟨cur, e, h1, lowL_rep _ _ hl h2, h3⟩
 | .map st ks vs, hl, h => by
  simp only [lowB] at hl
  simp only [BlkOk] at h ⊢
  obtain ⟨h0, b, es, h1, h2, h3, h4, h5⟩ := h
  exact ⟨h0, b, es, h1, h2, h3, lowL_rep _ _ hl h4, h5⟩
 | .iter mid k left cur, hl, h => by
  simp only [lowB, decide_eq_true_eq] at hl
  simp only [BlkOk] at h ⊢
  obtain ⟨h0, b, m, seen, h1, h2, h3, h4⟩ := h
  exact ⟨h0, b, m, seen, h1, h2, lowV_rep (n := n) (.mp mid 0) _ (by simp [lowV, hl]) h3, h4⟩
 | .gh _ _, _, h => h
 | .dead _, _, h => h
 | .hole, _, h => h
theorem HeapCall.frame {P : Program} {f : FuncId} {args : List V} {hp : List Blk} {R : V → List Blk → Prop} (h : HeapCall P f args hp R) (hl : ∀ r hp', R r hp' → hp'.length = hp.length) (ha : lowL hp.length args = true) (hb : ∀ b ∈ hp, lowB hp.length b = true) (tl : List Blk) :
  HeapCall P f args (hp ++ tl) fun r hp2 => ∃ hp', R r hp' ∧ hp2 = hp' ++ tl := by
 intro S w O cargs hm hs hr
 have hO1 : ∀ {id x}, restO O hp.length id = some x → id < hp.length ∧ O id = some x := fun h => restO_some h
 have hm1 : Mat S w (restO O hp.length) hp := by
  refine ⟨hm.lt, fun id g b ho => hm.own id g b (hO1 ho).2, fun id id' g g' b h1 h2 => hm.inj id id' g g' b (hO1 h1).2 (hO1 h2).2, fun id g ob ho => ?_⟩
  obtain ⟨hlt, ho⟩ := hO1 ho
  have := hm.blk id g ob ho
  rw [List.getElem?_append_left hlt, List.getElem?_eq_getElem hlt] at this
  rw [List.getElem?_eq_getElem hlt]
  exact lowB_ok _ (hb _ (List.getElem_mem hlt)) this
 refine (h S w (restO O hp.length) cargs hm1 hs (lowL_rep _ _ ha hr)).mono ?_
 rintro e w' ⟨c, S', O1', r, hp', rfl, hR, hev, hm', hrep⟩
 have hlen := hl r hp' hR
 obtain ⟨O', hO'⟩ : ∃ O' : OInfo, O' = fun id => if id < hp.length then O1' id else O id := ⟨_, rfl⟩
 have h1lt : ∀ {id x}, O1' id = some x → id < hp.length := fun {id x} h => by rw [← hlen]; exact mat_lt hm' h
 have e1 : ∀ {id}, id < hp.length → O' id = O1' id := fun h => by rw [hO']; exact if_pos h
 have e2 : ∀ {id}, ¬ id < hp.length → O' id = O id := fun h => by rw [hO']; exact if_neg h
 have htl : ∀ {id g b}, ¬ id < hp.length → O id = some (g, some b) → ¬ Own (restO O hp.length) b := by
  rintro id g b hn ho ⟨id2, g2, ho2⟩
  obtain ⟨hlt2, ho2⟩ := hO1 ho2
  have := hm.inj id id2 g g2 b ho ho2
  omega
 have hkeep : ∀ {id g b}, ¬ id < hp.length → O id = some (g, some b) → w'.heap[b]? = w.heap[b]? := fun hn ho => hev.old _ (hm.own _ _ _ ho).1 (htl hn ho)
 have hnS : ∀ {id g b}, ¬ id < hp.length → O id = some (g, some b) → ¬ S' b ∧ ¬ Own O1' b := by
  intro id g b hn ho
  have hlt := (hm.own _ _ _ ho).1
  refine ⟨fun hS => ?_, fun hO => ?_⟩
  ·rcases hev.grow b hS with h | h | h
   ·exact (hm.own _ _ _ ho).2 h
   ·exact htl hn ho h
   ·omega
  ·rcases hev.fresh b hO with h | h
   ·exact htl hn ho h
   ·omega
 have hext : Ext S S' w w' O O' := by
  refine ⟨hev.ext.keep, fun id g ob ho => ?_⟩
  by_cases hid : id < hp.length
  ·obtain ⟨g', ob', k1, k2⟩ := hev.ext.own id g ob (by rw [restO_lt hid]; exact ho)
   exact ⟨g', ob', by rw [e1 hid]; exact k1, k2⟩
  ·refine ⟨g, ob, by rw [e2 hid]; exact ho, Nat.le_refl _, fun _ => ⟨rfl, fun b cur e hb hh => ⟨cur, ?_, rfl⟩⟩⟩
   subst hb
   rw [hkeep hid ho]; exact hh
 have hext1 : Ext S' S' w' w' O1' O' := ⟨fun n hn => ⟨hn, rfl⟩, fun id g ob ho => ⟨g, ob, by rw [e1 (h1lt ho)]; exact ho, Nat.le_refl _, fun _ => ⟨rfl, fun b cur e _ hh => ⟨cur, hh, rfl⟩⟩⟩⟩
 refine ⟨c, S', O', r, hp' ++ tl, rfl, ⟨hp', hR, rfl⟩, ?_, ?_, Rep.ext hext1 _ _ hrep⟩
 ·refine ⟨hext, hev.os, hev.tape, hev.output, hev.size, hev.fz, fun n hn hno => hev.old n hn fun ⟨id, g, ho⟩ => hno ⟨id, g, (hO1 ho).2⟩, ?_, ?_⟩
  ·rintro n ⟨id, g, ho⟩
   by_cases hid : id < hp.length
   ·rw [e1 hid] at ho
    rcases hev.fresh n ⟨id, g, ho⟩ with ⟨id2, g2, ho2⟩ | h
    ·exact .inl ⟨id2, g2, (hO1 ho2).2⟩
    ·exact .inr h
   ·rw [e2 hid] at ho
    exact .inl ⟨id, g, ho⟩
  ·intro n hn
   rcases hev.grow n hn with h | ⟨id2, g2, ho2⟩ | h
   ·exact .inl h
   ·exact .inr (.inl ⟨id2, g2, (hO1 ho2).2⟩)
   ·exact .inr (.inr h)
 ·refine ⟨hm'.lt, fun id g b ho => ?_, fun id id' g g' b h1 h2 => ?_, fun id g ob ho => ?_⟩
  ·by_cases hid : id < hp.length
   ·rw [e1 hid] at ho; exact hm'.own id g b ho
   ·rw [e2 hid] at ho
    exact ⟨Nat.lt_of_lt_of_le (hm.own id g b ho).1 hev.size, (hnS hid ho).1⟩
  ·by_cases hid : id < hp.length
   ·rw [e1 hid] at h1
    by_cases hid' : id' < hp.length
    ·rw [e1 hid'] at h2; exact hm'.inj id id' g g' b h1 h2
    ·rw [e2 hid'] at h2
     exact absurd ⟨id, g, h1⟩ (hnS hid' h2).2
   ·rw [e2 hid] at h1
    by_cases hid' : id' < hp.length
    ·rw [e1 hid'] at h2
     exact absurd ⟨id', g', h2⟩ (hnS hid h1).2
    ·rw [e2 hid'] at h2; exact hm.inj id id' g g' b h1 h2
  ·by_cases hid : id < hp.length
   ·rw [e1 hid] at ho
    rw [List.getElem?_append_left (by rw [hlen]; exact hid)]
    have := hm'.blk id g ob ho
    exact this.ext hext1 fun _ _ => rfl
   ·rw [e2 hid] at ho
    have := hm.blk id g ob ho
    rw [List.getElem?_append_right (by omega)] at this ⊢
    rw [hlen]
    refine this.ext hext fun b hb => ?_
    subst hb
    exact hkeep hid ho
theorem hpG_y {P : Program} {f : FuncId} {al : List V → Prop} {α : Type} {eA : α → List V} {eH : α → List Blk} {dec : List V → List Blk → α} {C : α → Prop} {R : α → V → List Blk → Prop} (h : ∀ x, C x → YCall P f al (eA x) (eH x) (R x)) (xs : List V) (hp : List Blk) (hc : (hpG eA eH dec C R xs hp).1) :
  YCall P f al xs hp (hpG eA eH dec C R xs hp).2 := by
 obtain ⟨h1, h2, h3⟩ := hc
 have := h _ h3
 rw [h1, h2] at this
 exact this
section
variable {P : Program} {F : Fence} {n : Nat} {Γ : Gam} {pu : List Nat}
theorem heap_bodyC (hG : GOk P Γ) (hm : P.follows .mixedOrders = true) {f : FuncId} {fn : Func} {c : Code} {rc : RC} {rs : List RV} (hf : P.funcs[f]? = some fn) (hb : fn.body = some c) {lo : Nat}
  (hc : comp P pu (fn.ntmps, 0) lo 1 rc c = some rc) (hr : resRV P fn.results.toList = some rs) {args : List V} (hn : args.length ≤ fn.ntmps) {hp : List Blk} (hlo : hp.length ≤ lo) (hpos : 0 < lo) {R : V → List Blk → Prop}
  (h : wpR Γ (EqFlat P) rc (endK rs fun σ => R (cutV σ.hp lo (resV σ.hp σ.fr rs)) (cutH lo σ.hp)) ⟨lkp (zipA 0 args), hp⟩) : HeapCall P f args hp R := by
 intro S w O cargs hmat hsz hrep
 have h0 : ∀ id g b, O id = some (g, some b) → b < w.heap.size := fun id g b h => (hmat.own id g b h).1
 have hl : ∀ id x, O id = some x → id < lo := fun id x h => Nat.lt_of_lt_of_le (mat_lt hmat h) hlo
 refine openF_wide.calls (n := 0) (callsIn_of_wp_marks hf hb trivial ?_)
 obtain ⟨h1, h2⟩ := start_fr0 hsz hn hrep
 obtain ⟨M, hM⟩ : ∃ M : FrI, M = ⟨fn.ntmps, 0, fun _ => undef, fun _ => False⟩ := ⟨_, rfl⟩
 have hnm : M.nm = (fn.ntmps, 0) := by rw [hM]; rfl
 have hat : At (Ch S w O) M S w O ⟨lkp (zipA 0 args), hp⟩ { tmps := cargs ++ Array.replicate (fn.ntmps - cargs.size) undef, defers := [] } := by
  refine ⟨⟨Evol.refl _ _ _, [], rfl, List.nodup_nil, fun _ h => by cases h⟩, ⟨by rw [hM]; exact h1, fun t ht => by rw [hM] at ht; exact absurd ht (Nat.not_lt_zero _), h2, hmat⟩⟩
 refine wpR_sound hG hm (M := M) (by rw [hM]; exact fun _ h => h.elim) rc c rc _ 0 lo 1 openF_wide (by rw [hnm]; exact hc) (Ch S w O) w.heap.size (ch_ok rfl h0 hl hpos) _ _ _ S w O _ h hat ?_
 intro e σ' S' w' O' a' he hat'
 have fin : (rvs σ'.hp σ'.fr rs ∧ R (cutV σ'.hp lo (resV σ'.hp σ'.fr rs)) (cutH lo σ'.hp)) → LeavesInM Fence.wide 0 P fn a'.tmps (fun e w' => ∃ c S' O' r hp', e = .returned c ∧ R r hp' ∧ Evol S S' w w' O O' ∧ Mat S' w' O' hp' ∧ Rep S' w' O' r c) a'.defers .returning w' := by
  rintro ⟨k1, k2⟩
  obtain ⟨ev, Ds, e1, e2, e3⟩ := hat'.ctx
  rw [e1]
  exact leave_marks0 hr h0 k1 (fun w2 c hev hmat hrp => ⟨c, _, _, _, _, rfl, k2, hev.cut0 lo hl, cut_mat hmat lo, cut_rep hmat lo _ _ hrp⟩) Ds w' e2 e3 ev hat'.sr
 cases e <;> first | exact fin he | exact he.elim
end
end Go.Fam
namespace Go.Fam
def fzV (hp : List Blk) (L : List Nat) (v : V) : V := if (rids v).any (fun id => decide (id ∈ L)) = true then vw hp 8 v else v
theorem HeapCall.frz {P : Program} {f : FuncId} {args : List V} {hp : List Blk} {R : V → List Blk → Prop} (L : List Nat) (hL : L.all (leafB hp) = true)
  (ha : ∀ v ∈ args, (rids v).any (fun id => decide (id ∈ L)) = true → ∀ id ∈ rids v, id ∈ L) (h : HeapCall P f (args.map (fzV hp L)) (L.foldl killB hp) R) : HeapCall P f args hp R := by
 intro S w O cargs hm hsz hr
 have hm2 := frz_mat hm hL
 have hx : Ext (Frz S O L) (Frz S O L) w w noO (frzO O L) := ⟨fun k hk => ⟨hk, rfl⟩, fun _ _ _ h => by cases h⟩
 have key : ∀ (vs : List V) (cs : List Value), (∀ v ∈ vs, v ∈ args) → RepL S w O vs cs → RepL (Frz S O L) w (frzO O L) (vs.map (fzV hp L)) cs := by
  intro vs
  induction vs with
  | nil => intro cs _ _; simp [RepL]
  | cons v vs ih =>
   intro cs hv h
   cases cs with
   | nil => simp [RepL] at h
   | cons c cs =>
    simp only [RepL] at h
    simp only [List.map_cons, RepL]
    refine ⟨?_, ih cs (fun x hx => hv x (by simp [hx])) h.2⟩
    unfold fzV
    by_cases hi : (rids v).any (fun id => decide (id ∈ L)) = true
    ·rw [if_pos hi]
     exact Rep.ext hx _ _ (frz_vw hm hL 8 v c (ha v (hv v (by simp)) hi) h.1)
    ·rw [if_neg hi]
     exact Rep.ext (frz_ext L) _ _ h.1
 refine (h _ w _ cargs hm2 (by simpa using hsz) (key args _ (fun _ h => h) hr)).mono ?_
 rintro e w' ⟨c, S', O', r, hp', he, hR, hev, h1, h2⟩
 exact ⟨c, S', O', r, hp', he, hR, (frz_evol L).trans hev, h1, h2⟩
end Go.Fam
namespace Go.Fam
open Go.Sort
end Go.Fam
namespace Go.Fam
open Go.Sort
end Go.Fam
namespace Go.Fam
open Go.Proofs
def BU1 := And.intro @ru_skip (And.intro @ru_reg (And.intro @ru_any (And.intro @ru_seq (And.intro @ru_cnd (And.intro @ru_block (And.intro @ru_exit (And.intro @ru_ret (And.intro @ru_keep (And.intro @cutH.eq_1 (And.intro @run_cons (And.intro @Fam.step.eq_1 (And.intro @stepW.eq_1 (And.intro @eff.eq_1 (And.intro @nextD.eq_1 (And.intro @fpR.eq_1 (And.intro @disjB.eq_1 (And.intro @hits.eq_1 (And.intro @pickV_bb (And.intro @curG.eq_1 (And.intro @putAt.eq_1 (And.intro @upd_some (And.intro @upd_none (And.intro @lkp_cons (And.intro @lkp_nil (And.intro (@List.map_cons.{0, 0}) (And.intro (@List.map_nil.{0, 0}) (And.intro @List.all_cons.{0} (And.intro @List.all_nil.{0} (And.intro @List.length_cons.{0} (And.intro @List.length_nil.{0} (And.intro @List.drop_succ_cons.{0} (And.intro @List.drop_zero.{0} (And.intro @List.drop_nil.{0} (And.intro @List.take_succ_cons.{0} (And.intro @List.take_zero.{0} (And.intro @List.take_nil.{0} (And.intro @List.headD_cons.{0} (And.intro @List.cons_append.{0} (And.intro @List.nil_append.{0} (And.intro @List.append_nil.{0} (And.intro @List.getElem?_cons_zero.{0} (And.intro @List.getElem?_cons_succ.{0} (And.intro @List.getElem?_nil.{0} (And.intro @Option.getD_some.{0} (And.intro @Option.getD_none.{0} (And.intro @List.set_cons_zero.{0} (And.intro @List.set_cons_succ.{0} (And.intro @List.replicate_zero.{0} (And.intro @List.isEmpty_nil.{0} (And.intro @vw_i (And.intro @vw_b (And.intro @vw_sl (And.intro @vw_pa (And.intro @vw_ag (And.intro @vw_fn (And.intro @Int.natCast_nonneg (And.intro @Nat.zero_add (And.intro @Nat.add_zero (And.intro @Bool.and_self (And.intro @Bool.and_true (And.intro @Bool.false_and (And.intro @Bool.or_false (And.intro @Bool.not_true (And.intro @Bool.not_false (And.intro @decide_true (And.intro @decide_false (And.intro @true_and (And.intro @and_true (And.intro @and_self (And.intro @false_and (And.intro @false_implies (And.intro (@Option.map_some.{0, 0}) (And.intro @List.any_nil.{0} (And.intro @beq_true (And.intro @beq_false (And.intro (@List.length_map.{0, 0}) (And.intro @Int.toNat_natCast (And.intro @List.getD_eq_getElem?_getD.{0} (And.intro (@List.getElem?_map.{0, 0}) (And.intro @needQ.eq_def (And.intro @condB.eq_def (And.intro @solid.eq_def (And.intro @evO.eq_def (And.intro @binV.eq_def (And.intro @rv1.eq_def (And.intro @resV.eq_def (And.intro @endQ.eq_def (And.intro @V.cells.eq_def (And.intro @ug.eq_def (And.intro @thenQ.eq_def (And.intro @ldV.eq_def (And.intro @stepQ.eq_def (And.intro @qv.eq_def (And.intro @lenV.eq_def (And.intro @callV.eq_def (And.intro @opv.eq_def (And.intro @kp.eq_def (And.intro @blockQ.eq_def (And.intro @needW.eq_def (And.intro @nv.eq_def (And.intro @sv.eq_def (And.intro @iadV.eq_def (@putB.eq_def)))))))))))))))))))))))))))))))))))))))))))))))))))))))))))))))))))))))))))))))))))))))))))))))))))))))
end Go.Fam
namespace Go.Fam
open Go.Proofs
theorem lkpV_mp (E : TypeId → Nat → Prop) (hp : List Blk) (zc : V) (ok : Bool) (kt : TypeId) (sk : Bool) (id g : Nat) (k : V) : lkpV E hp zc ok kt sk (.mp id g) k = match keyL k with
 | some (s, l) => (match hp[id]? with
  | some (.map st ks vs) => (g = 0 ∧ keyFits E kt sk st ks s l, if ok then .tp [(vs[ks.idxOf l]?).getD zc, .b (decide (l ∈ ks))] else (vs[ks.idxOf l]?).getD zc)
  | _ => (False, .u))
 | none => (False, .u) := by
 unfold lkpV
 cases keyL k <;> rfl
theorem lkpV_pm (E : TypeId → Nat → Prop) (hp : List Blk) (zc : V) (ok : Bool) (kt : TypeId) (sk st : Bool) (ks : List (List Int)) (vs : List V) (k : V) : lkpV E hp zc ok kt sk (.pm st ks vs) k = match keyL k with
 | some (s, l) => (keyFits E kt sk st ks s l, if ok then .tp [(vs[ks.idxOf l]?).getD zc, .b (decide (l ∈ ks))] else (vs[ks.idxOf l]?).getD zc)
 | none => (False, .u) := by
 unfold lkpV
 cases keyL k <;> rfl
def BU2 := And.intro BU1 (And.intro (And.intro (And.intro (And.intro (And.intro (And.intro (And.intro (And.intro @cut_lkp @ren_lkp) (And.intro @Go.Fam.ru_no (And.intro @Go.Fam.ru_yra @Go.Fam.ru_yrx))) (And.intro (And.intro @Go.Fam.ite_P (And.intro @Go.Fam.ru_drp @Go.Fam.ru_own)) (And.intro @Go.Fam.ru_owng (And.intro @Go.Fam.ru_ownc @Go.Fam.ru_swp)))) (And.intro (And.intro (And.intro @Go.Fam.ru_nxt @Go.Fam.ru_yrg) (And.intro @Go.Fam.ru_crl (And.intro @Go.Fam.ru_hcl @Go.Fam.ru_hca))) (And.intro (And.intro @Go.Fam.ru_owni (And.intro @Go.Fam.ru_scp @Go.Fam.ru_dum)) (And.intro @Go.Fam.ru_yrh (And.intro @Go.Fam.ru_ycl @Go.Fam.ru_rnl))))) (And.intro (And.intro (And.intro (And.intro @Go.Fam.ru_itm @Go.Fam.runI_nil) (And.intro @Go.Fam.runI_r (And.intro @Go.Fam.runI_w @Go.Fam.runI_h))) (And.intro (And.intro @Go.Fam.runI_y (And.intro @Go.Fam.drpS.eq_1 @Go.Fam.noGo.eq_1)) (And.intro @Go.Fam.noGo.eq_2 (And.intro @Go.Fam.chunk1 @Go.Fam.rnQ.eq_1)))) (And.intro (And.intro (And.intro @Go.Fam.rnQ.eq_2 @Go.Fam.rndQ.eq_1) (And.intro @Go.Fam.rndQ.eq_2 (And.intro @Go.Fam.rndQ.eq_3 @Go.Fam.rndQ.eq_4))) (And.intro (And.intro @Go.Fam.updL.eq_1 (And.intro @Go.Fam.updL.eq_2 @Go.Fam.sfree.eq_1)) (And.intro @Go.Fam.sfree.eq_2 (And.intro @Go.Fam.yres.eq_1 @Go.Fam.yres.eq_2)))))) (And.intro (And.intro (And.intro (And.intro (And.intro @Go.Fam.slots.eq_1 @Go.Fam.ghO.eq_1) (And.intro @Go.Fam.stepO.eq_1 (And.intro @Go.Fam.ocV.eq_1 @Go.Fam.ocV.eq_2))) (And.intro (And.intro @Go.Fam.effO.eq_1 (And.intro @Go.Fam.nidQ.eq_1 @Go.Fam.nidQ.eq_2)) (And.intro @Go.Fam.plO.eq_1 (And.intro @Go.Fam.plO.eq_2 @Go.Fam.plQ.eq_1)))) (And.intro (And.intro (And.intro @Go.Fam.plQ.eq_2 @Go.Fam.plB.eq_1) (And.intro @Go.Fam.plB.eq_2 (And.intro @Go.Fam.setBs.eq_1 @Go.Fam.setBs.eq_2))) (And.intro (And.intro @Go.Fam.holesB.eq_1 (And.intro @Go.Fam.holesB.eq_2 @Go.Fam.setsL.eq_1)) (And.intro @Go.Fam.setsL.eq_2 (And.intro @Go.Fam.killL.eq_1 @Go.Fam.killL.eq_2))))) (And.intro (And.intro (And.intro (And.intro @Go.Fam.putBs.eq_1 @Go.Fam.putBs.eq_2) (And.intro @Go.Fam.optL.eq_1 (And.intro @Go.Fam.optL.eq_2 @Go.Fam.upTo.eq_1))) (And.intro (And.intro @Go.Fam.upTo.eq_2 (And.intro @Go.Fam.rids.eq_1 @Go.Fam.rids.eq_2)) (And.intro @Go.Fam.rids.eq_3 (And.intro @Go.Fam.rids.eq_4 @Go.Fam.rids.eq_5)))) (And.intro (And.intro (And.intro @Go.Fam.rids.eq_6 @Go.Fam.rids.eq_7) (And.intro @Go.Fam.rids.eq_8 (And.intro @Go.Fam.ridsL.eq_1 @Go.Fam.ridsL.eq_2))) (And.intro (And.intro @Go.Fam.leafB.eq_1 (And.intro @Go.Fam.killB.eq_1 @Go.Fam.kill1.eq_1)) (And.intro @Go.Fam.kill1.eq_2 (And.intro @Go.Fam.kill1.eq_3 (@List.foldl_cons.{0, 0})))))))) (And.intro (And.intro (And.intro (And.intro (And.intro (And.intro (@List.foldl_nil.{0, 0}) @Go.Fam.rflat.eq_1) (And.intro @Go.Fam.rflat.eq_2 (And.intro @Go.Fam.rflat.eq_3 @Go.Fam.rflat.eq_4))) (And.intro (And.intro @Go.Fam.rflat.eq_5 (And.intro @Go.Fam.rflat.eq_6 @Go.Fam.rflat.eq_7)) (And.intro @Go.Fam.rflat.eq_8 (And.intro @Go.Fam.rflat.eq_9 @Go.Fam.rflat.eq_10)))) (And.intro (And.intro (And.intro @Go.Fam.rflat.eq_11 @Go.Fam.rflat.eq_12) (And.intro @Go.Fam.rflatL.eq_1 (And.intro @Go.Fam.rflatL.eq_2 @Go.Fam.rflatB.eq_1))) (And.intro (And.intro @Go.Fam.rflatB.eq_2 (And.intro @Go.Fam.rflatB.eq_3 @Go.Fam.shV.eq_1)) (And.intro @Go.Fam.shV.eq_2 (And.intro @Go.Fam.shV.eq_3 @Go.Fam.shV.eq_4))))) (And.intro (And.intro (And.intro (And.intro @Go.Fam.shV.eq_5 @Go.Fam.shV.eq_6) (And.intro @Go.Fam.shV.eq_7 (And.intro @Go.Fam.shV.eq_8 @Go.Fam.shV.eq_9))) (And.intro (And.intro @Go.Fam.shL.eq_1 (And.intro @Go.Fam.shL.eq_2 @Go.Fam.shB.eq_1)) (And.intro @Go.Fam.shB.eq_2 (And.intro @Go.Fam.shB.eq_3 @Go.Fam.shB.eq_4)))) (And.intro (And.intro (And.intro @Go.Fam.vB_cells @Go.Fam.vB_map) (And.intro @Go.Fam.swH.eq_1 (And.intro @Go.Fam.sw.eq_1 @Go.Fam.renV.eq_1))) (And.intro (And.intro @Go.Fam.renV.eq_2 (And.intro @Go.Fam.renV.eq_3 @Go.Fam.renV.eq_4)) (And.intro @Go.Fam.renV.eq_5 (And.intro @Go.Fam.renV.eq_6 @Go.Fam.renV.eq_7)))))) (And.intro (And.intro (And.intro (And.intro (And.intro @Go.Fam.renV.eq_8 @Go.Fam.renV.eq_9) (And.intro @Go.Fam.renL.eq_1 (And.intro @Go.Fam.renL.eq_2 @Go.Fam.renB.eq_1))) (And.intro (And.intro @Go.Fam.renB.eq_2 (And.intro @Go.Fam.renB.eq_3 @Go.Fam.renB.eq_4)) (And.intro @lkpV_mp (And.intro @lkpV_pm @Go.Fam.keyL.eq_1)))) (And.intro (And.intro (And.intro @Go.Fam.keyL.eq_2 @Go.Fam.keyL.eq_3) (And.intro @Go.Fam.entV.eq_1 (And.intro @Go.Fam.entV.eq_2 @Go.Fam.mlenV.eq_1))) (And.intro (And.intro @Go.Fam.mlenV.eq_2 (And.intro @Go.Fam.keyV.eq_1 @Go.Fam.keyFits.eq_1)) (And.intro @Go.Fam.endO.eq_1 (And.intro @Go.Fam.endO.eq_2 @Go.Fam.endO.eq_3))))) (And.intro (And.intro (And.intro (And.intro @Go.Fam.endK.eq_1 @Go.Fam.endK.eq_2) (And.intro @Go.Fam.endK.eq_3 (And.intro @Go.Fam.endI.eq_1 @Go.Fam.endI.eq_2))) (And.intro (And.intro @Go.Fam.endI.eq_3 (And.intro @Go.Fam.run_nil @Go.Fam.step_q)) (And.intro @Go.Fam.runX.eq_1 (And.intro @Go.Fam.runX.eq_2 @Go.Fam.eff_q)))) (And.intro (And.intro (And.intro @Go.Fam.fpQ.eq_1 @Go.Fam.fpQ.eq_2) (And.intro @Go.Fam.fpQ.eq_3 (And.intro @Go.Fam.fpQ.eq_4 @Go.Fam.fpQ.eq_5))) (And.intro (And.intro @Go.Fam.fpQ.eq_6 (And.intro @Go.Fam.fpQ.eq_7 @Go.Fam.fpQ.eq_8)) (And.intro @Go.Fam.fpQ.eq_9 (And.intro @Go.Fam.fpQ.eq_10 @Go.Fam.fpQ.eq_11)))))))) (And.intro (And.intro (And.intro (And.intro (And.intro (And.intro (And.intro @Go.Fam.fpQ.eq_12 @Go.Fam.fpQ.eq_13) (And.intro @Go.Fam.fpQ.eq_14 (And.intro @Go.Fam.fpV.eq_1 @Go.Fam.fpV.eq_2))) (And.intro (And.intro @Go.Fam.fpV.eq_3 (And.intro @Go.Fam.fpV.eq_4 @Go.Fam.newsV.eq_1)) (And.intro @Go.Fam.newsV.eq_2 (And.intro @Go.Fam.newsV.eq_3 @Go.Fam.newsV.eq_4)))) (And.intro (And.intro (And.intro @Go.Fam.pickV_t @Go.Fam.pickV_f) (And.intro @Go.Fam.binW.eq_1 (And.intro @Go.Fam.binW.eq_2 @Go.Fam.binW.eq_3))) (And.intro (And.intro @Go.Fam.binW.eq_4 (And.intro @Go.Fam.binW.eq_5 @Go.Fam.binW.eq_6)) (And.intro @Go.Fam.binW.eq_7 (And.intro @Go.Fam.binW.eq_8 @Go.Fam.binW.eq_9))))) (And.intro (And.intro (And.intro (And.intro @Go.Fam.binW.eq_10 @Go.Fam.binW.eq_11) (And.intro @Go.Fam.binW.eq_12 (And.intro @Go.Fam.binW.eq_13 @Go.Fam.binW.eq_14))) (And.intro (And.intro @Go.Fam.slcV.eq_1 (And.intro @Go.Fam.slcV.eq_2 @Go.Fam.slcV.eq_3)) (And.intro @Go.Fam.slxV.eq_1 (And.intro @Go.Fam.slxV.eq_2 @Go.Fam.slxV.eq_3)))) (And.intro (And.intro (And.intro @Go.Fam.intOr.eq_1 @Go.Fam.intOr.eq_2) (And.intro @Go.Fam.intOr.eq_3 (And.intro @Go.Fam.foldParts.eq_1 @Go.Fam.foldParts.eq_2))) (And.intro (And.intro @Go.Fam.partsOk.eq_1 (And.intro @Go.Fam.partsOk.eq_2 @Go.Fam.partsOne.eq_1)) (And.intro @Go.Fam.partsOne.eq_2 (And.intro @Go.Fam.cellOk.eq_1 @Go.Fam.cellOk.eq_2)))))) (And.intro (And.intro (And.intro (And.intro (And.intro @Go.Fam.cellOk.eq_3 @Go.Fam.cellOk.eq_4) (And.intro @Go.Fam.cellOk.eq_5 (And.intro @Go.Fam.intsOf.eq_1 @Go.Fam.intsOf.eq_2))) (And.intro (And.intro @Go.Fam.intsOf.eq_3 (And.intro @Go.Fam.hasRef.eq_1 @Go.Fam.hasRef.eq_2)) (And.intro @Go.Fam.hasRef.eq_3 (And.intro @Go.Fam.hasRef.eq_4 @Go.Fam.hasRef.eq_5)))) (And.intro (And.intro (And.intro @Go.Fam.hasRef.eq_6 @Go.Fam.hasRef.eq_7) (And.intro @Go.Fam.hasRef.eq_8 (And.intro @Go.Fam.hasRef.eq_9 @Go.Fam.hasRefL.eq_1))) (And.intro (And.intro @Go.Fam.hasRefL.eq_2 (And.intro @Go.Fam.flat.eq_1 @Go.Fam.flat.eq_2)) (And.intro @Go.Fam.flat.eq_3 (And.intro @Go.Fam.flat.eq_4 @Go.Fam.flat.eq_5))))) (And.intro (And.intro (And.intro (And.intro @Go.Fam.flat.eq_6 @Go.Fam.flat.eq_7) (And.intro @Go.Fam.flat.eq_8 (And.intro @Go.Fam.flatL.eq_1 @Go.Fam.flatL.eq_2))) (And.intro (And.intro @Go.Fam.cutV.eq_1 (And.intro @Go.Fam.cutV.eq_2 @Go.Fam.cutV.eq_3)) (And.intro @Go.Fam.cutV.eq_4 (And.intro @Go.Fam.cutV.eq_5 @Go.Fam.cutV.eq_6)))) (And.intro (And.intro (And.intro @Go.Fam.cutV.eq_7 @Go.Fam.cutV.eq_8) (And.intro @Go.Fam.cutV.eq_9 (And.intro @Go.Fam.cutL.eq_1 @Go.Fam.cutL.eq_2))) (And.intro (And.intro @Go.Fam.cutB.eq_1 (And.intro @Go.Fam.cutB.eq_2 @Go.Fam.cutB.eq_3)) (And.intro @Go.Fam.cutB.eq_4 (And.intro @Int.add_sub_cancel @Int.toNat_zero))))))) (And.intro (And.intro (And.intro (And.intro (And.intro (And.intro (@List.map_cons.{0, 0}) (@List.map_nil.{0, 0})) (And.intro @List.all_cons.{0} (And.intro @List.all_nil.{0} @List.length_cons.{0}))) (And.intro (And.intro @List.length_nil.{0} (And.intro @List.drop_succ_cons.{0} @List.drop_zero.{0})) (And.intro @List.drop_nil.{0} (And.intro @List.take_succ_cons.{0} @List.take_zero.{0})))) (And.intro (And.intro (And.intro @List.take_nil.{0} @List.headD_cons.{0}) (And.intro @List.headD_nil.{0} (And.intro @List.cons_append.{0} @List.nil_append.{0}))) (And.intro (And.intro @List.append_nil.{0} (And.intro @List.getElem?_cons_zero.{0} @List.getElem?_cons_succ.{0})) (And.intro @List.getElem?_nil.{0} (And.intro @Option.getD_some.{0} @Option.getD_none.{0}))))) (And.intro (And.intro (And.intro (And.intro @List.set_cons_zero.{0} @List.set_cons_succ.{0}) (And.intro @List.set_nil.{0} (And.intro @List.replicate_zero.{0} @List.replicate_succ.{0}))) (And.intro (And.intro @List.getD_cons_zero.{0} (And.intro @List.getD_cons_succ.{0} @List.isEmpty_nil.{0})) (And.intro @List.isEmpty_cons.{0} (And.intro @Go.Fam.rvs.eq_1 @Go.Fam.rvs.eq_2)))) (And.intro (And.intro (And.intro @Go.Fam.vw_u @Go.Fam.vw_pn) (And.intro @Go.Fam.vw_z (And.intro @Go.Fam.vw_tp @Go.Fam.vw_ad))) (And.intro (And.intro @Go.Fam.vw_rf (And.intro @Go.Fam.zipA.eq_1 @Go.Fam.zipA.eq_2)) (And.intro @Int.lt_irrefl (And.intro @beq_self_eq_true.{0} @Option.some.injEq.{0})))))) (And.intro (And.intro (And.intro (And.intro (And.intro @Go.Fam.V.i.injEq @Go.Fam.V.b.injEq) (And.intro @Bool.true_and (And.intro @Bool.and_false @Bool.false_or))) (And.intro (And.intro @Bool.or_true (And.intro @Bool.true_or @Bool.false_eq_true)) (And.intro @Bool.true_eq_false (And.intro @decide_eq_true_eq @decide_eq_false_iff_not)))) (And.intro (And.intro (And.intro @and_false @forall_const.{0}) (And.intro @forall_const.{1} (And.intro @true_implies @implies_true.{0}))) (And.intro (And.intro @implies_true.{1} (And.intro @ite_true.{1} @ite_false.{1})) (And.intro @not_true_eq_false (And.intro @not_false_eq_true @ne_eq.{1}))))) (And.intro (And.intro (And.intro (And.intro (@Option.map_some.{0, 0}) (@Option.map_none.{0, 0})) (And.intro @List.any_cons.{0} (And.intro @List.any_nil.{0} @List.contains_cons.{0}))) (And.intro (And.intro @List.contains_nil.{0} (And.intro @Bool.not_not @Bool.not_eq_false')) (And.intro @Bool.not_eq_true' (And.intro @Go.Fam.ite_f @Go.Fam.ite_t)))) (And.intro (And.intro (And.intro @Bool.decide_eq_true @Bool.decide_eq_false) (And.intro @Bool.xor_self (And.intro @imp_self (@List.length_map.{0, 0})))) (And.intro (And.intro @List.getD_eq_getElem?_getD.{0} (And.intro (@List.getElem?_map.{0, 0}) @Bool.not_eq_true)) (And.intro @Bool.not_eq_false (And.intro @Classical.not_not @List.length_replicate.{0})))))))))
def BU3 := And.intro @cut_lkp @ren_lkp
end Go.Fam
