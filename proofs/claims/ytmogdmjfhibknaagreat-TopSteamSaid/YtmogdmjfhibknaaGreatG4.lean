import Derived.Test.YtmogdmjfhibknaaGreatG3
import Derived.ProofKit
import Derived.OpenShut
import Derived.Laws.StructEq
import Derived.Shelf.Sort.Plain
import Derived.Shelf.Slices.CompactI
set_option linter.all false
open List renaming map_cons → Qa, getElem?_eq_getElem → Qb, nodup_cons → Qd, getElem?_map → Qg, take_append_drop → Qh, getElem?_eq_none → Qi, mem_cons → Qj, drop_eq_nil_iff → Qk, find?_cons → Ql, map_congr_left → Qm, getElem?_take → Qn, ext_getElem? → Qp, idxOf_lt_length_iff → Qq, mem_append → Qt, mapM_cons → Qu, drop_drop → Qv, idxOf_eq_length → Qw, mem_of_getElem? → Qx, take_succ_cons → Qy, length_append → Qz, count_eq_zero → Q0, length_cons → Q2, length_map → Q5, idxOf_cons → Q7, nodup_nil → Q8
open Nat renaming lt_of_lt_of_le → Qe, zero_le → Qo, not_lt_zero → Qs, sub_zero → Q1, le_refl → Q4
open Bool renaming false_eq_true → Qc
open Option renaming bind_eq_some_iff → Qf, map_eq_some_iff → Qr, some → Q3, map_some → Q6
namespace Go.Fam
inductive RV where
 | t (n : Nat) | c (a : Nat) (ag : Bool) (n : Nat)
def rv1 (hp : List Blk) (fr : Nat → V) : RV → Prop × V
 | .t n => (True, fr n)
 | .c a ag n => ldV hp ag n (fr a)
def rvs (hp : List Blk) (fr : Nat → V) : List RV → Prop
 | [] => True
 | r :: l => (rv1 hp fr r).1 ∧ rvs hp fr l
def resV (hp : List Blk) (fr : Nat → V) : List RV → V
 | [r] => (rv1 hp fr r).2
 | l => .tp (l.map fun r => (rv1 hp fr r).2)
def Qqt (P : Program) : ResultVar → Option RV
 | .tmp t => some (.t t)
 | .cell a t => (ldB P t).map (.c a (Qce P t))
def Qip (P : Program) (l : List ResultVar) : Option (List RV) := l.mapM (Qqt P)
def endQ (rs : List RV) (r : V) : Exit → St → Prop
 | .normal, σ | .ret, σ => rvs σ.hp σ.fr rs ∧ vw σ.hp 8 (resV σ.hp σ.fr rs) = r
 | _, _ => False
section
variable {P : Program} {F : Fence} {n : Nat} {Γ : Gam} {N : FrI} {pu : List Nat}
def Qqs (tmps : Array Value) : ResultVar → Sem Value
 | .tmp t => pure (tmps.getD t undef)
 | .cell a t => do loadVar t (← asAddr (tmps.getD a undef))
theorem Qrl (fn : Func) (tmps : Array Value) : results fn tmps = (do let vs ← fn.results.mapM (Qqs tmps); pure (if h : vs.size = 1 then vs[0] else .tuple vs)) := by
 unfold results
 rfl
theorem Zb5 {S : Nat → Prop} {w : World} {O : OInfo} {σ : St} {a : Act} (hsr : SR N S w O σ a) {x : ResultVar} {r : RV} (hr : Qqt P x = some r) (hok : (rv1 σ.hp σ.fr r).1) :
  ∃ c, (Qqs a.tmps x).run P w = .ok c w ∧ Rep S w O (rv1 σ.hp σ.fr r).2 c := by
 cases x with
 | tmp t =>
  simp only [Qqt, Q3.injEq] at hr
  subst hr
  exact ⟨_, rfl, hsr.fr t⟩
 | cell t ty =>
  simp only [Qqt, Qr] at hr
  obtain ⟨k, hk, rfl⟩ := hr
  simp only [rv1] at hok ⊢
  obtain ⟨c, hrun, hrep⟩ := Qyj hk hsr.mat (hsr.fr t) hok
  refine ⟨c, ?_, hrep⟩
  have hp : ∃ ad, a.tmps.getD t undef = .pointer (some ad) := by
   have h1 := hsr.fr t
   cases hv : σ.fr t <;> rw [hv] at hok h1 <;> first | (simp [ldV] at hok; done) | skip
   case pa cs =>
    simp only [Rep] at h1
    obtain ⟨blk, off, cur, e, fr, h2, _⟩ := h1
    exact ⟨_, h2⟩
   case ad id g off =>
    simp only [ldV] at hok
    split at hok
    ·rename_i g' vs hid
     simp only [Rep] at h1
     obtain ⟨_, gO, ob, hO, hle, h2⟩ := h1
     have hb := hsr.mat.blk id gO ob hO
     rw [hid] at hb
     simp only [Qbb] at hb
     have e : g = gO := hok.1.symm.trans hb.1
     obtain ⟨b, _, h3⟩ := h2 e
     exact ⟨_, h3⟩
    ·exact hok.elim
  obtain ⟨ad, had⟩ := hp
  rw [had] at hrun
  simp only [Qqs, had, asAddr, Sem.run_bind, Sem.run_pure, Result.andThen_ok]
  simpa [Instr.loadAt, Instr.sureAddr] using hrun
theorem Qua {S : Nat → Prop} {w : World} {O : OInfo} {σ : St} {a : Act} (hsr : SR N S w O σ a) : ∀ (xs : List ResultVar) (rs : List RV), Qip P xs = some rs → rvs σ.hp σ.fr rs →
  ∃ cs, (xs.mapM (Qqs a.tmps)).run P w = .ok cs w ∧ cs.length = rs.length ∧ RepL S w O (rs.map fun r => (rv1 σ.hp σ.fr r).2) cs
 | [], rs, h, _ => by
  simp [Qip] at h
  subst h
  exact ⟨[], rfl, rfl, by simp [RepL]⟩
 | x :: xs, rs, h, hok => by
  simp only [Qip, Qu, Option.bind_eq_bind, Qf, Option.pure_def, Q3.injEq] at h
  obtain ⟨r, hr, rs', hrs, rfl⟩ := h
  obtain ⟨h1, h2⟩ := hok
  obtain ⟨c, hc, hrep⟩ := Zb5 hsr hr h1
  obtain ⟨cs, hcs, hl, hreps⟩ := Qua hsr xs rs' hrs h2
  refine ⟨c :: cs, ?_, by simp [hl], by simp only [Qa, RepL]; exact ⟨hrep, hreps⟩⟩
  rw [Qu]
  simp only [Sem.run_bind, hc, Result.andThen_ok, hcs, Sem.run_pure]
theorem Qh5 {S : Nat → Prop} {w : World} {O : OInfo} {σ : St} {a : Act} (hsr : SR N S w O σ a) {fn : Func} {rs : List RV} (hr : Qip P fn.results.toList = some rs) (hok : rvs σ.hp σ.fr rs) :
  ∃ c, (results fn a.tmps).run P w = .ok c w ∧ Rep S w O (resV σ.hp σ.fr rs) c := by
 obtain ⟨cs, hcs, hl, hrep⟩ := Qua hsr _ _ hr hok
 rw [Qrl, Array.mapM_eq_mapM_toList]
 simp only [Sem.run_bind, map_eq_pure_bind, hcs, Result.andThen_ok, Sem.run_pure]
 refine ⟨_, rfl, ?_⟩
 match rs, cs, hl, hrep with
 | [], [], _, _ => simp [resV, Rep, RepL]
 | [r], [c], _, h => simpa [resV, RepL] using h
 | r :: r' :: rs, c :: c' :: cs, hl, h =>
  simp only [resV, Rep]
  exact ⟨(c :: c' :: cs).toArray, by simp, by simpa using hl, by simpa using h⟩
def zipA : Nat → List V → List (Nat × V)
 | _, [] => []
 | k, v :: vs => (k, v) :: zipA (k + 1) vs
theorem Qje : ∀ (vs : List V) (k t : Nat), lkp (zipA k vs) t = if k ≤ t then (vs[t - k]?).getD .u else .u
 | [], k, t => by simp [zipA, lkp]
 | v :: vs, k, t => by
  simp only [zipA, lkp]
  split
  ·rename_i e; subst e; simp
  ·rename_i hne
   rw [Qje vs (k + 1) t]
   by_cases h : k ≤ t
   ·have h1 : k + 1 ≤ t := by omega
    rw [if_pos h, if_pos h1]
    have : t - k = (t - (k + 1)) + 1 := by omega
    rw [this]; simp
   ·rw [if_neg h, if_neg (by omega)]
theorem Qnx {S0 S : Nat → Prop} {w0 w : World} {O : OInfo} (h : Evol S0 S w0 w noO O) {L : Nat} {o o' : Obj} (hb : w.heap[L]? = some o) (hc : o.isCells = false) (hc' : o'.isCells = false) (hS : ¬ S L) (hL : w0.heap.size ≤ L) :
  Evol S0 S w0 (w.putObj L o') noO O := by
 have hoth : ∀ k, k ≠ L → (w.putObj L o').heap[k]? = w.heap[k]? := fun k hk => World.putObj_heap_other hk
 have hnew : (w.putObj L o').heap[L]? = some o' := World.putObj_heap_same (Array.getElem?_eq_some_iff.1 hb).1
 refine ⟨⟨fun k hk => ⟨(h.ext.keep k hk).1, ?_⟩, fun _ _ _ h => (by cases h)⟩, h.os, h.tape, h.output, by simpa using h.size, fun a ha => ?_, fun k hk hno => ?_, h.fresh, h.grow⟩
 ·rw [hoth k (by rintro rfl; exact hS (h.ext.keep k hk).1)]; exact (h.ext.keep k hk).2
 ·refine Eq.trans ?_ (h.fz a ha)
  by_cases e : a.block = L
  ·simp only [World.frozen?, e, hnew, hb]
   cases o <;> cases o' <;> first | rfl | (simp [Obj.isCells] at hc; done) | (simp [Obj.isCells] at hc'; done)
  ·simp only [World.frozen?, hoth _ e]
 ·rw [hoth k (by omega)]; exact h.old k hk hno
def Cn (S0 : Nat → Prop) (w0 : World) : Ctx := fun S w O ds _ => Evol S0 S w0 w noO O ∧ ∃ Ds : List Nat, ds = Ds.map col ∧ Ds.Nodup ∧ ∀ D ∈ Ds, w.heap[D]? = some (.deferred (some [])) ∧ ¬ S D ∧ ¬ Own O D ∧ w0.heap.size ≤ D
theorem Zh0 {M : FrI} {S0 : Nat → Prop} {w0 : World} (hro : F.round = none) : CtxOk P F n M (Cn S0 w0) 0 1 w0.heap.size := by
 refine ⟨?_, ?_, fun _ => hro, fun _ _ _ _ _ _ h => h.1.size, ?_, ?_, ?_, fun h => (by cases h), fun h => (by cases h), fun h => (by cases h)⟩
 ·rintro S S' w w' O O' ds h h' ⟨h1, Ds, h2, h3, h4⟩ hlt ev _
  refine ⟨h1.trans ev, Ds, h2, h3, fun D hD => ?_⟩
  obtain ⟨a1, a2, a3, a4⟩ := h4 D hD
  have hDlt := (Array.getElem?_eq_some_iff.1 a1).1
  refine ⟨(ev.old D hDlt a3).trans a1, fun hS => ?_, fun hO => ?_, a4⟩
  ·rcases ev.grow D hS with h | h | h
   ·exact a2 h
   ·exact a3 h
   ·omega
  ·rcases ev.fresh D hO with h | h
   ·exact a3 h
   ·omega
 ·rintro S w O ds h h' k ⟨h1, Ds, h2, h3, h4⟩ _ _
  refine ⟨h1.cut k, Ds, h2, h3, fun D hD => ?_⟩
  obtain ⟨a1, a2, a3, a4⟩ := h4 D hD
  refine ⟨a1, ?_, fun ⟨id, g, ho⟩ => a3 ⟨id, g, (Qbe ho).2⟩, a4⟩
  rintro (h | ⟨id, g, ho⟩)
  ·exact a2 h
  ·exact a3 ⟨id, g, (Qbi ho).2⟩
 ·rintro _ S w O ds h L r r' ⟨h1, Ds, h2, h3, h4⟩ hL hS hO hb
  refine ⟨Qnx h1 hL rfl rfl hS hb, Ds, h2, h3, fun D hD => ?_⟩
  obtain ⟨a1, a2, a3, a4⟩ := h4 D hD
  refine ⟨?_, a2, a3, a4⟩
  rw [World.putObj_heap_other (by rintro rfl; rw [hL] at a1; cases a1)]
  exact a1
 ·rintro _ S w O ds h r ⟨h1, Ds, h2, h3, h4⟩ hS hO
  have hl : Later w ((w.alloc (.deferred (some []))).alloc (.loop r)) := (Qcw w _ rfl).trans (Qcw _ _ rfl)
  refine ⟨h1.trans (hl.evol hS hO), w.heap.size :: Ds, by rw [h2]; rfl, Qd.2 ⟨fun hD => ?_, h3⟩, fun D hD => ?_⟩
  ·have := (Array.getElem?_eq_some_iff.1 (h4 _ hD).1).1; omega
  ·rcases Qj.1 hD with rfl | hD
   ·refine ⟨?_, fun h => ?_, fun h => ?_, h1.size⟩
    ·exact (heap_alloc_old _ _ (by simp)).trans (World.alloc_heap_new w _)
    ·have := hS _ h; omega
    ·have := hO _ h; omega
   ·obtain ⟨a1, a2, a3, a4⟩ := h4 D hD
    exact ⟨(hl.old D (Array.getElem?_eq_some_iff.1 a1).1).trans a1, a2, a3, a4⟩
 ·rintro _ _ S w O O' ds h h' ⟨h1, Ds, h2, h3, h4⟩ hO
  exact ⟨h1.less hO, Ds, h2, h3, fun D hD => ⟨(h4 D hD).1, (h4 D hD).2.1, fun h => (h4 D hD).2.2.1 (hO D h), (h4 D hD).2.2.2⟩⟩
theorem Qkf {M : FrI} {fn : Func} {rs : List RV} (hr : Qip P fn.results.toList = some rs) {S0 S : Nat → Prop} {w0 : World} {O : OInfo} {σ : St} {a : Act} (hok : rvs σ.hp σ.fr rs) {R : Ending → World → Prop}
  (hR : ∀ w' c, Evol S0 S w0 w' noO O → Mat S w' O σ.hp → Rep S w' O (resV σ.hp σ.fr rs) c → R (.returned c) w') :
  ∀ (Ds : List Nat) (w : World), Ds.Nodup → (∀ D ∈ Ds, w.heap[D]? = some (.deferred (some [])) ∧ ¬ S D ∧ ¬ Own O D ∧ w0.heap.size ≤ D) → Evol S0 S w0 w noO O → SR M S w O σ a → LeavesInM F n P fn a.tmps R (Ds.map col) .returning w
 | [], w, _, _, hev, hsr => by
  obtain ⟨c, hrun, hrp⟩ := Qh5 hsr hr hok
  exact ⟨c, hrun, hR w c hev hsr.mat hrp⟩
 | D :: Ds, w, hnd, hD, hev, hsr => by
  obtain ⟨hn1, hn2⟩ := Qd.1 hnd
  obtain ⟨a1, a2, a3, a4⟩ := hD D (by simp)
  refine ⟨by simp, .inl ⟨D, _, rfl, run_takeDeferred a1, ?_⟩⟩
  refine Qkf hr hok hR Ds _ hn2 (fun D' hD' => ?_) (Qnx hev a1 rfl rfl a2 a4) (Qg3 hsr _ a2 a3)
  obtain ⟨b1, b2⟩ := hD D' (by simp [hD'])
  exact ⟨(World.putObj_heap_other (by rintro rfl; exact hn1 hD')).trans b1, b2⟩
theorem Qxo {S : Nat → Prop} {w : World} {args : List V} {cargs : Array Value} {nt : Nat} (hsz : cargs.size = args.length) (hn : args.length ≤ nt) (hrep : RepL S w noO args cargs.toList) :
  (cargs ++ Array.replicate (nt - cargs.size) undef).size = nt ∧ FrM S w noO (lkp (zipA 0 args)) { tmps := cargs ++ Array.replicate (nt - cargs.size) undef, defers := [] } ∧
   ∀ t, t < cargs.size → (cargs ++ Array.replicate (nt - cargs.size) undef).getD t undef = cargs.getD t undef := by
 have hlo : ∀ t, t < cargs.size → (cargs ++ Array.replicate (nt - cargs.size) undef).getD t undef = cargs.getD t undef := by
  intro t ht
  simp [Array.getElem?_append, ht]
 refine ⟨by simp; omega, fun t => ?_, hlo⟩
 show Rep S w noO (lkp (zipA 0 args) t) _
 rw [Qje, if_pos (Qo _), Q1]
 cases ht : args[t]? with
 | none => simp [Rep]
 | some v =>
  obtain ⟨cv, hcv, hv⟩ := RepL.get _ _ t v hrep ht
  have hlt : t < cargs.size := by have := Qaf hcv; simpa using this
  show Rep S w noO v ((cargs ++ Array.replicate (nt - cargs.size) undef).getD t undef)
  rw [hlo t hlt]
  have : cargs.getD t undef = cv := by
   rw [Array.getElem?_toList] at hcv
   have h2 := (Array.getElem?_eq_some_iff.1 hcv).2
   simp [hlt, h2]
  rw [this]
  exact hv
def endK (rs : List RV) (K : St → Prop) : Exit → St → Prop
 | .normal, σ | .ret, σ => rvs σ.hp σ.fr rs ∧ K σ
 | _, _ => False
theorem Qlj (hG : GOk P Γ) (hm : P.follows .mixedOrders = true) {f : FuncId} {fn : Func} {c : Code} {rc : RC} {rs : List RV} (hf : P.funcs[f]? = some fn) (hb : fn.body = some c)
  (hc : comp P pu (fn.ntmps, 0) 0 1 rc c = some rc) (hr : Qip P fn.results.toList = some rs) {args : List V} (hn : args.length ≤ fn.ntmps) {K : St → Prop}
  (h : wpR Γ (Qb1 P) rc (endK rs K) ⟨lkp (zipA 0 args), []⟩) {S : Nat → Prop} {w : World} {cargs : Array Value} (hS : ∀ n, S n → n < w.heap.size) (hsz : cargs.size = args.length) (hrep : RepL S w noO args cargs.toList) {R : Ending → World → Prop}
  (hR : ∀ σ S' O' w' c, K σ → Evol S S' w w' noO O' → Mat S' w' O' σ.hp → Rep S' w' O' (resV σ.hp σ.fr rs) c → R (.returned c) w') : Calls P f cargs w R := by
 refine Qgf.calls (n := 0) (callsIn_of_wp_marks hf hb trivial ?_)
 obtain ⟨h1, h2, h3⟩ := Qxo hsz hn hrep
 obtain ⟨M, hM⟩ : ∃ M : FrI, M = ⟨fn.ntmps, 0, fun _ => undef, fun _ => False⟩ := ⟨_, rfl⟩
 have hnm : M.nm = (fn.ntmps, 0) := by rw [hM]; rfl
 have hat : At (Cn S w) M S w noO ⟨lkp (zipA 0 args), []⟩ { tmps := cargs ++ Array.replicate (fn.ntmps - cargs.size) undef, defers := [] } := by
  refine ⟨⟨Evol.refl _ _ _, [], rfl, Q8, fun _ h => by cases h⟩, ⟨by rw [hM]; exact h1, fun t ht => by rw [hM] at ht; exact absurd ht (Qs _), h2, ⟨hS, fun _ _ _ h => (by cases h), fun _ _ _ _ _ h => (by cases h), fun _ _ _ h => (by cases h)⟩⟩⟩
 refine Ql6 hG hm (M := M) (by rw [hM]; exact fun _ h => h.elim) rc c rc _ 0 0 1 Qgf (by rw [hnm]; exact hc) (Cn S w) w.heap.size (Zh0 rfl) _ _ _ S w noO _ h hat ?_
 intro e σ' S' w' O' a' he hat'
 have fin : (rvs σ'.hp σ'.fr rs ∧ K σ') → LeavesInM Fence.wide 0 P fn a'.tmps R a'.defers .returning w' := by
  rintro ⟨k1, k2⟩
  obtain ⟨ev, Ds, e1, e2, e3⟩ := hat'.ctx
  rw [e1]
  exact Qkf hr k1 (fun w2 c hev hmat hrp => hR σ' S' O' w2 c k2 hev hmat hrp) Ds w' e2 e3 ev hat'.sr
 cases e <;> first | exact fin he | exact he.elim
theorem Qa4 (hG : GOk P Γ) (hm : P.follows .mixedOrders = true) {f : FuncId} {fn : Func} {c : Code} {rc : RC} {rs : List RV} (hf : P.funcs[f]? = some fn) (hb : fn.body = some c)
  (hc : comp P pu (fn.ntmps, 0) 0 1 rc c = some rc) (hr : Qip P fn.results.toList = some rs) {args : List V} {r : V} (hn : args.length ≤ fn.ntmps)
  (h : wpR Γ (Qb1 P) rc (endQ rs r) ⟨lkp (zipA 0 args), []⟩) : Qa5 P f args r := by
 intro S w cargs hS hsz hrep
 have he : endQ rs r = endK rs fun σ => vw σ.hp 8 (resV σ.hp σ.fr rs) = r := by
  funext e σ; cases e <;> rfl
 rw [he] at h
 refine Qlj hG hm hf hb hc hr hn h hS hsz hrep ?_
 intro σ' S' O' w' cv h2 hev hmat hrp
 refine ⟨cv, rfl, ?_, ?_⟩
 ·exact ⟨⟨fun k hk => ⟨.inl hk, (hev.ext.keep k hk).2⟩, fun _ _ _ h => by cases h⟩, hev.os, hev.tape, hev.output, hev.size, hev.fz, hev.old, fun k ⟨_, _, h⟩ => (by cases h), fun k hk => hk.imp id fun h => .inr h.1⟩
 ·have h3 := Ql5 hmat 8 _ _ hrp
  rw [h2] at h3
  refine Rep.ext ⟨fun k hk => ⟨?_, rfl⟩, fun _ _ _ h => by cases h⟩ _ _ h3
  rcases hk with hk | ⟨id, g, ho⟩
  ·rcases hev.grow k hk with h4 | h4 | h4
   ·exact .inl h4
   ·obtain ⟨_, _, h4⟩ := h4; cases h4
   ·exact .inr ⟨h4, hmat.lt k hk⟩
  ·rcases hev.fresh k ⟨id, g, ho⟩ with h4 | h4
   ·obtain ⟨_, _, h4⟩ := h4; cases h4
   ·exact .inr ⟨h4, (hmat.own id g k ho).1⟩
def endO (rs : List RV) (r : V) (hp : List Blk) : Exit → St → Prop
 | .normal, σ | .ret, σ => rvs σ.hp σ.fr rs ∧ resV σ.hp σ.fr rs = r ∧ σ.hp = hp
 | _, _ => False
theorem Qhp (hG : GOk P Γ) (hm : P.follows .mixedOrders = true) {f : FuncId} {fn : Func} {c : Code} {rc : RC} {rs : List RV} (hf : P.funcs[f]? = some fn) (hb : fn.body = some c)
  (hc : comp P pu (fn.ntmps, 0) 0 1 rc c = some rc) (hr : Qip P fn.results.toList = some rs) {args : List V} {r : V} {hp : List Blk} (hn : args.length ≤ fn.ntmps)
  (h : wpR Γ (Qb1 P) rc (endO rs r hp) ⟨lkp (zipA 0 args), []⟩) : Qdb P f args r hp := by
 intro S w cargs hS hsz hrep
 have he : endO rs r hp = endK rs fun σ => resV σ.hp σ.fr rs = r ∧ σ.hp = hp := by
  funext e σ; cases e <;> rfl
 rw [he] at h
 refine Qlj hG hm hf hb hc hr hn h hS hsz hrep ?_
 rintro σ' S' O' w' cv ⟨h2, h3⟩ hev hmat hrp
 rw [h2] at hrp
 rw [h3] at hmat
 exact ⟨cv, S', O', rfl, hev, hmat, hrp⟩
def Γ0 : Gam := ⟨fun _ _ => (False, .u), fun _ _ _ => (False, fun _ _ => False), fun _ => False, fun _ _ _ _ => (False, fun _ _ => False)⟩
theorem Qzx : GOk P Γ0 := ⟨fun _ _ _ h => h.elim, fun _ _ _ _ h => h.elim, fun _ _ _ _ h => h.elim, fun _ _ _ h => h.elim, fun _ _ _ h => h.elim, fun _ _ _ _ h => h.elim⟩
def Gam.ext (Γ : Gam) (f : Nat) (r : List V → Prop × V) : Gam := ⟨fun g as0 => if g = f then r as0 else Γ g as0, Γ.h, Γ.al, Γ.y⟩
theorem Qeh {f g : Nat} {r : List V → Prop × V} {as0 : List V} (h : g ≠ f) : Γ.ext f r g as0 = Γ g as0 := if_neg h
theorem Qsj {f : Nat} {r : List V → Prop × V} {as0 : List V} : Γ.ext f r f as0 = r as0 := if_pos rfl
theorem GOk.ext (h : GOk P Γ) {f : Nat} {r : List V → Prop × V} (he : Qes P f) (hr : ∀ as0, (r as0).1 → Qa5 P f as0 (r as0).2) (hf : f < 1000000 := by decide) : GOk P (Γ.ext f r) := by
 refine ⟨fun g as0 hg6 hg => ?_, fun g as0 r' bs hg hg6 hv => ?_, fun g as0 ys hg6 hg hv => ?_, fun g as0 hg6 hg => ?_, h.heap, h.yc⟩
 ·by_cases e : g = f
  ·subst e
   rw [Qsj] at hg ⊢
   exact ⟨he, hr as0 hg⟩
  ·rw [Qeh e] at hg ⊢
   exact h.pure g as0 hg6 hg
 ·rw [Qeh (by omega)] at hg hv
  exact h.own g as0 r' bs hg hg6 hv
 ·rw [Qeh (by omega)] at hg hv
  exact h.iter g as0 ys hg6 hg hv
 ·rw [Qeh (by omega)] at hg
  have e1 : ∀ x, Γ.ext f r (4000000 + g) x = Γ (4000000 + g) x := fun x => Qeh (by omega)
  simp only [e1]
  exact h.rel g as0 hg6 hg
theorem GOk.extO (h : GOk P Γ) {f : Nat} {r : List V → Prop × V} (he : Qes P f) (hr : ∀ as0 v bs, (r as0).1 → (r as0).2 = .tp [v, .tp bs] → Qdb P f as0 v (bs.map vB)) (hf : f < 1000000 := by decide) : GOk P (Γ.ext (1000000 + f) r) := by
 refine ⟨fun g as0 hg6 hg => ?_, fun g as0 r' bs hg hg6 hv => ?_, fun g as0 ys hg6 hg hv => ?_, fun g as0 hg6 hg => ?_, h.heap, h.yc⟩
 ·rw [Qeh (by omega)] at hg ⊢
  exact h.pure g as0 hg6 hg
 ·by_cases e : g = f
  ·subst e
   rw [Qsj] at hg hv
   exact ⟨he, hr as0 r' bs hg hv⟩
  ·rw [Qeh (by omega)] at hg hv
   exact h.own g as0 r' bs hg hg6 hv
 ·rw [Qeh (by omega)] at hg hv
  exact h.iter g as0 ys hg6 hg hv
 ·rw [Qeh (by omega)] at hg
  have e1 : ∀ x, Γ.ext (1000000 + f) r (4000000 + g) x = Γ (4000000 + g) x := fun x => Qeh (by omega)
  simp only [e1]
  exact h.rel g as0 hg6 hg
theorem GOk.extI (h : GOk P Γ) {f : Nat} {r : List V → Prop × V} (he : Qes P f) (hr : ∀ as0 ys, (r as0).1 → (r as0).2 = .sl 0 ys → Qm7 P f as0 ys) (hf : f < 1000000 := by decide) : GOk P (Γ.ext (2000000 + f) r) := by
 refine ⟨fun g as0 hg6 hg => ?_, fun g as0 r' bs hg hg6 hv => ?_, fun g as0 ys hg6 hg hv => ?_, fun g as0 hg6 hg => ?_, h.heap, h.yc⟩
 ·rw [Qeh (by omega)] at hg ⊢
  exact h.pure g as0 hg6 hg
 ·rw [Qeh (by omega)] at hg hv
  exact h.own g as0 r' bs hg hg6 hv
 ·by_cases e : g = f
  ·subst e
   rw [Qsj] at hg hv
   exact ⟨he, hr as0 ys hg hv⟩
  ·rw [Qeh (by omega)] at hg hv
   exact h.iter g as0 ys hg6 hg hv
 ·rw [Qeh (by omega)] at hg
  have e1 : ∀ x, Γ.ext (2000000 + f) r (4000000 + g) x = Γ (4000000 + g) x := fun x => Qeh (by omega)
  simp only [e1]
  exact h.rel g as0 hg6 hg
def Gam.extH (Γ : Gam) (f : Nat) (t : List V → List Blk → Prop × (V → List Blk → Prop)) : Gam := ⟨Γ.f, fun g as0 hp => if g = f then t as0 hp else Γ.h g as0 hp, Γ.al, Γ.y⟩
theorem GOk.extH (h : GOk P Γ) {f : Nat} {t : List V → List Blk → Prop × (V → List Blk → Prop)} (he : Qes P f)
  (hr : ∀ as0 hp, (t as0 hp).1 → (∀ r hp', (t as0 hp).2 r hp' → ∀ y, ghO hp = some y → ghO hp' = some y) ∧ Qe8 P f as0 hp (t as0 hp).2) : GOk P (Γ.extH f t) := by
 refine ⟨h.pure, h.own, h.iter, h.rel, fun g as0 hp hg => ?_, h.yc⟩
 unfold Gam.extH at hg ⊢
 by_cases e : g = f
 ·subst e
  simp only [if_true] at hg ⊢
  exact ⟨he, hr as0 hp hg⟩
 ·simp only [if_neg e] at hg ⊢
  exact h.heap g as0 hp hg
def Gam.extY (Γ : Gam) (f : Nat) (t : (List V → Prop) → List V → List Blk → Prop × (V → List Blk → Prop)) : Gam := ⟨Γ.f, Γ.h, Γ.al, fun g al as0 hp => if g = f then t al as0 hp else Γ.y g al as0 hp⟩
theorem GOk.extY (h : GOk P Γ) {f : Nat} {t : (List V → Prop) → List V → List Blk → Prop × (V → List Blk → Prop)} (he : Qes P f) (hr : ∀ al as0 hp, (t al as0 hp).1 → Qi4 P f al as0 hp (t al as0 hp).2) : GOk P (Γ.extY f t) := by
 refine ⟨h.pure, h.own, h.iter, h.rel, h.heap, fun g al as0 hp hg => ?_⟩
 unfold Gam.extY at hg ⊢
 by_cases e : g = f
 ·subst e
  simp only [if_true] at hg ⊢
  exact ⟨he, hr al as0 hp hg⟩
 ·simp only [if_neg e] at hg ⊢
  exact h.yc g al as0 hp hg
def Gam.wal (Γ : Gam) (al : List V → Prop) : Gam := ⟨Γ.f, Γ.h, al, Γ.y⟩
theorem GOk.wal (h : GOk P Γ) (al : List V → Prop) : GOk P (Γ.wal al) := ⟨h.pure, h.own, h.iter, h.rel, h.heap, h.yc⟩
theorem Qi4.mono {f : FuncId} {al : List V → Prop} {args : List V} {hp : List Blk} {R R' : V → List Blk → Prop} (h : Qi4 P f al args hp R) (hr : ∀ r hp, R r hp → R' r hp) : Qi4 P f al args hp R' := by
 intro F n lo C S w O cargs a1 a2 a3 a4 a5 a6 a7 a8
 refine (h F n lo C S w O cargs a1 a2 a3 a4 a5 a6 a7 a8).mono ?_
 rintro e w' ⟨c, S', O', r, hp', h1, h2, h3⟩
 exact ⟨c, S', O', r, hp', h1, hr _ _ h2, h3⟩
theorem Quh {S : Nat → Prop} {w : World} {O : OInfo} {args : List V} {cargs : Array Value} {nt : Nat} (hsz : cargs.size = args.length) (hn : args.length ≤ nt) (hrep : RepL S w O args cargs.toList) :
  (cargs ++ Array.replicate (nt - cargs.size) undef).size = nt ∧ FrM S w O (lkp (zipA 0 args)) { tmps := cargs ++ Array.replicate (nt - cargs.size) undef, defers := [] } := by
 have hlo : ∀ t, t < cargs.size → (cargs ++ Array.replicate (nt - cargs.size) undef).getD t undef = cargs.getD t undef := by
  intro t ht
  simp [Array.getElem?_append, ht]
 refine ⟨by simp; omega, fun t => ?_⟩
 show Rep S w O (lkp (zipA 0 args) t) _
 rw [Qje, if_pos (Qo _), Q1]
 cases ht : args[t]? with
 | none => simp [Rep]
 | some v =>
  obtain ⟨cv, hcv, hv⟩ := RepL.get _ _ t v hrep ht
  have hlt : t < cargs.size := by have := Qaf hcv; simpa using this
  show Rep S w O v ((cargs ++ Array.replicate (nt - cargs.size) undef).getD t undef)
  rw [hlo t hlt]
  have : cargs.getD t undef = cv := by
   rw [Array.getElem?_toList] at hcv
   have h2 := (Array.getElem?_eq_some_iff.1 hcv).2
   simp [hlt, h2]
  rw [this]
  exact hv
def Cy (lo : Nat) (S0 : Nat → Prop) (w0 : World) (O0 : OInfo) (C : (Nat → Prop) → World → OInfo → Gh → Prop) : Ctx := fun S w O ds h => ds = [] ∧ C S w O h ∧ ExtN lo S0 S w0 w O0 O
theorem Qg6 (hG : GOk P Γ) (hm : P.follows .mixedOrders = true) {f : FuncId} {fn : Func} {c : Code} {rc : RC} {rs : List RV} (hf : P.funcs[f]? = some fn) (hb : fn.body = some c) {lo : Nat}
  (hc : comp P pu (fn.ntmps, 0) lo 3 rc c = some rc) (hr : Qip P fn.results.toList = some rs) {args : List V} (hn : args.length ≤ fn.ntmps) {hp : List Blk} (hlo : hp.length = lo) (hpos : 0 < lo) {R : V → List Blk → Prop}
  (h : wpR Γ (Qb1 P) rc (endK rs fun σ => R (resV σ.hp σ.fr rs) σ.hp) ⟨lkp (zipA 0 args), hp⟩) : Qi4 P f Γ.al args hp R := by
 intro F n lo1 C S w O cargs hF hro hY hlo1 hctx hmat hsz hrep
 refine callsIn_of_wp_marks hf hb (hF.1 f) ?_ hro
 obtain ⟨h1, h2⟩ := Quh hsz hn hrep
 obtain ⟨M, hM⟩ : ∃ M : FrI, M = ⟨fn.ntmps, 0, fun _ => undef, Γ.al⟩ := ⟨_, rfl⟩
 have hnm : M.nm = (fn.ntmps, 0) := by rw [hM]; rfl
 have hOlt : ∀ id x, O id = some x → id < lo := fun id x h => by have := Qiz hmat h; omega
 have hCy : CtxOk P F n M (Cy lo S w O C) lo 3 0 := by
  refine ⟨?_, ?_, fun h => (by cases h), fun h => (by cases h), fun h => (by cases h), fun h => (by cases h), fun h => (by cases h), fun h => (by cases h), ?_, fun _ => hro⟩
  ·rintro S1 S2 w1 w2 O1 O2 ds g g' ⟨a1, a2, a3⟩ hlt ev hg
   exact ⟨a1, hY.evol a2 hlt ev hg, a3.then ev.ext⟩
  ·rintro S1 w1 O1 ds g g' kk ⟨a1, a2, a3⟩ hkk hg
   exact ⟨a1, hY.cut a2 (by omega) (hg (by omega)), a3.cut hkk⟩
  ·rintro _ S1 w1 O1 ds caps bv x z rest cx l m ⟨a1, a2, a3⟩ hmat1 hl hx hs
   obtain ⟨fn', tm, as0, bd, hyr, hround⟩ := hY.yld (m := m) a2 hmat1 hl hx hs
   refine ⟨fn', tm, as0, bd, hyr, hround.mono ?_⟩
   rintro e W' ⟨b, S', O', bv', b1, b2, b3, b4, b5⟩
   exact ⟨b, S', O', bv', b1, by rw [hM]; exact b2, ⟨a1, b3, a3.then b4⟩, b4, b5⟩
 have hat : At (Cy lo S w O C) M S w O ⟨lkp (zipA 0 args), hp⟩ { tmps := cargs ++ Array.replicate (fn.ntmps - cargs.size) undef, defers := [] } := by
  refine ⟨⟨rfl, hctx, ExtN.refl _ _ _ _⟩, ⟨by rw [hM]; exact h1, fun t ht => by rw [hM] at ht; exact absurd ht (Qs _), h2, hmat⟩⟩
 refine Ql6 hG hm (M := M) (by rw [hM]; exact fun _ h => h) rc c rc F n lo 3 hF (by rw [hnm]; exact hc) _ 0 hCy _ _ _ S w O _ h hat ?_
 intro e σ' S' w' O' a' he hat'
 have fin : (rvs σ'.hp σ'.fr rs ∧ R (resV σ'.hp σ'.fr rs) σ'.hp) → LeavesInM F n P fn a'.tmps (fun e w' => ∃ c S' O' r hp', e = .returned c ∧ R r hp' ∧ C S' w' O' (ghO hp') ∧ Ext S S' w w' O O' ∧ Mat S' w' O' hp' ∧ Rep S' w' O' r c) a'.defers .returning w' := by
  rintro ⟨k1, k2⟩
  obtain ⟨a1, a2, a3⟩ := hat'.ctx
  rw [a1]
  obtain ⟨cv, hrun, hrp⟩ := Qh5 hat'.sr hr k1
  exact ⟨cv, hrun, cv, S', O', _, _, rfl, k2, a2, a3.ext hOlt, hat'.sr.mat, hrp⟩
 cases e <;> first | exact fin he | exact he.elim
end
end Go.Fam
namespace Go.Fam
abbrev cMv (d s : Nat) : RO := ⟨some d, none, [s], none, .q (.mv (.t s))⟩
abbrev cEx (d s k : Nat) : RO := ⟨some d, none, [s], none, .q (.ext (.t s) k)⟩
abbrev cFa (d s k : Nat) : RO := ⟨some d, none, [s], none, .q (.fad k (.t s))⟩
abbrev cLd (d s : Nat) (a : Bool) (n : Nat) : RO := ⟨some d, none, [s], none, .q (.ld a n (.t s))⟩
abbrev cLn (d s : Nat) : RO := ⟨some d, none, [s], none, .q (.len (.t s))⟩
abbrev cQ (d : Nat) (ts : List Nat) (q : Q) : RO := ⟨some d, none, ts, none, .q q⟩
abbrev gMv (d g : Nat) (b : Bool) (s : Nat) : RO := ⟨some d, some (g, b), [s], none, .q (.mv (.t s))⟩
abbrev gQ (d g : Nat) (b : Bool) (ts : List Nat) (q : Q) : RO := ⟨some d, some (g, b), ts, none, .q q⟩
abbrev cB (d : Nat) (o : BinOp) (a b : Nat) : RO := ⟨some d, none, [a, b], none, .q (.bin o (.t a) (.t b))⟩
abbrev cC (d : Nat) (o : BinOp) (a : Nat) (n : Int) : RO := ⟨some d, none, [a], none, .q (.bin o (.t a) (.k (.i n)))⟩
abbrev cI (d : Nat) (n : Int) : RO := ⟨some d, none, [], none, .q (.mv (.k (.i n)))⟩
abbrev cA (d k a b : Nat) : RO := ⟨some d, none, [a, b], none, .q (.iad k (.t a) (.t b))⟩
abbrev cZ (d s : Nat) : RO := ⟨some d, none, [s], none, .q (.nilc (.t s))⟩
abbrev cN (d s : Nat) : RO := ⟨some d, none, [s], none, .q (.not (.t s))⟩
abbrev cX (d s : Nat) : RO := ⟨some d, none, [s], none, .q (.box (.t s))⟩
abbrev CCx (p : Program) (f : Func) (pu : List Nat) (rc : RC) : Prop := comp p pu (f.ntmps, 0) 0 1 rc (f.body.getD .skip) = some rc
abbrev CBx (f : Func) : Prop := f.body = some (f.body.getD .skip)
abbrev CSx (p : Program) (f : Func) (rs : List RV) : Prop := Qip p f.results.toList = some rs
abbrev kI (n : Int) : Od := .k (.i n)
abbrev kB (b : Bool) : Od := .k (.b b)
abbrev kF (f : Nat) : Od := .k (.fn f [])
end Go.Fam
namespace Go.Fam
theorem Qfi (fr : List (Nat × V)) (d : Nat) (v : V) : upd (lkp fr) (some d) v = lkp ((d, v) :: fr) := rfl
theorem Qxt (fr : Nat → V) (v : V) : upd fr none v = fr := rfl
theorem Qcz (fr : List (Nat × V)) (d t : Nat) (v : V) : lkp ((d, v) :: fr) t = if t = d then v else lkp fr t := rfl
theorem Qfa (t : Nat) : lkp [] t = .u := rfl
theorem vw_i (hp : List Blk) (n : Nat) (x : Int) : vw hp (n + 1) (.i x) = .i x := rfl
theorem vw_b (hp : List Blk) (n : Nat) (x : Bool) : vw hp (n + 1) (.b x) = .b x := rfl
theorem Qro (hp : List Blk) (n : Nat) : vw hp (n + 1) .pn = .pn := rfl
theorem vw_z (hp : List Blk) (n : Nat) (e : Nat) : vw hp (n + 1) (.z e) = .sl e [] := rfl
theorem Zj0 (hp : List Blk) (n : Nat) (e : Nat) (r : List (List V)) : vw hp (n + 1) (.sl e r) = .sl e r := rfl
theorem Qrn (hp : List Blk) (n : Nat) (r : List V) : vw hp (n + 1) (.pa r) = .pa r := rfl
theorem Ziy (hp : List Blk) (n : Nat) (r : List V) : vw hp (n + 1) (.ag r) = .ag (r.map (vw hp n)) := rfl
theorem Qd7 (hp : List Blk) (n : Nat) (r : List V) : vw hp (n + 1) (.tp r) = .tp (r.map (vw hp n)) := rfl
theorem Ziz (hp : List Blk) (n f : Nat) (r : List V) : vw hp (n + 1) (.fn f r) = .fn f (r.map (vw hp n)) := rfl
theorem Qdj (hp : List Blk) (n id g off : Nat) : vw hp (n + 1) (.ad id g off) = match hp[id]? with
   | some (.cells g' vs) => if g' = g then .pa ((vs.drop off).map (vw hp n)) else .u
   | _ => .u := rfl
theorem Qdk (hp : List Blk) (n id g off len es : Nat) : vw hp (n + 1) (.rf id g off len es) = match hp[id]? with
   | some (.cells g' vs) => if g' = g ∧ off + len * es ≤ vs.length then .sl es ((Qcg es vs off len).map fun r => r.map (vw hp n)) else .u
   | _ => .u := rfl
section
variable {Γ : Gam} {E : TypeId → Nat → Prop} {g : Bool} {base : Nat}
theorem Qa0 (σ : St) (K : St → Prop) : runR Γ E g base [] σ K = K σ := rfl
theorem Qff (o : RO) (l : List RO) (σ : St) (K : St → Prop) : runR Γ E g base (o :: l) σ K = ((step Γ E g base o σ).1 ∧ runR Γ E g base l (step Γ E g base o σ).2 K) := rfl
variable {Q : Exit → St → Prop} {σ : St}
theorem Ql0 : wpR Γ E .skip Q σ = Q .normal σ := rfl
theorem Qky (l : List RO) : wpR Γ E (.reg g l) Q σ = runR Γ E g 0 l σ (Q .normal) := rfl
theorem Qu5 (m : Nat) (l : List AnyOp) : wpR Γ E (.any g m l) Q σ = runX Γ E g σ.hp.length l [] ⟨σ.fr, σ.hp ++ List.replicate m .hole⟩ (Q .normal) := rfl
theorem Qkz (a b : RC) : wpR Γ E (.seq a b) Q σ = wpR Γ E a (Qfr (wpR Γ E b Q) Q) σ := rfl
theorem Zb1 (c : Od) (a b : RC) : wpR Γ E (.cond c a b) Q σ = match evO σ.fr c with
  | .b t => (t = true → wpR Γ E a Q σ) ∧ (t = false → wpR Γ E b Q σ)
  | _ => False := rfl
theorem Qkv (c : Od) (a b : RC) : wpR Γ E (.cond c a b) Q σ = match evO σ.fr c with
  | .b t => if t = true then wpR Γ E a Q σ else wpR Γ E b Q σ
  | _ => False := by
 rw [Zb1]
 cases evO σ.fr c <;> try rfl
 rename_i t
 cases t <;> simp
theorem Qhs (id : Nat) (a : RC) : wpR Γ E (.block id a) Q σ = wpR Γ E a (Qh9 id Q) σ := rfl
theorem Qpo (id : Nat) : wpR Γ E (.exit id) Q σ = Q (.exit id) σ := rfl
theorem Qu7 : wpR Γ E .ret Q σ = Q .ret σ := rfl
theorem Qh6 (l : List Nat) (a : RC) : wpR Γ E (.keep l a) Q σ = wpR Γ E a Q ⟨lkp (l.map fun t => (t, σ.fr t)), σ.hp⟩ := rfl
theorem Qbd (n : Nat) (a : RC) : wpR Γ E (.drp n a) Q σ = wpR Γ E a Q ⟨fun t => cutV σ.hp n (σ.fr t), cutH n σ.hp⟩ := rfl
theorem Qow (t es : Nat) (a : RC) : wpR Γ E (.own t es a) Q σ = match σ.fr t with
  | .z _ => wpR Γ E a Q ⟨upd σ.fr (some t) (.rf σ.hp.length 0 0 0 es), σ.hp ++ [.cells 0 []]⟩
  | _ => False := rfl
theorem Zb2 (t es gs : Nat) (a : RC) : wpR Γ E (.owng t es gs a) Q σ = match σ.fr t with
  | .z _ => wpR Γ E a Q ⟨upd σ.fr (some t) (.rf σ.hp.length gs 0 0 es), σ.hp ++ [.cells gs []]⟩
  | _ => False := rfl
theorem Qkx (t off es : Nat) (a : RC) : wpR Γ E (.ownc t off es a) Q σ = match σ.fr t with
  | .ad id g o => match σ.hp[id]? with
   | some (.cells g' vs) => match vs[o + off]? with
    | some (.z _) => g' = g ∧ wpR Γ E a Q ⟨σ.fr, σ.hp.set id (.cells g (vs.set (o + off) (.rf σ.hp.length 0 0 0 es))) ++ [.cells 0 []]⟩
    | _ => False
   | _ => False
  | _ => False := rfl
theorem Qys (i j : Nat) (a : RC) : wpR Γ E (.swp i j a) Q σ = (i < σ.hp.length ∧ j < σ.hp.length ∧ wpR Γ E a Q ⟨fun t => renV (sw i j) (σ.fr t), swH i j σ.hp⟩) := rfl
theorem Qu6 (l1 : List RO) (y : RO) (l2 : List RO) : wpR Γ E (.hcl g l1 y l2) Q σ = runR Γ E g 0 l1 σ fun σ1 => match y.x with
  | .o f args => match opv g σ1.fr f with
   | .fn gf caps => Qc2 g y σ1.fr ∧ (Γ.h gf (args.map (opv g σ1.fr) ++ caps) σ1.hp).1 ∧
     ∀ r hp', (Γ.h gf (args.map (opv g σ1.fr) ++ caps) σ1.hp).2 r hp' → runR Γ E g 0 l2 ⟨upd σ1.fr y.dst r, hp'⟩ (Q .normal)
   | _ => False
  | _ => False := rfl
theorem Zgd (l1 : List RO) (y : RO) (l2 : List RO) : wpR Γ E (.rnl g l1 y l2) Q σ = runR Γ E g 0 l1 σ fun σ1 => match y.x with
  | .q (.len a) => match opv g σ1.fr a with
   | .sl _ rows => Qc2 g y σ1.fr ∧ ∀ b, (rows ≠ [] → b = false) → runR Γ E g 0 l2 ⟨upd σ1.fr y.dst (.b b), σ1.hp⟩ (Q .normal)
   | .z _ => Qc2 g y σ1.fr ∧ ∀ b, runR Γ E g 0 l2 ⟨upd σ1.fr y.dst (.b b), σ1.hp⟩ (Q .normal)
   | _ => False
  | _ => False := rfl
theorem Qgu (l : List It) : wpR Γ E (.itm l) Q σ = runI Γ E l σ (Q .normal) := rfl
theorem Qdv (K : St → Prop) : runI Γ E [] σ K = K σ := rfl
theorem Qgv (o : RO) (l : List It) (K : St → Prop) : runI Γ E (.r o :: l) σ K = ((step Γ E true 0 o σ).1 ∧ runI Γ E l (step Γ E true 0 o σ).2 K) := rfl
theorem Qox (o : RO) (l : List It) (K : St → Prop) : runI Γ E (.w o :: l) σ K = match Qd6 σ.fr o.gd with
  | none => False
  | some false => runI Γ E l ⟨upd σ.fr o.dst (.gv false .u), σ.hp⟩ K
  | some true => (step Γ E true 0 o σ).1 ∧ runI Γ E l (step Γ E true 0 o σ).2 K := rfl
theorem Qu9 (o : RO) (l : List It) (K : St → Prop) : runI Γ E (.h o :: l) σ K = match Qd6 σ.fr o.gd with
  | none => False
  | some false => runI Γ E l ⟨upd σ.fr o.dst (.gv false .u), σ.hp⟩ K
  | some true => match o.x with
   | .o f args => match opv true σ.fr f with
    | .fn gf caps => Qc2 true o σ.fr ∧ (Γ.h gf (args.map (opv true σ.fr) ++ caps) σ.hp).1 ∧
      ∀ r hp', (Γ.h gf (args.map (opv true σ.fr) ++ caps) σ.hp).2 r hp' → runI Γ E l ⟨upd σ.fr o.dst r, hp'⟩ K
    | _ => False
   | _ => False := rfl
theorem Qht (lo d : Nat) (o : RO) (l : List It) (K : St → Prop) : runI Γ E (.y lo d o :: l) σ K = match Qd6 σ.fr o.gd with
  | none => False
  | some false => runI Γ E l ⟨upd σ.fr o.dst (.gv false .u), σ.hp⟩ K
  | some true => match o.x with
   | .o f args => match opv true (drpS d σ).fr f with
    | .fn gf caps => Qc2 true o (drpS d σ).fr ∧ lo ≤ (drpS d σ).hp.length ∧ (Γ.y gf Γ.al (args.map (opv true (drpS d σ).fr) ++ caps) (drpS d σ).hp).1 ∧
      ∀ r hp', (Γ.y gf Γ.al (args.map (opv true (drpS d σ).fr) ++ caps) (drpS d σ).hp).2 r hp' → runI Γ E l ⟨upd (drpS d σ).fr o.dst r, hp'⟩ K
    | _ => False
   | _ => False := rfl
theorem Qqv (a : RC) : wpR Γ E (.dum a) Q σ = wpR Γ E a Q ⟨σ.fr, σ.hp ++ [.hole]⟩ := rfl
theorem Qu8 (l1 : List RO) (y : RO) (l2 : List RO) : wpR Γ E (.yrh g l1 y l2) Q σ = runR Γ E g 0 l1 σ fun σ1 => match Qd6 σ1.fr y.gd with
  | none => False
  | some false => runR Γ E g 0 l2 ⟨upd σ1.fr y.dst (.gv false .u), σ1.hp⟩ (Q .normal)
  | some true => match y.x with
   | .o f args => match opv g σ1.fr f, σ1.hp with
    | .yl l, .gh caps (some ((.b true :: bv) :: [.tp x, .tp z] :: rest)) :: tl => Qc2 g y σ1.fr ∧ caps[0]? = some (.yl l) ∧ args.map (opv g σ1.fr) = x ∧ tl = (bv ++ z).map vB ∧
      ∀ b bv', Γ.al bv' → runR Γ E g 0 l2 ⟨upd σ1.fr y.dst (yres y.gd b), .gh caps (some ((.b b :: bv') :: if b then rest else [])) :: (bv' ++ z).map vB⟩ (Q .normal)
    | _, _ => False
   | _ => False := rfl
theorem Qyt (lo : Nat) (l1 : List RO) (y : RO) (l2 : List RO) : wpR Γ E (.ycl lo g l1 y l2) Q σ = runR Γ E g 0 l1 σ fun σ1 => match y.x with
  | .o f args => match opv g σ1.fr f with
   | .fn gf caps => Qc2 g y σ1.fr ∧ lo ≤ σ1.hp.length ∧ (Γ.y gf Γ.al (args.map (opv g σ1.fr) ++ caps) σ1.hp).1 ∧
     ∀ r hp', (Γ.y gf Γ.al (args.map (opv g σ1.fr) ++ caps) σ1.hp).2 r hp' → runR Γ E g 0 l2 ⟨upd σ1.fr y.dst r, hp'⟩ (Q .normal)
   | _ => False
  | _ => False := rfl
theorem Qam (hp : List Blk) (n : Nat) : ∀ L : List (Nat × V), (fun t => cutV hp n (lkp L t)) = lkp (L.map fun p => (p.1, cutV hp n p.2))
 | [] => by funext t; simp [lkp, cutV]
 | (k, v) :: L => by
  funext t
  have := congrFun (Qam hp n L) t
  simp only [lkp, Qa]
  split
  ·rfl
  ·exact this
theorem Qpm (f : Nat → Nat) : ∀ L : List (Nat × V), (fun t => renV f (lkp L t)) = lkp (L.map fun p => (p.1, renV f p.2))
 | [] => by funext t; simp [lkp, renV]
 | (k, v) :: L => by
  funext t
  have := congrFun (Qpm f L) t
  simp only [lkp, Qa]
  split
  ·rfl
  ·exact this
theorem Qkw {l : List Nat} {d : Option Nat} {a : RC} (I : Nat → St → Prop) (h0 : ∃ k, I k (kp l d σ)) (h : ∀ k σ', I k σ' → wpR Γ E a (Qfr (fun σ'' => ∃ j, j < k ∧ I j (kp l d σ'')) Q) σ') :
  wpR Γ E (.loop l d a) Q σ := ⟨I, h0, h⟩
theorem Qbw {K K' : St → Prop} (hK : ∀ σ, K σ → K' σ) : ∀ (l : List RO) (σ : St), runR Γ E g base l σ K → runR Γ E g base l σ K'
 | [], σ, h => hK σ h
 | _ :: l, _, h => ⟨h.1, Qbw hK l _ h.2⟩
theorem Qhu {K K' : St → Prop} (hK : ∀ σ, K σ → K' σ) : ∀ (l : List AnyOp) (ds : List FP) (σ : St), runX Γ E g base l ds σ K → runX Γ E g base l ds σ K'
 | [], _, σ, h => hK σ h
 | _ :: l, _, _, h => ⟨h.1, h.2.1, Qhu hK l _ _ h.2.2⟩
theorem Qdx {K K' : St → Prop} (hK : ∀ σ, K σ → K' σ) : ∀ (l : List It) (σ : St), runI Γ E l σ K → runI Γ E l σ K'
 | [], σ, h => hK σ h
 | .r _ :: l, _, h => ⟨h.1, Qdx hK l _ h.2⟩
 | .w o :: l, σ, h => by
  rw [Qox] at h ⊢
  split
  ·rename_i hc; rw [hc] at h; exact h
  ·rename_i hc; rw [hc] at h; exact Qdx hK l _ h
  ·rename_i hc; rw [hc] at h; exact ⟨h.1, Qdx hK l _ h.2⟩
 | .h o :: l, σ, h => by
  rw [Qu9] at h ⊢
  split
  ·rename_i hc; rw [hc] at h; exact h
  ·rename_i hc; rw [hc] at h; exact Qdx hK l _ h
  ·rename_i hc; rw [hc] at h
   simp only at h ⊢
   split at h
   ·split at h
    ·exact ⟨h.1, h.2.1, fun r hp' hr => Qdx hK l _ (h.2.2 r hp' hr)⟩
    ·exact h.elim
   ·exact h.elim
 | .y lo d o :: l, σ, h => by
  rw [Qht] at h ⊢
  split
  ·rename_i hc; rw [hc] at h; exact h
  ·rename_i hc; rw [hc] at h; exact Qdx hK l _ h
  ·rename_i hc; rw [hc] at h
   simp only at h ⊢
   split at h
   ·split at h
    ·exact ⟨h.1, h.2.1, h.2.2.1, fun r hp' hr => Qdx hK l _ (h.2.2.2 r hp' hr)⟩
    ·exact h.elim
   ·exact h.elim
theorem Qgl : ∀ (r : RC) (Q Q' : Exit → St → Prop) (σ : St), (∀ e σ, Q e σ → Q' e σ) → wpR Γ E r Q σ → wpR Γ E r Q' σ := by
  intro r
  induction r with
  | skip => intro Q Q' σ h hw; exact h _ _ hw
  | no => intro Q Q' σ h hw; exact hw.elim
  | reg g l => intro Q Q' σ h hw; exact Qbw (h _) l σ hw
  | any g m l => intro Q Q' σ h hw; exact Qhu (h _) l [] _ hw
  | seq a b iha ihb =>
    intro Q Q' σ h hw
    refine iha _ _ σ (fun e σ' he => ?_) hw
    cases e <;> first | exact h _ _ he | exact ihb _ _ _ h he
  | mid a b iha ihb =>
    intro Q Q' σ h hw
    obtain ⟨M, h1, h2⟩ := hw
    refine ⟨M, iha _ _ σ (fun e σ' he => ?_) h1, fun σ' hM => ihb _ _ _ h (h2 σ' hM)⟩
    cases e <;> first | exact h _ _ he | exact he
  | cond c a b iha ihb =>
    intro Q Q' σ h hw
    simp only [wpR] at hw ⊢
    cases hc : evO σ.fr c <;> simp only [hc] at hw ⊢ <;> try exact hw
    exact ⟨fun ht => iha _ _ _ h (hw.1 ht), fun ht => ihb _ _ _ h (hw.2 ht)⟩
  | block id a iha =>
    intro Q Q' σ h hw
    refine iha _ _ σ (fun e σ' he => ?_) hw
    cases e <;> first | exact h _ _ he | skip
    simp only [Qh9] at he ⊢
    split
    · rename_i hi; rw [if_pos hi] at he; exact h _ _ he
    · rename_i hi; rw [if_neg hi] at he; exact h _ _ he
  | loop l d a iha =>
    intro Q Q' σ h hw
    obtain ⟨I, h0, h1⟩ := hw
    refine ⟨I, h0, fun k σ' hI => iha _ _ σ' (fun e σ'' he => ?_) (h1 k σ' hI)⟩
    cases e <;> first | exact h _ _ he | exact he
  | exit id => intro Q Q' σ h hw; exact h _ _ hw
  | ret => intro Q Q' σ h hw; exact h _ _ hw
  | keep l a iha => intro Q Q' σ h hw; exact iha _ _ _ h hw
  | drp n a iha => intro Q Q' σ h hw; exact iha _ _ _ h hw
  | own t es a iha =>
    intro Q Q' σ h hw
    simp only [wpR] at hw ⊢
    cases ht : σ.fr t <;> simp only [ht] at hw ⊢ <;> try exact hw
    exact iha _ _ _ h hw
  | owng t es gs a iha =>
    intro Q Q' σ h hw
    simp only [wpR] at hw ⊢
    cases ht : σ.fr t <;> simp only [ht] at hw ⊢ <;> try exact hw
    exact iha _ _ _ h hw
  | ownc t off es a iha =>
    intro Q Q' σ h hw
    simp only [wpR] at hw ⊢
    cases ht : σ.fr t <;> simp only [ht] at hw ⊢ <;> try exact hw
    case ad id g o =>
      cases hid : σ.hp[id]? with
      | none => simp [hid] at hw
      | some bk =>
        cases bk <;> simp only [hid] at hw ⊢ <;> try exact hw
        case cells g' vs =>
          cases hv : vs[o + off]? with
          | none => simp [hv] at hw
          | some v => cases v <;> simp only [hv] at hw ⊢ <;> first | exact hw | exact ⟨hw.1, iha _ _ _ h hw.2⟩
  | owni t i off es a iha =>
    intro Q Q' σ h hw
    simp only [wpR] at hw ⊢
    cases ht : σ.fr t <;> simp only [ht] at hw ⊢ <;> try exact hw
    case rf id g o len es' =>
     cases hi : σ.fr i <;> simp only [hi] at hw ⊢ <;> try exact hw
     case i k =>
      cases hid : σ.hp[id]? with
      | none => simp [hid] at hw
      | some bk =>
        cases bk <;> simp only [hid] at hw ⊢ <;> try exact hw
        case cells g' vs =>
          cases hv : vs[o + k.toNat * es' + off]? with
          | none => simp [hv] at hw
          | some v => cases v <;> simp only [hv] at hw ⊢ <;> first | exact hw | exact ⟨hw.1, iha _ _ _ h hw.2⟩
  | swp i j a iha => intro Q Q' σ h hw; exact ⟨hw.1, hw.2.1, iha _ _ _ h hw.2.2⟩
  | nxt d m it =>
    intro Q Q' σ h hw
    simp only [wpR] at hw ⊢
    cases ht : σ.fr it <;> simp only [ht] at hw ⊢ <;> try exact hw
    case it id g =>
      cases hid : σ.hp[id]? with
      | none => simp [hid] at hw
      | some bk =>
        cases bk <;> simp only [hid] at hw ⊢ <;> try exact hw
        case iter mid n left cur =>
          cases hm : σ.hp[mid]? with
          | none => simp [hm] at hw
          | some bk2 =>
            cases bk2 <;> simp only [hm] at hw ⊢ <;> try exact hw
            case map st ks vs => exact ⟨hw.1, hw.2.1, fun hl => h _ _ (hw.2.2.1 hl), fun j hj => h _ _ (hw.2.2.2 j hj)⟩
  | rfn f ps lo b a ihb iha =>
    intro Q Q' σ h hw
    simp only [wpR] at hw ⊢
    split at hw
    · rename_i gf caps hf
      split at hw
      · rename_i ok ys hΓ
        obtain ⟨h1, h2, h3, h4, I, h5, h6, h7⟩ := hw
        refine ⟨h1, h2, h3, h4, I, h5, fun k x hp hx hI => ihb _ _ _ (fun e σ' he => ?_) (h6 k x hp hx hI), fun hp hI => h _ _ (h7 hp hI)⟩
        cases e <;> first | exact he | skip
        refine iha _ _ _ (fun e σ'' he' => ?_) he
        cases e <;> first | exact he' | exact h _ _ he'
      · exact hw
    · exact hw
  | yrg g l1 y ks l2 =>
    intro Q Q' σ h hw
    refine Qbw (fun σ1 hw => ?_) l1 σ hw
    split at hw
    · exact hw.elim
    · exact Qbw (h _) l2 _ hw
    · split at hw
      · split at hw
        · exact ⟨hw.1, hw.2.1, hw.2.2.1, hw.2.2.2.1, hw.2.2.2.2.1, fun b => Qbw (h _) l2 _ (hw.2.2.2.2.2 b)⟩
        · exact hw.elim
      · exact hw.elim
  | hcl g l1 y l2 =>
    intro Q Q' σ h hw
    refine Qbw (fun σ1 hw => ?_) l1 σ hw
    split at hw
    · split at hw
      · exact ⟨hw.1, hw.2.1, fun r bs hR => Qbw (h _) l2 _ (hw.2.2 r bs hR)⟩
      · exact hw.elim
    · exact hw.elim
  | hca g m1 l1 y m2 l2 =>
    intro Q Q' σ h hw
    refine Qhu (fun σ1 hw => ?_) l1 _ _ hw
    split at hw
    · split at hw
      · exact ⟨hw.1, hw.2.1, fun r bs hR => Qhu (h _) l2 _ _ (hw.2.2 r bs hR)⟩
      · exact hw.elim
    · exact hw.elim
  | crl g l1 y l2 =>
    intro Q Q' σ h hw
    refine Qbw (fun σ1 hw => ?_) l1 σ hw
    split at hw
    · split at hw
      · exact ⟨hw.1, hw.2.1, hw.2.2.1, hw.2.2.2.1, fun r bs hR => Qbw (h _) l2 _ (hw.2.2.2.2 r bs hR)⟩
      · exact hw.elim
    · exact hw.elim
  | scp a iha =>
    intro Q Q' σ h hw
    refine iha _ _ σ (fun e σ' he => ?_) hw
    cases e <;> first | exact he | exact h _ _ he
  | dum a iha => intro Q Q' σ h hw; exact iha _ _ _ h hw
  | itm l => intro Q Q' σ h hw; exact Qdx (h _) l σ hw
  | rnl g l1 y l2 =>
    intro Q Q' σ h hw
    refine Qbw (fun σ1 hw => ?_) l1 σ hw
    split at hw
    · split at hw
      · exact ⟨hw.1, fun b hb => Qbw (h _) l2 _ (hw.2 b hb)⟩
      · exact ⟨hw.1, fun b => Qbw (h _) l2 _ (hw.2 b)⟩
      · exact hw.elim
    · exact hw.elim
  | yrh g l1 y l2 =>
    intro Q Q' σ h hw
    refine Qbw (fun σ1 hw => ?_) l1 σ hw
    split at hw
    · exact hw.elim
    · exact Qbw (h _) l2 _ hw
    · split at hw
      · split at hw
        · exact ⟨hw.1, hw.2.1, hw.2.2.1, hw.2.2.2.1, fun b bv' hb => Qbw (h _) l2 _ (hw.2.2.2.2 b bv' hb)⟩
        · exact hw.elim
      · exact hw.elim
  | ycl lo g l1 y l2 =>
    intro Q Q' σ h hw
    refine Qbw (fun σ1 hw => ?_) l1 σ hw
    split at hw
    · split at hw
      · exact ⟨hw.1, hw.2.1, hw.2.2.1, fun r bs hR => Qbw (h _) l2 _ (hw.2.2.2 r bs hR)⟩
      · exact hw.elim
    · exact hw.elim
  | rfh f ps lo zl b a ihb iha =>
    intro Q Q' σ h hw
    simp only [wpR] at hw ⊢
    split at hw
    · rename_i gf caps sd hf
      obtain ⟨al, ys, bv0, I, h1, h2, h3, h4, h5, h6, h7⟩ := hw
      refine ⟨al, ys, bv0, I, h1, h2, h3, h4, h5, fun k x z bv hx hI => ⟨(h6 k x z bv hx hI).1, (h6 k x z bv hx hI).2.1, ihb _ _ _ (fun e σ' he => ?_) (h6 k x z bv hx hI).2.2⟩, fun bv hI => h _ _ (h7 bv hI)⟩
      cases e <;> first | exact he | skip
      refine iha _ _ _ (fun e σ'' he' => ?_) he
      cases e <;> first | exact he' | skip
      obtain ⟨bv', a1, a2, a3, a4⟩ := he'
      exact ⟨bv', a1, a2, a3, h _ _ a4⟩
    · exact hw
theorem Zgc {f : Od} {ps : List Nat} {lo : Nat} {b a : RC} {gf : Nat} {caps : List V} {ok : Prop} {ys : List (List V)} (hf : evO σ.fr f = .fn gf caps) (hΓ : Γ (2000000 + gf) (caps.map (vw σ.hp 8)) = (ok, .sl 0 ys)) (h6 : gf < 1000000) (hok : ok)
  (href : Qa1 caps = false) (hlen : ∀ x ∈ ys, x.length = ps.length) (I : Nat → List Blk → Prop) (h0 : I 0 (cutH lo σ.hp))
  (hs : ∀ k x hp, ys[k]? = some x → I k hp → wpR Γ E b (rnQ (wpR Γ E a (rndQ Q lo (fun t => cutV σ.hp lo (σ.fr t)) (I (k + 1))))) ⟨updL (fun t => cutV σ.hp lo (σ.fr t)) ps x, hp⟩)
  (he : ∀ hp, I ys.length hp → Q .normal ⟨fun t => cutV σ.hp lo (σ.fr t), hp⟩) : wpR Γ E (.rfn f ps lo b a) Q σ := by
 simp only [wpR, hf, hΓ]
 exact ⟨h6, hok, href, hlen, I, h0, hs, he⟩
theorem Zgb {f : Od} {ps : List Nat} {lo zl : Nat} {b a : RC} {gf : Nat} {caps : List V} (hf : cutV σ.hp lo (evO σ.fr f) = .fn gf caps) (al : List V → Prop) (ys : List (List V × List V)) {bv0 : List V} (hb0 : cutH lo σ.hp = .hole :: bv0.map vB)
  (I : Nat → List V → Prop) (h0 : I 0 bv0) (hal : ∀ k bv, I k bv → al bv) (hlo : ∀ bv, al bv → bv.length + 1 = lo ∧ ∀ hp, (bv.map vB).map (cutB hp lo) = bv.map vB)
  (hy : ∀ l, (Γ.y gf al (.yl l :: caps) (.gh (.yl l :: caps) (some ((.b true :: bv0) :: ys.map fun y => gyE y.1 y.2)) :: bv0.map vB)).1 ∧
     ∀ r hp', (Γ.y gf al (.yl l :: caps) (.gh (.yl l :: caps) (some ((.b true :: bv0) :: ys.map fun y => gyE y.1 y.2)) :: bv0.map vB)).2 r hp' →
      ∃ (b : Bool) (bv' : List V) (rest : List (List V)) (tl : List Blk), hp' = .gh (.yl l :: caps) (some ((.b b :: bv') :: rest)) :: (bv'.map vB ++ tl) ∧ (b = true → rest = []) ∧ al bv')
  (hs : ∀ k x z bv, ys[k]? = some (x, z) → I k bv → x.length = ps.length ∧ z.length ≤ zl ∧
     wpR Γ E b (rnQ (wpR Γ E a (rndH Q lo zl (fun t => cutV σ.hp lo (σ.fr t)) z al (I (k + 1))))) ⟨updL (fun t => cutV σ.hp lo (σ.fr t)) ps x, .hole :: (bv ++ z).map vB⟩)
  (he : ∀ bv, I ys.length bv → Q .normal ⟨fun t => cutV σ.hp lo (σ.fr t), .hole :: bv.map vB⟩) : wpR Γ E (.rfh f ps lo zl b a) Q σ := by
 simp only [wpR, hf, rfA]
 exact ⟨al, ys, bv0, I, hb0, h0, hal, hlo, hy, hs, he⟩
theorem Qyr {f : Od} {ps : List Nat} {lo zl : Nat} {b a : RC} {gf : Nat} {caps : List V} (hf : cutV σ.hp lo (evO σ.fr f) = .fb gf caps) (al : List V → Prop) (ys : List (List V × List V)) {bv0 : List V} (hb0 : cutH lo σ.hp = .hole :: bv0.map vB)
  (I : Nat → List V → Prop) (h0 : I 0 bv0) (hal : ∀ k bv, I k bv → al bv) (hlo : ∀ bv, al bv → bv.length + 1 = lo ∧ ∀ hp, (bv.map vB).map (cutB hp lo) = bv.map vB)
  (hy : ∀ l, (Γ.y gf al (caps ++ [.yl l]) (.gh (.yl l :: caps) (some ((.b true :: bv0) :: ys.map fun y => gyE y.1 y.2)) :: bv0.map vB)).1 ∧
     ∀ r hp', (Γ.y gf al (caps ++ [.yl l]) (.gh (.yl l :: caps) (some ((.b true :: bv0) :: ys.map fun y => gyE y.1 y.2)) :: bv0.map vB)).2 r hp' →
      ∃ (b : Bool) (bv' : List V) (rest : List (List V)) (tl : List Blk), hp' = .gh (.yl l :: caps) (some ((.b b :: bv') :: rest)) :: (bv'.map vB ++ tl) ∧ (b = true → rest = []) ∧ al bv')
  (hs : ∀ k x z bv, ys[k]? = some (x, z) → I k bv → x.length = ps.length ∧ z.length ≤ zl ∧
     wpR Γ E b (rnQ (wpR Γ E a (rndH Q lo zl (fun t => cutV σ.hp lo (σ.fr t)) z al (I (k + 1))))) ⟨updL (fun t => cutV σ.hp lo (σ.fr t)) ps x, .hole :: (bv ++ z).map vB⟩)
  (he : ∀ bv, I ys.length bv → Q .normal ⟨fun t => cutV σ.hp lo (σ.fr t), .hole :: bv.map vB⟩) : wpR Γ E (.rfh f ps lo zl b a) Q σ := by
 simp only [wpR, hf, rfA]
 exact ⟨al, ys, bv0, I, hb0, h0, hal, hlo, hy, hs, he⟩
theorem Zb3 {f : Od} {ps : List Nat} {lo : Nat} {b a : RC} {gf : Nat} {caps : List V} {ok : Prop} {ys : List (List V)} (H : Nat → List Blk) (C : Nat → Prop) (hf : evO σ.fr f = .fn gf caps) (hΓ : Γ (2000000 + gf) (caps.map (vw σ.hp 8)) = (ok, .sl 0 ys)) (h6 : gf < 1000000) (hok : ok)
  (href : Qa1 caps = false) (hlen : ∀ x ∈ ys, x.length = ps.length) (h0 : cutH lo σ.hp = H 0) (c0 : C 0)
  (hs : ∀ k x, ys[k]? = some x → C k → wpR Γ E b (rnQ (wpR Γ E a (rndQ Q lo (fun t => cutV σ.hp lo (σ.fr t)) (fun hp => C (k + 1) ∧ hp = H (k + 1))))) ⟨updL (fun t => cutV σ.hp lo (σ.fr t)) ps x, H k⟩)
  (he : C ys.length → Q .normal ⟨fun t => cutV σ.hp lo (σ.fr t), H ys.length⟩) : wpR Γ E (.rfn f ps lo b a) Q σ := by
 refine Zgc hf hΓ h6 hok href hlen (fun k hp => C k ∧ hp = H k) ⟨c0, h0⟩ ?_ ?_
 ·rintro k x hp hx ⟨hc, rfl⟩
  exact hs k x hx hc
 ·rintro hp ⟨hc, rfl⟩
  exact he hc
theorem Qb5 {l : List Nat} {d : Option Nat} {a : RC} (n : Nat) (S : Nat → St) (h0 : kp l d σ = S 0) (hs : ∀ i, i < n → wpR Γ E a (Qfr (fun σ'' => kp l d σ'' = S (i + 1)) Q) (S i))
  (he : wpR Γ E a (Qfr (fun _ => False) Q) (S n)) : wpR Γ E (.loop l d a) Q σ := by
 refine Qkw (fun k σ => ∃ i, i ≤ n ∧ k = n - i ∧ σ = S i) ⟨n, 0, Qo _, rfl, h0⟩ ?_
 rintro k _ ⟨i, hi, rfl, rfl⟩
 by_cases h : i < n
 ·refine Qgl _ _ _ _ (fun e σ he => ?_) (hs i h)
  cases e <;> first | exact he | skip
  exact ⟨n - (i + 1), by omega, i + 1, h, rfl, he⟩
 ·have : i = n := by omega
  subst this
  refine Qgl _ _ _ _ (fun e σ he => ?_) he
  cases e <;> first | exact he | exact he.elim
theorem Qap {l : List Nat} {d : Option Nat} {a : RC} (n : Nat) (S : Nat → St) (C : Nat → Prop) (h0 : kp l d σ = S 0) (c0 : C 0) (hs : ∀ i, i < n → C i → wpR Γ E a (Qfr (fun σ'' => C (i + 1) ∧ kp l d σ'' = S (i + 1)) Q) (S i))
  (he : C n → wpR Γ E a (Qfr (fun _ => False) Q) (S n)) : wpR Γ E (.loop l d a) Q σ := by
 refine Qkw (fun k σ => ∃ i, i ≤ n ∧ k = n - i ∧ C i ∧ σ = S i) ⟨n, 0, Qo _, rfl, c0, h0⟩ ?_
 rintro k _ ⟨i, hi, rfl, hc, rfl⟩
 by_cases h : i < n
 ·refine Qgl _ _ _ _ (fun e σ he => ?_) (hs i h hc)
  cases e <;> first | exact he | skip
  exact ⟨n - (i + 1), by omega, i + 1, h, rfl, he.1, he.2⟩
 ·have : i = n := by omega
  subst this
  refine Qgl _ _ _ _ (fun e σ he => ?_) (he hc)
  cases e <;> first | exact he | exact he.elim
end
theorem Qck (es : Nat) (vs : List V) : Qcg es vs 0 1 = [vs.take es] := by simp [Qcg]
theorem Qdp (p A B : Prop) [Decidable p] : (if p then A else B) = ((p → A) ∧ (¬ p → B)) := by by_cases h : p <;> simp [h]
theorem Qmq (p : Prop) [Decidable p] (x : Bool) : (if p then x else false) = (decide p && x) := by by_cases h : p <;> simp [h]
theorem Zdv (p : Prop) [Decidable p] (x : Bool) : (if p then true else x) = (decide p || x) := by by_cases h : p <;> simp [h]
end Go.Fam
namespace Go.Fam
open Go.ChangeShapes Go.WideShapes Go.ChangeAt Go.RowKit
variable {P : Program} {W : World} {H : Type} {enc : TypeId × Value → H} {α β : Type}
def Qld (W : World) : Nat → Prop := fun n => n < W.heap.size
def Rd (enc : TypeId × Value → H) (P : Program) (W : World) (t : TypeId) (e : α → List V) (ok : α → Prop) : Prop :=
 ∀ fuel (cs : List Value) d ps, DataW.trod enc P W 0 (fun _ => true) true fuel t cs = some (d, ps) → ∃ a, ok a ∧ (e a).length = cs.length ∧ RepL (Qld W) W noO (e a) cs ∧ ∀ c ∈ cs, c.oneCell' = true
theorem Rd.map {t : TypeId} {e : α → List V} {ok : α → Prop} (h : Rd enc P W t e ok) {e' : β → List V} {ok' : β → Prop} (g : α → β) (he : ∀ a, e' (g a) = e a) (hok : ∀ a, ok a → ok' (g a)) : Rd enc P W t e' ok' := by
 intro fuel cs d ps hd
 obtain ⟨a, h1, h2, h3, h4⟩ := h fuel cs d ps hd
 exact ⟨g a, hok a h1, by rw [he]; exact h2, by rw [he]; exact h3, h4⟩
theorem Zg8 {t : TypeId} (hu : P.underlying t = some (.int .i64)) : Rd enc P W t (fun n : Int => [.i n]) inI := by
 intro fuel cs d ps h
 cases fuel with
 | zero => simp [DataW.trod] at h
 | succ fuel =>
  unfold DataW.trod at h
  split at h <;> rename_i heq <;> (try rw [hu] at heq) <;> first | (cases heq; done) | skip
  ·cases heq
   rename_i k' n
   split at h
   ·rename_i hk
    obtain ⟨rfl, hw⟩ := hk
    refine ⟨n, ?_, rfl, by simp [RepL, Rep], by simp [Value.oneCell']⟩
    simp [Lit.wf, IntKind.min, IntKind.max, IntKind.signed, IntKind.bits] at hw
    unfold inI
    omega
   ·cases h
  ·cases h
theorem Qtx {t : TypeId} {fs : Array Field} (hu : P.underlying t = some (.struct fs)) {e : α → List V} {ok : α → Prop}
  (hf : ∀ fuel (cs : List Value) xs, cs.length = P.cellsOf t → (fs.toList.mapM fun f => DataW.trod enc P W 0 (fun _ => true) true fuel f.type ((cs.drop f.offset).take (P.cellsOf f.type))) = some xs →
   ∃ a, ok a ∧ (e a).length = cs.length ∧ RepL (Qld W) W noO (e a) cs ∧ ∀ c ∈ cs, c.oneCell' = true) : Rd enc P W t e ok := by
 intro fuel cs d ps h
 cases fuel with
 | zero => simp [DataW.trod] at h
 | succ fuel =>
  unfold DataW.trod at h
  split at h <;> rename_i heq <;> (try rw [hu] at heq) <;> first | (cases heq; done) | skip
  ·cases heq
   split at h
   ·rename_i hl
    simp only [Qr] at h
    obtain ⟨xs, hx, _⟩ := h
    exact hf fuel _ xs hl hx
   ·cases h
  ·cases h
def RdF (enc : TypeId × Value → H) (P : Program) (W : World) (n : Nat) (fs : List Field) (off : Nat) (e : α → List V) (ok : α → Prop) : Prop :=
 ∀ fuel (cs : List Value) xs, cs.length = n → (fs.mapM fun f => DataW.trod enc P W 0 (fun _ => true) true fuel f.type ((cs.drop f.offset).take (P.cellsOf f.type))) = some xs →
  ∃ a, ok a ∧ (e a).length = (cs.drop off).length ∧ RepL (Qld W) W noO (e a) (cs.drop off) ∧ ∀ c ∈ cs.drop off, c.oneCell' = true
theorem Zat {n off : Nat} (h : n ≤ off) : RdF enc P W n [] off (fun _ : Unit => []) (fun _ => True) := by
 intro fuel cs xs hl _
 have : cs.drop off = [] := by rw [Qk]; omega
 exact ⟨(), trivial, by rw [this]; rfl, by simp [RepL], by rw [this]; simp⟩
theorem Qxa {n off k : Nat} {f : Field} {fs : List Field} {e1 : α → List V} {ok1 : α → Prop} {e2 : β → List V} {ok2 : β → Prop} (h1 : f.offset = off) (h2 : P.cellsOf f.type = k) (hr : Rd enc P W f.type e1 ok1)
  (hs : RdF enc P W n fs (off + k) e2 ok2) : RdF enc P W n (f :: fs) off (fun p : α × β => e1 p.1 ++ e2 p.2) (fun p => ok1 p.1 ∧ ok2 p.2) := by
 intro fuel cs xs hl h
 rw [Qu] at h
 cases hx : DataW.trod enc P W 0 (fun _ => true) true fuel f.type ((cs.drop f.offset).take (P.cellsOf f.type)) with
 | none => simp [hx] at h
 | some x =>
  cases hxs : fs.mapM (fun f => DataW.trod enc P W 0 (fun _ => true) true fuel f.type ((cs.drop f.offset).take (P.cellsOf f.type))) with
  | none => simp [hx, hxs] at h
  | some ys =>
   rw [h1, h2] at hx
   obtain ⟨a, a1, a2, a3, a4⟩ := hr fuel _ x.1 x.2 hx
   obtain ⟨b, b1, b2, b3, b4⟩ := hs fuel cs ys hl hxs
   have e : cs.drop off = (cs.drop off).take k ++ cs.drop (off + k) := by rw [← Qv, Qh]
   refine ⟨(a, b), ⟨a1, b1⟩, ?_, ?_, ?_⟩
   ·rw [e, Qz, Qz, a2, b2]
   ·rw [e]; exact RepL.append _ _ _ _ a3 a2.symm b3
   ·rw [e]
    intro c hc
    rcases Qt.1 hc with hc | hc
    ·exact a4 c hc
    ·exact b4 c hc
theorem RdF.rd {t : TypeId} {fs : Array Field} (hu : P.underlying t = some (.struct fs)) {e : α → List V} {ok : α → Prop} (h : RdF enc P W (P.cellsOf t) fs.toList 0 e ok) : Rd enc P W t e ok :=
 Qtx hu fun fuel cs xs hl hx => by simpa using h fuel cs xs hl hx
theorem Qu4 {es : Nat} {e : α → List V} {ok : α → Prop} {cur : List Value} : ∀ (len off : Nat), (∀ i, i < len → ∃ x, ok x ∧ (e x).length = es ∧ (∀ c ∈ (cur.drop (off + i * es)).take es, c.oneCell' = true) ∧ RepL (Qld W) W noO (e x) (cur.drop (off + i * es))) →
  ∃ l : List α, l.length = len ∧ (∀ x ∈ l, ok x) ∧ Qax (Qld W) W es (l.map e) (cur.drop off)
 | 0, _, _ => ⟨[], rfl, by simp, by simp [Qax]⟩
 | len + 1, off, h => by
  obtain ⟨x, x1, x2, x3, x4⟩ := h 0 (by omega)
  obtain ⟨l, l1, l2, l3⟩ := Qu4 len (off + es) fun i hi => by
   have := h (i + 1) (by omega)
   rwa [Nat.succ_mul, show off + (i * es + es) = off + es + i * es by omega] at this
  simp only [Nat.zero_mul, Nat.add_zero] at x3 x4
  refine ⟨x :: l, by simp [l1], ?_, ?_⟩
  ·intro y hy
   rcases Qj.1 hy with rfl | hy
   ·exact x1
   ·exact l2 y hy
  ·simp only [Qa, Qax]
   exact ⟨⟨x2, x3⟩, x4, by rw [Qv]; exact l3⟩
theorem Qea {t el : TypeId} {es : Nat} {e : α → List V} {ok : α → Prop} (hu : P.underlying t = some (.slice el)) (hk : P.cellsOf el = es) (h0 : es ≠ 0) (he : Rd enc P W el e ok) :
  Rd enc P W t (fun l : List α => [.sl es (l.map e)]) (fun l => (∀ x ∈ l, ok x) ∧ l.length ≤ maxLen) := by
 intro fuel cs d ps h
 cases fuel with
 | zero => simp [DataW.trod] at h
 | succ fuel =>
  unfold DataW.trod at h
  split at h <;> rename_i heq <;> (try rw [hu] at heq) <;> first | (cases heq; done) | skip
  ·exact ⟨[], by simp, rfl, by simp [RepL, Rep], by simp [Value.oneCell']⟩
  ·cases heq
   rename_i a len cap
   split at h
   ·rename_i hb
    obtain ⟨_, hlc, hcm⟩ := hb
    rw [Qf] at h
    obtain ⟨elems, hel, _⟩ := h
    have hlen := mapM_some_length hel
    simp only [List.length_range] at hlen
    have hget : ∀ i, i < len → ∃ row x, W.cells? 0 (a.add (i * es)) es = some row ∧ ok x ∧ (e x).length = es ∧ RepL (Qld W) W noO (e x) row ∧ ∀ c ∈ row, c.oneCell' = true := by
     intro i hi
     have h1 := mapM_some_get hel i i (by simp [hi])
     rw [Qb (by omega), hk, Qf] at h1
     obtain ⟨row, hrow, hx⟩ := h1
     obtain ⟨x, x1, x2, x3, x4⟩ := he fuel row _ _ hx
     exact ⟨row, x, hrow, x1, by rw [x2]; exact (World.cells?_some hrow).2.1, x3, x4⟩
    cases len with
    | zero => exact ⟨[], by simp, rfl, by simp [RepL, Rep], by simp [Value.oneCell']⟩
    | succ len =>
     obtain ⟨blk, off, spot⟩ := a
     obtain ⟨row0, _, hrow0, _⟩ := hget 0 (by omega)
     have hc0 := (World.cells?_some hrow0).2.2 0 (by omega)
     have hl0 := (World.cells?_some hrow0).2.1
     rw [Qb (by omega)] at hc0
     simp only [Nat.zero_mul, Addr.add, if_true, World.cell?] at hc0
     cases hbk : W.heap[blk]? with
     | none => rw [hbk] at hc0; cases hc0
     | some o =>
      rw [hbk] at hc0
      cases o <;> first | (cases hc0; done) | skip
      rename_i cur elt fr
      cases spot with
      | some s => simp at hc0
      | none =>
       have hrows : ∀ i, i < len + 1 → ∃ x, ok x ∧ (e x).length = es ∧ (∀ c ∈ (cur.toList.drop (off + i * es)).take es, c.oneCell' = true) ∧ RepL (Qld W) W noO (e x) (cur.toList.drop (off + i * es)) := by
        intro i hi
        obtain ⟨row, x, hrow, x1, x2, x3, x4⟩ := hget i hi
        obtain ⟨_, r2, r3⟩ := World.cells?_some hrow
        have hadd : ∀ m, (⟨blk, off, none⟩ : Addr).add m = ⟨blk, off + m, none⟩ := by
         intro m; unfold Addr.add; split
         ·subst m; rfl
         ·rfl
        have hrw : row = (cur.toList.drop (off + i * es)).take es := by
         apply Qp
         intro j
         by_cases hj : j < es
         ·have := r3 j hj
          rw [hadd, show (⟨blk, off + i * es, none⟩ : Addr).add j = ⟨blk, off + i * es + j, none⟩ from by unfold Addr.add; split <;> simp_all] at this
          simp only [World.cell?, hbk, Option.isSome_none, Qc, if_false] at this
          rw [← this, Qn, if_pos hj, List.getElem?_drop, Array.getElem?_toList]
         ·rw [Qi (by omega), Qi (by simp; omega)]
        refine ⟨x, x1, x2, by rw [← hrw]; exact x4, ?_⟩
        have := RepL.more (e x) row ((cur.toList.drop (off + i * es)).drop es) x3
        rwa [hrw, Qh] at this
       obtain ⟨l, l1, l2, l3⟩ := Qu4 (len + 1) off hrows
       refine ⟨l, ⟨l2, by rw [l1]; omega⟩, rfl, ?_, by simp [Value.oneCell']⟩
       simp only [RepL, Rep, and_true]
       refine ⟨_, cap, by rw [Q5, l1], by simp; omega, .inr ⟨blk, off, cur, elt, fr, rfl, ?_, hbk, l3⟩⟩
       exact (Array.getElem?_eq_some_iff.1 hbk).1
   ·cases h
  ·cases h
def RdP (enc : TypeId × Value → H) (P : Program) (W : World) (n : Nat) (ps : List (TypeId × Nat)) (off : Nat) (e : α → List V) (ok : α → Prop) : Prop :=
 ∀ fs : List Field, fs.map (fun f => (f.type, f.offset)) = ps → RdF enc P W n fs off e ok
theorem Qe1 {n off : Nat} (h : n ≤ off) : RdP enc P W n [] off (fun _ : Unit => []) (fun _ => True) := by
 intro fs hf
 have : fs = [] := by simpa using hf
 subst this
 exact Zat h
theorem Qb0 {n off k : Nat} {t : TypeId} {ps : List (TypeId × Nat)} {e1 : α → List V} {ok1 : α → Prop} {e2 : β → List V} {ok2 : β → Prop} (h2 : P.cellsOf t = k) (hr : Rd enc P W t e1 ok1)
  (hs : RdP enc P W n ps (off + k) e2 ok2) : RdP enc P W n ((t, off) :: ps) off (fun p : α × β => e1 p.1 ++ e2 p.2) (fun p => ok1 p.1 ∧ ok2 p.2) := by
 intro fs hf
 cases fs with
 | nil => cases hf
 | cons f fs =>
  simp only [Qa, List.cons.injEq, Prod.mk.injEq] at hf
  obtain ⟨⟨rfl, ho⟩, hf⟩ := hf
  exact Qxa ho h2 hr (hs fs hf)
theorem RdP.rd {t : TypeId} {fs : Array Field} {n : Nat} {ps : List (TypeId × Nat)} (hu : P.underlying t = some (.struct fs)) (hn : P.cellsOf t = n) (hp : fs.toList.map (fun f => (f.type, f.offset)) = ps) {e : α → List V} {ok : α → Prop} (h : RdP enc P W n ps 0 e ok) : Rd enc P W t e ok := by
 subst hn
 exact RdF.rd hu (h _ hp)
def RdV (enc : TypeId × Value → H) (P : Program) (W : World) (t : TypeId) (e : α → V) (ok : α → Prop) : Prop :=
 ∀ v d ps base, DataW.Trod enc P W 0 (fun _ => true) true t v d ps → Value.okWide P W .any base t v → ∃ a, ok a ∧ Rep (Qld W) W noO (e a) v
theorem Rd.agg {t : TypeId} {fs : Array Field} (hu : P.underlying t = some (.struct fs)) {e : α → List V} {ok : α → Prop} (h : Rd enc P W t e ok) : RdV enc P W t (fun a => .ag (e a)) ok := by
 rintro v d ps base ⟨fuel, hf⟩ hw
 obtain ⟨cs, rfl, _⟩ := okWide_struct hu hw
 obtain ⟨a, h1, h2, h3, _⟩ := h fuel _ d ps hf
 exact ⟨a, h1, cs, rfl, by simpa [Value.cells] using h2.symm, by simpa [Value.cells] using h3⟩
theorem Rd.one {t : TypeId} {e : α → V} {ok : α → Prop} (hone : ∀ v base, Value.okWide P W .any base t v → v.oneCell' = true) (h : Rd enc P W t (fun a => [e a]) ok) : RdV enc P W t e ok := by
 rintro v d ps base ⟨fuel, hf⟩ hw
 have hc := hone v base hw
 have hcs : v.cells.toList = [v] := by cases v <;> simp [Value.oneCell'] at hc <;> rfl
 rw [hcs] at hf
 obtain ⟨a, h1, _, h3, _⟩ := h fuel _ d ps hf
 simp only [RepL, and_true] at h3
 exact ⟨a, h1, h3⟩
theorem Qtq {t el : TypeId} (hu : P.underlying t = some (.slice el)) (v : Value) (base : Nat) (h : Value.okWide P W .any base t v) : v.oneCell' = true := by
 obtain ⟨a, l, c, rfl⟩ := okWide_slice hu h; rfl
def RdA (enc : TypeId × Value → H) (P : Program) (W : World) (ts : List TypeId) (e : α → List V) (ok : α → Prop) : Prop :=
 ∀ vs ds ps base, DataW.TrodAll enc P W 0 (fun _ => true) true ts vs ds ps → (∀ (j : Nat) t v, ts[j]? = some t → vs[j]? = some v → Value.okWide P W .any base t v) → ∃ a, ok a ∧ (e a).length = vs.length ∧ RepL (Qld W) W noO (e a) vs
theorem Zij : RdA enc P W [] (fun _ : Unit => []) (fun _ => True) := by
 intro vs ds ps base h _
 obtain ⟨rfl, _, _⟩ := trodAll_nil h
 exact ⟨(), trivial, rfl, by simp [RepL]⟩
theorem Zgn {t : TypeId} {ts : List TypeId} {e1 : α → V} {ok1 : α → Prop} {e2 : β → List V} {ok2 : β → Prop} (h1 : RdV enc P W t e1 ok1) (h2 : RdA enc P W ts e2 ok2) :
  RdA enc P W (t :: ts) (fun p : α × β => e1 p.1 :: e2 p.2) (fun p => ok1 p.1 ∧ ok2 p.2) := by
 intro vs ds ps base h hv
 obtain ⟨v, vs', d, ds', p, q, rfl, rfl, rfl, ha, hb⟩ := trodAll_cons h
 obtain ⟨a, a1, a2⟩ := h1 v d p base ha (hv 0 t v rfl rfl)
 obtain ⟨b, b1, b2, b3⟩ := h2 vs' ds' q base hb fun j t v hj hv' => hv (j + 1) t v (by simpa using hj) (by simpa using hv')
 exact ⟨(a, b), ⟨a1, b1⟩, by simp [b2], a2, b3⟩
theorem Qhz (hl : laidOutB P = true) {W' : World} {sp' : Nat → Bool} : ∀ {ts : List TypeId} {vs : List Value} {ds : List (DataW H)} {ps : List MemPlace}, (ts.all fun t => P.readableRec t && decide (t < P.types.size)) = true →
  DataW.TrodAll enc P W 0 (fun _ => true) true ts vs ds ps → (∀ p ∈ ps, W.sameAt W' p) → (∀ p ∈ ps, sp' p.block = true) → DataW.TrodAll enc P W' 0 sp' true ts vs ds ps
 | [], vs, ds, ps, _, h, _, _ => by
  obtain ⟨rfl, rfl, rfl⟩ := trodAll_nil h
  exact trodAll_mk0
 | t :: ts, vs, ds, ps, hr, h, hs, hsp => by
  obtain ⟨v, vs', d, ds', p, q, rfl, rfl, rfl, ha, hb⟩ := trodAll_cons h
  simp only [List.all_cons, Bool.and_eq_true, decide_eq_true_eq] at hr
  exact trodAll_cons_mk (WideElems.Trod_stays hl hr.1.1 hr.1.2 ha (fun x hx => hs x (by simp [hx])) fun x hx => hsp x (by simp [hx]))
   (Qhz hl hr.2 hb (fun x hx => hs x (by simp [hx])) fun x hx => hsp x (by simp [hx]))
theorem Qmr {W' : World} (h : Below W.heap.size W W') (may : MemPlace → Prop) : W.keptBut W' may := by
 refine ⟨h.os, h.output, fun i hi => ?_⟩
 rw [h.block i hi]
 cases W.heap[i]? with
 | none => rfl
 | some o => cases o <;> first | exact ⟨rfl, rfl, rfl, fun _ _ => rfl⟩ | exact .inr ⟨rfl, rfl⟩ | rfl
open Go.ChangeShapes Go.WideShapes Go.ChangeAt Go.RowKit in
theorem Qtt {H : Type} {enc : TypeId × Value → H} {P : Program} {f : Func} {s : ChangeSpec} {apart fresh handsOn again : Bool} {W W' : World} {args : Array Value} {v : Value} {ds gs : List (DataW H)} {before pa pv : List MemPlace}
  (hW : DataW.Whole enc P f.params.toList s.vars apart W args.toList ds gs before)
  (hres : ∀ (b : Nat) (sp : Nat → Bool) (hd : Bool), DataW.TrodAll enc P W' b sp hd f.resultTypes.toList (v.resultList f.resultTypes.size) (s.fn H (ds ++ gs)).results [])
  (hargs : ∀ sp : Nat → Bool, (∀ p ∈ before, sp p.block = true) → DataW.TrodAll enc P W' 0 sp true f.params.toList args.toList (s.fn H (ds ++ gs)).args pa)
  (hvars : ∀ sp : Nat → Bool, (∀ p ∈ before, sp p.block = true) → DataW.TrodVars enc P W' sp s.vars (s.fn H (ds ++ gs)).vars pv)
  (hps : before = pa ++ pv) (hk : W.keptBut W' (· ∈ before)) (hfz : ∀ a, a.block < W.heap.size → W'.frozen? a = W.frozen? a)
  (hok : ∀ (j : Nat) (t : TypeId) (r : Value), f.resultTypes[j]? = some t → (v.resultList f.resultTypes.size)[j]? = some r → Value.okWide P W' .any 0 t r) :
  s.post enc P f apart fresh handsOn again W args v W' := by
 have hlt := hW.lt
 have hold : ∀ p ∈ before, (fun b => decide (b < W.heap.size)) p.block = true := fun p hp => by simpa using hW.lt p hp
 refine ⟨ds, gs, before, [], pa, pv, hW, hres _ _ _, hargs _ hold, hvars _ hold, World.keptBut_mono (fun p hp => ⟨hp, ?_⟩) hk, fun _ => ?_⟩
 ·rw [hps, Qt] at hp
  exact Or.inr hp
 ·obtain ⟨_, _, _, _, _, hz, hn⟩ := hW
  refine ⟨hok, _, _, ([] ++ pa) ++ pv, ⟨[] ++ pa, pv, trodAll_append (hargs _ (fun _ _ => rfl)) (hres _ _ _), hvars _ (fun _ _ => rfl), rfl, ?_, ?_⟩, ?_⟩
  ·intro b off hp
   have hp' : MemPlace.cell b off ∈ before := by rw [hps]; simpa using hp
   rw [hfz _ (hlt _ hp')]
   exact hz b off hp'
  ·intro ha
   have := hn ha
   rw [hps] at this
   simpa using this
  ·intro p hp _
   rw [hps]
   simpa using hp
theorem bridge {F : FuncId} {fn : Func} {s : ChangeSpec} {fresh : Bool} (hl : laidOutB P = true) {e : α → List V} {ok : α → Prop} {ts : List TypeId} (hts : fn.params.toList = ts) (hrd : ∀ W, RdA enc P W ts e ok)
  (hreads : (ts.all fun t => P.readableRec t && decide (t < P.types.size)) = true) (hvars : s.vars = []) (hfn : ∀ ds : List (DataW H), ds.length = ts.length → s.fn H ds = { results := [.lit (.bool true)], args := ds })
  {tb : TypeId} (hres : fn.resultTypes = #[tb]) (hb : P.underlying tb = some .bool) (hlaw : ∀ a, ok a → Qa5 P F (e a) (.b true))
  {W : World} {base : Nat} {args : Array Value} {ds gs : List (DataW H)} {before : List MemPlace}
  (hval : ∀ (j : Nat) t v, fn.params[j]? = some t → args[j]? = some v → Value.okWide P W .any base t v) (hW : DataW.Whole enc P fn.params.toList s.vars false W args.toList ds gs before) :
  Calls P F args W fun e' W' => ∃ v, e' = .returned v ∧ s.post enc P fn false fresh false false W args v W' := by
 have hW' := hW
 obtain ⟨p, q, hA, hV, rfl, hfz, hnd⟩ := hW
 have hlt : ∀ x ∈ p ++ q, x.block < W.heap.size := hW'.lt
 rw [hts] at hA
 have hlen : ds.length = ts.length ∧ args.toList.length = ts.length := by
  have : ∀ (ts : List TypeId) (vs : List Value) (ds : List (DataW H)) (ps : List MemPlace), DataW.TrodAll enc P W 0 (fun _ => true) true ts vs ds ps → ds.length = ts.length ∧ vs.length = ts.length := by
   intro ts
   induction ts with
   | nil => intro vs ds ps h; obtain ⟨rfl, rfl, rfl⟩ := trodAll_nil h; exact ⟨rfl, rfl⟩
   | cons t ts ih =>
    intro vs ds ps h
    obtain ⟨v, vs', d, ds', p, q, rfl, rfl, rfl, _, hb⟩ := trodAll_cons h
    have := ih _ _ _ hb
    simp [this.1, this.2]
  exact this _ _ _ _ hA
 rw [hvars] at hV
 obtain ⟨rfl, rfl⟩ : gs = [] ∧ q = [] := trodVars_none hV
 obtain ⟨a, h1, h2, h3⟩ := hrd W _ _ _ base hA fun j t v hj hv => hval j t v (by rw [← hts] at hj; simpa using hj) (by simpa using hv)
 refine (hlaw a h1 (Qld W) W args (fun _ h => h) (by simpa using h2.symm) h3).mono ?_
 rintro e' W' ⟨c, rfl, hev, hrep⟩
 simp only [Rep] at hrep
 subst hrep
 have hbl : Below W.heap.size W W' := ⟨hev.os, hev.tape, hev.output, hev.size, fun k hk => hev.old k hk (by rintro ⟨id, g, h⟩; cases h)⟩
 have hfe : s.fn H (ds ++ []) = { results := [.lit (.bool true)], args := ds } := by rw [List.append_nil]; exact hfn ds hlen.1
 refine ⟨_, rfl, Qtt (pa := p) (pv := []) hW' (fun b sp hd => ?_) (fun sp hsp => ?_) (fun sp hsp => ?_) rfl (Qmr hbl _) hev.fz (ok_one hres rfl (okWide_bool_mk hb _))⟩
 ·rw [hfe, hres]
  exact trodAll_mk1 (shut_bool hb true)
 ·rw [hfe, hts]
  exact Qhz hl hreads hA (fun x hx => hbl.same (hlt x (by simp [hx]))) fun x hx => hsp x (by simp [hx])
 ·rw [hfe, hvars]
  rfl
end Go.Fam
namespace Go.Fam
variable {Γ : Gam} {E : TypeId → Nat → Prop} {Q : Exit → St → Prop} {σ : St}
theorem Qf7.mono {P : Program} {f : FuncId} {args : List V} {R R' : V → List Blk → Prop} (h : Qf7 P f args R) (hr : ∀ r hp, R r hp → R' r hp) : Qf7 P f args R' := fun S w cargs h1 h2 h3 =>
 Calls.mono (h S w cargs h1 h2 h3) fun e w' ⟨c, S', O', r, hp, he, hR, hx⟩ => ⟨c, S', O', r, hp, he, hr _ _ hR, hx⟩
def cmKs (xs : List Int) : List (List Int) := xs.foldl (fun ks x => putK ks [x]) []
def cmVs (xs : List Int) : List V := (cmKs xs).map fun k => .i (xs.count (k.headD 0))
def cm (xs : List Int) : Blk := .map false (cmKs xs) (cmVs xs)
theorem Qfu (xs : List Int) (x : Int) : cmKs (xs ++ [x]) = putK (cmKs xs) [x] := by simp [cmKs]
theorem Qbo {α : Type} {p : List α → Prop} (h0 : p []) (hs : ∀ l x, p l → p (l ++ [x])) (l : List α) : p l := by
 have : ∀ r : List α, p r.reverse := by
  intro r
  induction r with
  | nil => exact h0
  | cons x r ih => rw [List.reverse_cons]; exact hs _ _ ih
 simpa using this l.reverse
theorem Qmy {ks : List (List Int)} {l k : List Int} : k ∈ putK ks l ↔ k ∈ ks ∨ k = l := by
 unfold putK
 split
 ·rename_i h
  constructor
  ·exact .inl
  ·rintro (h' | rfl) <;> assumption
 ·simp
theorem Qqh (xs : List Int) : ∀ k, k ∈ cmKs xs ↔ ∃ x, x ∈ xs ∧ k = [x] := by
 refine Qbo (p := fun xs => ∀ k, k ∈ cmKs xs ↔ ∃ x, x ∈ xs ∧ k = [x]) (by simp [cmKs]) (fun l x ih k => ?_) xs
 rw [Qfu, Qmy, ih]
 simp only [Qt, List.mem_singleton]
 constructor
 ·rintro (⟨y, hy, rfl⟩ | rfl)
  ·exact ⟨y, .inl hy, rfl⟩
  ·exact ⟨x, .inr rfl, rfl⟩
 ·rintro ⟨y, hy | rfl, rfl⟩
  ·exact .inl ⟨y, hy, rfl⟩
  ·exact .inr rfl
theorem Qrb (xs : List Int) : (cmKs xs).Nodup :=
 Qbo (p := fun xs => (cmKs xs).Nodup) (by simp [cmKs]) (fun l x ih => by rw [Qfu]; exact Qgg ih) xs
theorem Qoa {ks : List (List Int)} {l : List Int} (h : l ∈ ks) : ks[ks.idxOf l]? = some l := by
 have hl := Qq.2 h
 rw [Qb hl, List.getElem_idxOf hl]
theorem Zcp (xs : List Int) (x : Int) : ((cmVs xs)[(cmKs xs).idxOf [x]]?).getD (.i 0) = .i (xs.count x) := by
 unfold cmVs
 by_cases h : [x] ∈ cmKs xs
 ·rw [Qg, Qoa h]; rfl
 ·have hx : x ∉ xs := fun hx => h ((Qqh xs _).2 ⟨x, hx, rfl⟩)
  have : (cmKs xs).idxOf [x] = (cmKs xs).length := Qw h
  rw [this, Qi (by simp), Q0.2 hx]; rfl
theorem Zcq (xs : List Int) (x : Int) : Qh4 (cmKs xs) (cmVs xs) [x] (.i ((xs.count x : Int) + 1)) = cmVs (xs ++ [x]) := by
 have hone : ∀ k ∈ cmKs xs, k = [k.headD 0] := by
  intro k hk
  obtain ⟨y, _, rfl⟩ := (Qqh xs k).1 hk
  rfl
 have hne : ∀ k ∈ cmKs xs, k ≠ [x] → (xs ++ [x]).count (k.headD 0) = xs.count (k.headD 0) := by
  intro k hk hkx
  have : k.headD 0 ≠ x := fun e => hkx (by rw [hone k hk, e])
  have hc : [x].count (k.headD 0) = 0 := Q0.2 (by simpa using this)
  rw [List.count_append, hc, Nat.add_zero]
 have hx : (xs ++ [x]).count x = xs.count x + 1 := by simp
 unfold Qh4 cmVs
 rw [Qfu]
 unfold putK
 split
 ·rename_i h
  apply Qp
  intro i
  rw [List.getElem?_set]
  by_cases hi : (cmKs xs).idxOf [x] = i
  ·subst hi
   rw [if_pos rfl, if_pos (by rw [Q5]; exact Qq.2 h), Qg, Qoa h]
   simp
  ·rw [if_neg hi, Qg, Qg]
   cases hk : (cmKs xs)[i]? with
   | none => rfl
   | some k =>
    have hne' : k ≠ [x] := by
     rintro rfl
     have hil := Qaf hk
     exact hi (by
      have := (Qrb xs).idxOf_getElem i hil
      rw [Qb hil] at hk
      rw [← this, Q3.inj hk])
    simp only [Q6]
    rw [hne k (Qx hk) hne']
 ·rename_i h
  rw [List.map_append]
  congr 1
  ·apply Qm
   intro k hk
   rw [hne k hk (fun e => h (e ▸ hk))]
  ·simp
theorem Qzl (xs : List Int) (x : Int) : Blk.map false (putK (cmKs xs) [x]) (Qh4 (cmKs xs) (cmVs xs) [x] (.i ((xs.count x : Int) + 1))) = cm (xs ++ [x]) := by
 rw [Zcq, ← Qfu]; rfl
mutual
theorem Qm4 (f : Nat → Nat) : ∀ v : V, Qa2 v = false → renV f v = v
 | .u, _ | .b _, _ | .i _, _ | .z _, _ | .sl _ _, _ | .sx _ _, _ | .pa _, _ | .pn, _ | .yl _, _ | .w _ _, _ | .pm _ _ _, _ | .fb _ _, _ => by simp [renV]
 | .ag cs, h | .tp cs, h => by simp only [Qa2] at h; simp only [renV, Qdr f cs h]
 | .fn g cs, h => by simp only [Qa2] at h; simp only [renV, Qdr f cs h]
 | .gv q v, h => by simp only [Qa2] at h; simp only [renV, Qm4 f v h]
 | .ad _ _ _, h | .rf _ _ _ _ _, h | .mp _ _, h | .it _ _, h => by simp [Qa2] at h
theorem Qdr (f : Nat → Nat) : ∀ vs : List V, Qa1 vs = false → renL f vs = vs
 | [], _ => rfl
 | v :: vs, h => by
  simp only [Qa1, Bool.or_eq_false_iff] at h
  simp only [renL, Qm4 f v h.1, Qdr f vs h.2]
end
theorem Qge (xs : List Int) : Qa1 (cmVs xs) = false := by
 unfold cmVs
 generalize cmKs xs = ks
 induction ks with
 | nil => rfl
 | cons k ks ih => rw [Qa]; simp only [Qa1, Qa2, ih]; rfl
end Go.Fam
set_option linter.unusedSimpArgs false
namespace Go.Fam
variable {β : Type}
abbrev AM (β : Type) := List (List Int × β)
def aks (m : AM β) : List (List Int) := m.map (·.1)
def avs (g : β → V) (m : AM β) : List V := m.map fun e => g e.2
def aput (m : AM β) (k : List Int) (x : β) : AM β := if k ∈ aks m then m.map (fun e => if e.1 = k then (k, x) else e) else m ++ [(k, x)]
def aget (m : AM β) (k : List Int) : Option β := (m.find? fun e => decide (e.1 = k)).map (·.2)
theorem Qi5 (m : AM β) (k : List Int) (x : β) : aks (aput m k x) = putK (aks m) k := by
 unfold aput putK
 by_cases h : k ∈ aks m
 ·rw [if_pos h, if_pos h]
  unfold aks
  rw [List.map_map]
  refine Qm fun e _ => ?_
  by_cases he : e.1 = k <;> simp [he]
 ·rw [if_neg h, if_neg h]; simp [aks]
theorem Qng {m : AM β} (h : (aks m).Nodup) (k : List Int) (x : β) : (aks (aput m k x)).Nodup := by
 rw [Qi5]; exact Qgg h
theorem Za7 {m : AM β} {k : List Int} : k ∈ aks m ↔ (aget m k).isSome = true := by
 unfold aks aget
 rw [Option.isSome_map, List.find?_isSome]
 simp
theorem Qrz (g : β → V) (m : AM β) : (avs g m).length = (aks m).length := by simp [avs, aks]
theorem Qmc (g : β → V) (m : AM β) (k : List Int) : (avs g m)[(aks m).idxOf k]? = (aget m k).map g := by
 induction m with
 | nil => rfl
 | cons e m ih =>
  simp only [avs, aks, Qa] at ih ⊢
  by_cases h : e.1 = k
  ·subst h; simp [aget]
  ·have h1 : (e.1 == k) = false := by simpa using h
   rw [Q7, h1]
   simp only [aget, Ql, h, decide_false] at ih ⊢
   simpa using ih
theorem Qm9 (m : AM β) (k k' : List Int) (x : β) : aget (aput m k x) k' = if k' = k then some x else aget m k' := by
 unfold aput
 split
 ·rename_i h
  by_cases he : k' = k
  ·subst he
   rw [if_pos rfl]
   induction m with
   | nil => simp [aks] at h
   | cons e m ih =>
    by_cases h1 : e.1 = k'
    ·simp [aget, h1]
    ·have : k' ∈ aks m := by simp only [aks, Qa, Qj] at h; rcases h with h | h; exact absurd h.symm h1; exact h
     have := ih this
     simpa [aget, h1] using this
  ·rw [if_neg he]
   clear h
   induction m with
   | nil => rfl
   | cons e m ih =>
    by_cases h1 : e.1 = k
    ·have h2 : ¬ e.1 = k' := fun h => he (by rw [← h, h1])
     have h3 : ¬ k = k' := fun h => he h.symm
     simp only [aget, Qa, Ql, h1, ↓reduceIte, h3, h2, decide_false] at ih ⊢
     rw [← h1]; simpa [h1] using ih
    ·by_cases h2 : e.1 = k'
     ·simp only [aget, Qa, Ql, h1, ↓reduceIte, h2, decide_true, if_neg he]
     ·simp only [aget, Qa, Ql, h1, ↓reduceIte, h2, decide_false] at ih ⊢
      exact ih
 ·rename_i h
  unfold aget
  rw [List.find?_append]
  by_cases he : k' = k
  ·subst he
   have : m.find? (fun e => decide (e.1 = k')) = none := by
    rw [List.find?_eq_none]
    intro e hm hd
    exact h (List.mem_map.2 ⟨e, hm, by simpa using hd⟩)
   simp [this]
  ·have h3 : ¬ k = k' := fun h => he h.symm
   simp [he, h3]
theorem Qp9 {m : AM β} (hn : (aks m).Nodup) (g : β → V) (k : List Int) (x : β) : Qh4 (aks m) (avs g m) k (g x) = avs g (aput m k x) := by
 unfold Qh4 aput
 split
 ·rename_i h
  induction m with
  | nil => rfl
  | cons e m ih =>
   simp only [aks, Qa, Qd] at hn
   simp only [avs, aks, Qa] at ih ⊢
   by_cases h : e.1 = k
   ·subst h
    rw [List.idxOf_cons_self, List.set_cons_zero, if_pos rfl]
    congr 1
    rw [List.map_map]
    refine Qm fun e' he' => ?_
    have : e'.1 ≠ e.1 := fun h => hn.1 (h ▸ List.mem_map.2 ⟨_, he', rfl⟩)
    simp [this]
   ·have h1 : (e.1 == k) = false := by simpa using h
    rw [Q7, h1, if_neg h]
    simp only [Bool.cond_false]
    rw [List.set_cons_succ, ih hn.2]
    rename_i h9
    simp only [aks, Qa, Qj] at h9
    exact h9.resolve_left fun h8 => h h8.symm
 ·simp [avs]
theorem Qtg {ks : List (List Int)} {vs : List V} (hl : vs.length = ks.length) (l : List Int) (zc v : V) : (if l ∈ ks then vs else vs ++ [zc]).set (ks.idxOf l) v = Qh4 ks vs l v := by
 unfold Qh4
 split
 ·rfl
 ·rename_i h
  rw [Qw h, ← hl, List.set_append_right _ _ (Q4 _)]
  simp
theorem Qkj {g : β → V} (h : ∀ x, Qa2 (g x) = false) (m : AM β) : Qa1 (avs g m) = false := by
 unfold avs
 induction m with
 | nil => rfl
 | cons e m ih => rw [Qa]; simp only [Qa1, h, ih]; rfl
theorem Zgm (hp : List Blk) (n id g : Nat) : vw hp (n + 1) (.mp id g) = match hp[id]? with
   | some (.map st ks vs) => if g = 0 then .pm st ks (vs.map (vw hp n)) else .u
   | _ => .u := rfl
theorem Qxe (hp : List Blk) (n : Nat) (x : Int) : rdV hp (n + 1) (.i x) = [] := rfl
theorem Qqp (hp : List Blk) (n : Nat) (e : Nat) (r : List (List V)) : rdV hp (n + 1) (.sl e r) = [] := rfl
theorem Qqo (hp : List Blk) (n : Nat) (cs : List V) : rdV hp (n + 1) (.ag cs) = cs.flatMap (rdV hp n) := rfl
end Go.Fam
namespace Go.Fam
variable {P : Program}
def Qo2 (P : Program) : Nat → TypeId → Option Nat
 | 0, _ => none
 | d + 1, t => match P.underlying t with
  | some (.int .i64) => some 1
  | some (.struct fs) => if P.stoodInHeld t || (szB P t).isNone then none else
   match fs.toList.foldlM (fun off f => if f.name == "_" || f.offset != off then none else (Qo2 P d f.type).map (off + ·)) 0 with
   | some n => if szB P t == some n then some n else none
   | none => none
  | _ => none
def Qj5 (P : Program) (t : TypeId) (xs : List Int) : Value := if Qce P t then .agg (xs.map (Value.int .i64)).toArray else .int .i64 (xs.headD 0)
structure FlatOk (P : Program) (d : Nat) (t : TypeId) (n : Nat) : Prop where
 eq : ∀ d', d ≤ d' → ∀ (xs ys : List Int) (w : World), xs.length = n → ys.length = n → (Op.equalIn d' t (Qj5 P t xs) (Qj5 P t ys)).run P w = .ok (decide (xs = ys)) w
 key : ∀ d', d ≤ d' → ∀ (xs : List Int) (e : Bool) (w : World), xs.length = n → (Instr.checkKey e d' t (Qj5 P t xs)).run P w = .ok () w
 part : ∀ (xs : List Int) (off : Nat) (w : World), off + n ≤ xs.length → (part t (xs.map (Value.int .i64)).toArray off).run P w = .ok (Qj5 P t ((xs.drop off).take n)) w
theorem Qg5 {α : Type} (xs : List α) (off k : Nat) : xs.drop off = (xs.drop off).take k ++ xs.drop (off + k) := by
 rw [← Qv, Qh]
theorem Qo1 {d : Nat} (ih : ∀ t n, Qo2 P d t = some n → FlatOk P d t n) : ∀ (fs : List Field) (off n : Nat),
  fs.foldlM (fun off f => if f.name == "_" || f.offset != off then none else (Qo2 P d f.type).map (off + ·)) off = some n →
  off ≤ n ∧ ∀ (d' : Nat), d ≤ d' → ∀ (xs ys : List Int) (w : World), xs.length = n → ys.length = n →
   (Op.eqFields d' (xs.map (Value.int .i64)).toArray (ys.map (Value.int .i64)).toArray fs).run P w = .ok (decide (xs.drop off = ys.drop off)) w ∧
   ∀ e, (forIn fs PUnit.unit fun f (_ : PUnit) => (if f.name ≠ "_" then (do let c ← part f.type (xs.map (Value.int .i64)).toArray f.offset; Instr.checkKey e d' f.type c; pure (ForInStep.yield PUnit.unit) : Sem (ForInStep PUnit)) else pure (ForInStep.yield PUnit.unit))).run P w = .ok PUnit.unit w
 | [], off, n, h => by
  simp at h; subst h
  refine ⟨Q4 _, fun d' _ xs ys w hx hy => ⟨?_, fun e => by simp⟩⟩
  have h1 : xs.drop off = [] := by rw [Qk]; omega
  have h2 : ys.drop off = [] := by rw [Qk]; omega
  simp [Op.eqFields, h1, h2]
 | f :: fs, off, n, h => by
  rw [List.foldlM_cons] at h
  by_cases h1 : f.name = "_"
  ·simp [h1] at h
  by_cases h2 : f.offset = off
  ·cases h3 : Qo2 P d f.type with
   | none => simp [h1, h2, h3] at h
   | some k =>
    have hc : (f.name == "_" || f.offset != off) = false := by simp [h1, h2]
    rw [hc] at h
    simp only [Qc, if_false, h3, Q6] at h
    change List.foldlM _ (off + k) fs = some n at h
    obtain ⟨hle, hrest⟩ := Qo1 ih fs (off + k) n h
    have hf := ih _ _ h3
    refine ⟨by omega, fun d' hd xs ys w hx hy => ?_⟩
    have hp1 := hf.part xs off w (by omega)
    have hp2 := hf.part ys off w (by omega)
    have hl1 : ((xs.drop off).take k).length = k := by simp; omega
    have hl2 : ((ys.drop off).take k).length = k := by simp; omega
    have he := hf.eq d' hd ((xs.drop off).take k) ((ys.drop off).take k) w hl1 hl2
    obtain ⟨hr1, hr2⟩ := hrest d' hd xs ys w hx hy
    refine ⟨?_, fun e => ?_⟩
    ·simp only [Op.eqFields, if_pos (show f.name ≠ "_" from h1), Sem.run_bind, h2, hp1, hp2, he, Result.andThen_ok]
     by_cases e : (xs.drop off).take k = (ys.drop off).take k
     ·simp only [e, decide_true, Bool.not_true, Qc, if_false, hr1]
      congr 1
      rw [decide_eq_decide]
      rw [Qg5 xs off k, Qg5 ys off k, e]
      exact List.append_cancel_left_eq _ _ _ ▸ Iff.rfl
     ·simp only [e, decide_false, Bool.not_false, if_true, Sem.run_pure]
      congr 1
      symm
      rw [decide_eq_false_iff_not]
      intro hc
      exact e (by rw [hc])
    ·have hk := hf.key d' hd ((xs.drop off).take k) e w hl1
     simp only [List.forIn_cons, if_pos (show f.name ≠ "_" from h1), Sem.run_bind, h2, hp1, hk, Result.andThen_ok, Sem.run_pure]
     exact hr2 e
  ·simp [h1, h2] at h
theorem Qq6 : ∀ (d : Nat) (t : TypeId) (n : Nat), Qo2 P d t = some n → FlatOk P d t n
 | 0, _, _, h => by simp [Qo2] at h
 | d + 1, t, n, h => by
  rw [Qo2] at h
  cases hu : P.underlying t with
  | none => simp [hu] at h
  | some desc =>
   rw [hu] at h
   cases desc <;> first | (simp at h; done) | skip
   ·rename_i k
    cases k <;> first | (simp at h; done) | skip
    simp at h; subst h
    have ha : Qce P t = false := by simp [Qce, hu]
    refine ⟨fun d' hd xs ys w hx hy => ?_, fun d' hd xs e w hx => ?_, fun xs off w hx => ?_⟩
    ·obtain ⟨d', rfl⟩ : ∃ k, d' = k + 1 := ⟨d' - 1, by omega⟩
     match xs, ys, hx, hy with
     | [a], [b], _, _ =>
      simp only [Qj5, ha, if_false, Qc, List.headD_cons]
      rw [run_equalIn_int w d' t .i64 .i64 a b hu]
      congr 1
      rw [Bool.eq_iff_iff]; simp
    ·obtain ⟨d', rfl⟩ : ∃ k, d' = k + 1 := ⟨d' - 1, by omega⟩
     simp [Instr.checkKey, run_underlying hu, Qj5, ha]
    ·have hlt : off < xs.length := by omega
     simp only [part, Sem.run_bind, Qgk hu, Result.andThen_ok, ha, Qj5, Qc, if_false]
     have h1 : ((xs.drop off).take 1).headD 0 = xs[off] := by rw [List.drop_eq_getElem_cons hlt]; rfl
     rw [h1]
     simp [hlt]
   ·rename_i fs
    simp only at h
    by_cases hs : (P.stoodInHeld t || (szB P t).isNone) = true
    ·simp [hs] at h
    ·rw [if_neg hs] at h
     simp at hs
     have ha : Qce P t = true := by simp [Qce, hu]
     split at h
     ·rename_i m hm
      split at h
      ·rename_i hsz
       simp at h hsz; subst h
       obtain ⟨_, hfs⟩ := Qo1 (fun t n => Qq6 d t n) fs.toList 0 m hm
       have hff : P.fieldsOf t = fs := by simp [Program.fieldsOf, hu]
       refine ⟨fun d' hd xs ys w hx hy => ?_, fun d' hd xs e w hx => ?_, fun xs off w hx => ?_⟩
       ·obtain ⟨d', rfl⟩ : ∃ k, d' = k + 1 := ⟨d' - 1, by omega⟩
        simp only [Qj5, ha, if_true]
        rw [run_equalIn_struct w d' t _ _ (by rw [hff]; exact hu) hs.1, hff, (hfs d' (by omega) xs ys w hx hy).1]
        simp
       ·obtain ⟨d', rfl⟩ : ∃ k, d' = k + 1 := ⟨d' - 1, by omega⟩
        have := (hfs d' (by omega) xs xs w hx hx).2 e
        simp only [Qj5, ha, if_true, Instr.checkKey, Sem.run_bind, run_underlying hu, Result.andThen_ok]
        rw [← Array.forIn_toList]
        rw [this]; rfl
       ·simp only [part, Sem.run_bind, Qgk hu, Result.andThen_ok, ha, Qj5, if_true, Qbc hsz, Sem.run_pure]
        congr 2
        apply Array.ext'
        simp [List.map_drop, List.map_take]
      ·simp at h
     ·simp at h
theorem Qb1.of {t : TypeId} {n : Nat} {fs : Array Field} (hu : P.underlying t = some (.struct fs)) (hf : Qo2 P 9 t = some n) (hg : P.eqGuardType P.depth t = false) : Qb1 P t n := by
 have ho := Qq6 9 t n hf
 have ha : Qce P t = true := by simp [Qce, hu]
 have hv : ∀ xs, Qj5 P t xs = .agg (xs.map (Value.int .i64)).toArray := fun xs => by simp [Qj5, ha]
 refine ⟨⟨fs, hu⟩, fun xs ys w hx hy => ⟨fun op x y hop => ⟨run_eqGuard_agg w op t x y _ _ hg, ?_⟩, ?_, fun e => ?_⟩⟩
 ·have := ho.eq 10000 (by decide) xs ys w hx hy
  rw [hv, hv] at this
  rcases hop with rfl | rfl
  ·rw [run_eql_struct, this]; simp [Result.andThen, show (BinOp.eql == BinOp.neq) = false from rfl]
  ·rw [run_neq_struct, this]; simp [Result.andThen]
 ·have := ho.eq 10000 (by decide) xs ys w hx hy
  rw [hv, hv] at this
  exact this
 ·have := ho.key 10000 (by decide) xs e w hx
  rw [hv] at this
  exact this
end Go.Fam
namespace Go.Fam
theorem Evol.cut0 {S S' : Nat → Prop} {w w' : World} {O0 O : OInfo} (h : Evol S S' w w' O0 O) (n : Nat) (hlo : ∀ id x, O0 id = some x → id < n) : Evol S (cutS S' O n) w w' O0 (Qcd O n) := by
 refine ⟨⟨fun k hk => ⟨.inl (h.ext.keep k hk).1, (h.ext.keep k hk).2⟩, fun id g ob ho => ?_⟩, h.os, h.tape, h.output, h.size, h.fz, h.old, fun k ⟨id, g, ho⟩ => h.fresh k ⟨id, g, (Qbe ho).2⟩, ?_⟩
 ·obtain ⟨g', ob', h1, h2⟩ := h.ext.own id g ob ho
  refine ⟨g', ob', ?_, h2⟩
  unfold Qcd
  rw [if_pos (hlo id _ ho)]
  exact h1
 rintro k (hk | ⟨id, g, ho⟩)
 ·exact h.grow k hk
 ·exact .inr (h.fresh k ⟨id, g, (Qbi ho).2⟩)
theorem Qlo {S0 S : Nat → Prop} {w0 w : World} {O0 O : OInfo} (h : Evol S0 S w0 w O0 O) (h0 : ∀ id g b, O0 id = some (g, some b) → b < w0.heap.size) {L : Nat} {o o' : Obj} (hb : w.heap[L]? = some o) (hc : o.isCells = false) (hc' : o'.isCells = false) (hS : ¬ S L) (hL : w0.heap.size ≤ L) :
  Evol S0 S w0 (w.putObj L o') O0 O := by
 have hoth : ∀ k, k ≠ L → (w.putObj L o').heap[k]? = w.heap[k]? := fun k hk => World.putObj_heap_other hk
 have hnew : (w.putObj L o').heap[L]? = some o' := World.putObj_heap_same (Array.getElem?_eq_some_iff.1 hb).1
 refine ⟨⟨fun k hk => ⟨(h.ext.keep k hk).1, ?_⟩, fun id g ob ho => ?_⟩, h.os, h.tape, h.output, by simpa using h.size, fun a ha => ?_, fun k hk hno => ?_, h.fresh, h.grow⟩
 ·rw [hoth k (by rintro rfl; exact hS (h.ext.keep k hk).1)]; exact (h.ext.keep k hk).2
 ·obtain ⟨g', ob', h1, h2, h3⟩ := h.ext.own id g ob ho
  refine ⟨g', ob', h1, h2, fun e => ?_⟩
  obtain ⟨h4, h5⟩ := h3 e
  refine ⟨h4, fun b cur e hb hh => ?_⟩
  obtain ⟨cur', h6, h7⟩ := h5 b cur e hb hh
  refine ⟨cur', ?_, h7⟩
  rw [hoth b (by have := h0 id g b (by rw [ho, hb]); omega)]
  exact h6
 ·refine Eq.trans ?_ (h.fz a ha)
  by_cases e : a.block = L
  ·simp only [World.frozen?, e, hnew, hb]
   cases o <;> cases o' <;> first | rfl | (simp [Obj.isCells] at hc; done) | (simp [Obj.isCells] at hc'; done)
  ·simp only [World.frozen?, hoth _ e]
 ·rw [hoth k (by omega)]; exact h.old k hk hno
section
variable {P : Program} {F : Fence} {n : Nat} {Γ : Gam} {pu : List Nat}
def Ch (S0 : Nat → Prop) (w0 : World) (O0 : OInfo) : Ctx := fun S w O ds _ => Evol S0 S w0 w O0 O ∧ ∃ Ds : List Nat, ds = Ds.map col ∧ Ds.Nodup ∧ ∀ D ∈ Ds, w.heap[D]? = some (.deferred (some [])) ∧ ¬ S D ∧ ¬ Own O D ∧ w0.heap.size ≤ D
theorem Zgz {M : FrI} {S0 : Nat → Prop} {w0 : World} {O0 : OInfo} {lo : Nat} (hro : F.round = none) (h0 : ∀ id g b, O0 id = some (g, some b) → b < w0.heap.size) (hlo : ∀ id x, O0 id = some x → id < lo) (hp : 0 < lo) : CtxOk P F n M (Ch S0 w0 O0) lo 1 w0.heap.size := by
 refine ⟨?_, ?_, fun _ => hro, fun _ _ _ _ _ _ h => h.1.size, ?_, ?_, ?_, fun h => (by cases h), fun h => (by cases h), fun h => (by cases h)⟩
 ·rintro S S' w w' O O' ds h h' ⟨h1, Ds, h2, h3, h4⟩ hlt ev _
  refine ⟨h1.trans ev, Ds, h2, h3, fun D hD => ?_⟩
  obtain ⟨a1, a2, a3, a4⟩ := h4 D hD
  have hDlt := (Array.getElem?_eq_some_iff.1 a1).1
  refine ⟨(ev.old D hDlt a3).trans a1, fun hS => ?_, fun hO => ?_, a4⟩
  ·rcases ev.grow D hS with h | h | h
   ·exact a2 h
   ·exact a3 h
   ·omega
  ·rcases ev.fresh D hO with h | h
   ·exact a3 h
   ·omega
 ·rintro S w O ds h h' k ⟨h1, Ds, h2, h3, h4⟩ hk _
  refine ⟨h1.cut0 k (fun id x hx => Qe (hlo id x hx) hk), Ds, h2, h3, fun D hD => ?_⟩
  obtain ⟨a1, a2, a3, a4⟩ := h4 D hD
  refine ⟨a1, ?_, fun ⟨id, g, ho⟩ => a3 ⟨id, g, (Qbe ho).2⟩, a4⟩
  rintro (h | ⟨id, g, ho⟩)
  ·exact a2 h
  ·exact a3 ⟨id, g, (Qbi ho).2⟩
 ·rintro _ S w O ds h L r r' ⟨h1, Ds, h2, h3, h4⟩ hL hS hO hb
  refine ⟨Qlo h1 h0 hL rfl rfl hS hb, Ds, h2, h3, fun D hD => ?_⟩
  obtain ⟨a1, a2, a3, a4⟩ := h4 D hD
  refine ⟨?_, a2, a3, a4⟩
  rw [World.putObj_heap_other (by rintro rfl; rw [hL] at a1; cases a1)]
  exact a1
 ·rintro _ S w O ds h r ⟨h1, Ds, h2, h3, h4⟩ hS hO
  have hl : Later w ((w.alloc (.deferred (some []))).alloc (.loop r)) := (Qcw w _ rfl).trans (Qcw _ _ rfl)
  refine ⟨h1.trans (hl.evol hS hO), w.heap.size :: Ds, by rw [h2]; rfl, Qd.2 ⟨fun hD => ?_, h3⟩, fun D hD => ?_⟩
  ·have := (Array.getElem?_eq_some_iff.1 (h4 _ hD).1).1; omega
  ·rcases Qj.1 hD with rfl | hD
   ·refine ⟨?_, fun h => ?_, fun h => ?_, h1.size⟩
    ·exact (heap_alloc_old _ _ (by simp)).trans (World.alloc_heap_new w _)
    ·have := hS _ h; omega
    ·have := hO _ h; omega
   ·obtain ⟨a1, a2, a3, a4⟩ := h4 D hD
    exact ⟨(hl.old D (Array.getElem?_eq_some_iff.1 a1).1).trans a1, a2, a3, a4⟩
 ·intro _ h; omega
theorem Qiy {M : FrI} {fn : Func} {rs : List RV} (hr : Qip P fn.results.toList = some rs) {S0 S : Nat → Prop} {w0 : World} {O0 O : OInfo} (h0 : ∀ id g b, O0 id = some (g, some b) → b < w0.heap.size) {σ : St} {a : Act} (hok : rvs σ.hp σ.fr rs) {R : Ending → World → Prop}
  (hR : ∀ w' c, Evol S0 S w0 w' O0 O → Mat S w' O σ.hp → Rep S w' O (resV σ.hp σ.fr rs) c → R (.returned c) w') :
  ∀ (Ds : List Nat) (w : World), Ds.Nodup → (∀ D ∈ Ds, w.heap[D]? = some (.deferred (some [])) ∧ ¬ S D ∧ ¬ Own O D ∧ w0.heap.size ≤ D) → Evol S0 S w0 w O0 O → SR M S w O σ a → LeavesInM F n P fn a.tmps R (Ds.map col) .returning w
 | [], w, _, _, hev, hsr => by
  obtain ⟨c, hrun, hrp⟩ := Qh5 hsr hr hok
  exact ⟨c, hrun, hR w c hev hsr.mat hrp⟩
 | D :: Ds, w, hnd, hD, hev, hsr => by
  obtain ⟨hn1, hn2⟩ := Qd.1 hnd
  obtain ⟨a1, a2, a3, a4⟩ := hD D (by simp)
  refine ⟨by simp, .inl ⟨D, _, rfl, run_takeDeferred a1, ?_⟩⟩
  refine Qiy hr h0 hok hR Ds _ hn2 (fun D' hD' => ?_) (Qlo hev h0 a1 rfl rfl a2 a4) (Qg3 hsr _ a2 a3)
  obtain ⟨b1, b2⟩ := hD D' (by simp [hD'])
  exact ⟨(World.putObj_heap_other (by rintro rfl; exact hn1 hD')).trans b1, b2⟩
theorem Qug {S : Nat → Prop} {w : World} {O : OInfo} {args : List V} {cargs : Array Value} {nt : Nat} (hsz : cargs.size = args.length) (hn : args.length ≤ nt) (hrep : RepL S w O args cargs.toList) :
  (cargs ++ Array.replicate (nt - cargs.size) undef).size = nt ∧ FrM S w O (lkp (zipA 0 args)) { tmps := cargs ++ Array.replicate (nt - cargs.size) undef, defers := [] } := by
 have hlo : ∀ t, t < cargs.size → (cargs ++ Array.replicate (nt - cargs.size) undef).getD t undef = cargs.getD t undef := by
  intro t ht
  simp [Array.getElem?_append, ht]
 refine ⟨by simp; omega, fun t => ?_⟩
 show Rep S w O (lkp (zipA 0 args) t) _
 rw [Qje, if_pos (Qo _), Q1]
 cases ht : args[t]? with
 | none => simp [Rep]
 | some v =>
  obtain ⟨cv, hcv, hv⟩ := RepL.get _ _ t v hrep ht
  have hlt : t < cargs.size := by have := Qaf hcv; simpa using this
  show Rep S w O v ((cargs ++ Array.replicate (nt - cargs.size) undef).getD t undef)
  rw [hlo t hlt]
  have : cargs.getD t undef = cv := by
   rw [Array.getElem?_toList] at hcv
   have h2 := (Array.getElem?_eq_some_iff.1 hcv).2
   simp [hlt, h2]
  rw [this]
  exact hv
theorem Qo8 (hG : GOk P Γ) (hm : P.follows .mixedOrders = true) {f : FuncId} {fn : Func} {c : Code} {rc : RC} {rs : List RV} (hf : P.funcs[f]? = some fn) (hb : fn.body = some c) {lo : Nat}
  (hc : comp P pu (fn.ntmps, 0) lo 1 rc c = some rc) (hr : Qip P fn.results.toList = some rs) {args : List V} (hn : args.length ≤ fn.ntmps) {hp : List Blk} (hlo : hp.length ≤ lo) (hpos : 0 < lo) {R : V → List Blk → Prop}
  (h : wpR Γ (Qb1 P) rc (endK rs fun σ => R (resV σ.hp σ.fr rs) σ.hp) ⟨lkp (zipA 0 args), hp⟩) : Qe8 P f args hp R := by
 intro S w O cargs hmat hsz hrep
 have h0 : ∀ id g b, O id = some (g, some b) → b < w.heap.size := fun id g b h => (hmat.own id g b h).1
 have hl : ∀ id x, O id = some x → id < lo := fun id x h => Qe (Qiz hmat h) hlo
 refine Qgf.calls (n := 0) (callsIn_of_wp_marks hf hb trivial ?_)
 obtain ⟨h1, h2⟩ := Qug hsz hn hrep
 obtain ⟨M, hM⟩ : ∃ M : FrI, M = ⟨fn.ntmps, 0, fun _ => undef, fun _ => False⟩ := ⟨_, rfl⟩
 have hnm : M.nm = (fn.ntmps, 0) := by rw [hM]; rfl
 have hat : At (Ch S w O) M S w O ⟨lkp (zipA 0 args), hp⟩ { tmps := cargs ++ Array.replicate (fn.ntmps - cargs.size) undef, defers := [] } := by
  refine ⟨⟨Evol.refl _ _ _, [], rfl, Q8, fun _ h => by cases h⟩, ⟨by rw [hM]; exact h1, fun t ht => by rw [hM] at ht; exact absurd ht (Qs _), h2, hmat⟩⟩
 refine Ql6 hG hm (M := M) (by rw [hM]; exact fun _ h => h.elim) rc c rc _ 0 lo 1 Qgf (by rw [hnm]; exact hc) (Ch S w O) w.heap.size (Zgz rfl h0 hl hpos) _ _ _ S w O _ h hat ?_
 intro e σ' S' w' O' a' he hat'
 have fin : (rvs σ'.hp σ'.fr rs ∧ R (resV σ'.hp σ'.fr rs) σ'.hp) → LeavesInM Fence.wide 0 P fn a'.tmps (fun e w' => ∃ c S' O' r hp', e = .returned c ∧ R r hp' ∧ Evol S S' w w' O O' ∧ Mat S' w' O' hp' ∧ Rep S' w' O' r c) a'.defers .returning w' := by
  rintro ⟨k1, k2⟩
  obtain ⟨ev, Ds, e1, e2, e3⟩ := hat'.ctx
  rw [e1]
  exact Qiy hr h0 k1 (fun w2 c hev hmat hrp => ⟨c, S', O', _, _, rfl, k2, hev, hmat, hrp⟩) Ds w' e2 e3 ev hat'.sr
 cases e <;> first | exact fin he | exact he.elim
end
def hpG {α : Type} (eA : α → List V) (eH : α → List Blk) (dec : List V → List Blk → α) (C : α → Prop) (R : α → V → List Blk → Prop) : List V → List Blk → Prop × (V → List Blk → Prop) :=
 fun as0 hp => (eA (dec as0 hp) = as0 ∧ eH (dec as0 hp) = hp ∧ C (dec as0 hp), R (dec as0 hp))
theorem Qo9 {α : Type} {eA : α → List V} {eH : α → List Blk} {dec : List V → List Blk → α} {C : α → Prop} {R : α → V → List Blk → Prop} (x : α) (h : dec (eA x) (eH x) = x) : hpG eA eH dec C R (eA x) (eH x) = (C x, R x) := by
 unfold hpG
 rw [h]; simp
theorem Qq9 {P : Program} {f : FuncId} {α : Type} {eA : α → List V} {eH : α → List Blk} {dec : List V → List Blk → α} {C : α → Prop} {R : α → V → List Blk → Prop}
  (h : ∀ x, C x → (∀ r hp', R x r hp' → ∀ y, ghO (eH x) = some y → ghO hp' = some y) ∧ Qe8 P f (eA x) (eH x) (R x)) (as0 : List V) (hp : List Blk) (hc : (hpG eA eH dec C R as0 hp).1) :
  (∀ r hp', (hpG eA eH dec C R as0 hp).2 r hp' → ∀ y, ghO hp = some y → ghO hp' = some y) ∧ Qe8 P f as0 hp (hpG eA eH dec C R as0 hp).2 := by
 obtain ⟨h1, h2, h3⟩ := hc
 have := h _ h3
 rw [h1, h2] at this
 exact this
theorem Qtu (i : Nat) (v : V) (l : List V) (h : i < l.length) : putAt i [v] l = l.set i v := by
 unfold putAt
 rw [List.set_eq_take_append_cons_drop, if_pos h]
 simp
theorem Qdb.toPure {P : Program} {f : FuncId} {args : List V} {r : V} {hp : List Blk} (h : Qdb P f args r hp) : Qa5 P f args (vw hp 8 r) := by
 intro S w cargs hS hsz hrep
 refine Calls.mono (h S w cargs hS hsz hrep) ?_
 rintro e w' ⟨cv, S', O', rfl, hev, hmat, hrp⟩
 refine ⟨cv, rfl, ?_, ?_⟩
 ·exact ⟨⟨fun k hk => ⟨.inl hk, (hev.ext.keep k hk).2⟩, fun _ _ _ h => by cases h⟩, hev.os, hev.tape, hev.output, hev.size, hev.fz, hev.old, fun k ⟨_, _, h⟩ => (by cases h), fun k hk => hk.imp id fun h => .inr h.1⟩
 ·have h3 := Ql5 hmat 8 _ _ hrp
  refine Rep.ext ⟨fun k hk => ⟨?_, rfl⟩, fun _ _ _ h => by cases h⟩ _ _ h3
  rcases hk with hk | ⟨id, g, ho⟩
  ·rcases hev.grow k hk with h4 | h4 | h4
   ·exact .inl h4
   ·obtain ⟨_, _, h4⟩ := h4; cases h4
   ·exact .inr ⟨h4, hmat.lt k hk⟩
  ·rcases hev.fresh k ⟨id, g, ho⟩ with h4 | h4
   ·obtain ⟨_, _, h4⟩ := h4; cases h4
   ·exact .inr ⟨h4, (hmat.own id g k ho).1⟩
end Go.Fam
namespace Go.Fam
theorem Qwv {P : Program} {f : FuncId} {al : List V → Prop} {α : Type} {eA : α → List V} {eH : α → List Blk} {dec : List V → List Blk → α} {C : α → Prop} {R : α → V → List Blk → Prop} (h : ∀ x, C x → Qi4 P f al (eA x) (eH x) (R x)) (xs : List V) (hp : List Blk) (hc : (hpG eA eH dec C R xs hp).1) :
  Qi4 P f al xs hp (hpG eA eH dec C R xs hp).2 := by
 obtain ⟨h1, h2, h3⟩ := hc
 have := h _ h3
 rw [h1, h2] at this
 exact this
section
variable {P : Program} {F : Fence} {n : Nat} {Γ : Gam} {pu : List Nat}
end
end Go.Fam
namespace Go.Fam
end Go.Fam
namespace Go.Fam
open Go.Sort
theorem Qqq {S : Nat → Prop} {w : World} {O : OInfo} : ∀ (zs : List Int) (cs : List Value), RepL S w O (zs.map V.i) cs → cs.take zs.length = zs.map (Value.int .i64)
 | [], _, _ => by simp
 | z :: zs, [], h => by simp [RepL] at h
 | z :: zs, c :: cs, h => by
  simp only [Qa, RepL, Rep] at h
  simp only [Q2, Qy, Qa]
  rw [h.1, Qqq zs cs h.2]
theorem Qqa {S : Nat → Prop} {w : World} {O : OInfo} : ∀ (zs : List Int) (cs : List Value), cs.take zs.length = zs.map (Value.int .i64) → RepL S w O (zs.map V.i) cs
 | [], _, _ => by simp [RepL]
 | z :: zs, [], h => by simp at h
 | z :: zs, c :: cs, h => by
  simp only [Q2, Qy, Qa, List.cons.injEq] at h
  simp only [Qa, RepL, Rep]
  exact ⟨h.1, Qqa zs cs h.2⟩
theorem Qss {S : Nat → Prop} {w : World} {O : OInfo} {b : Nat} {cur : Array Value} {e : TypeId} {zs : List Int} (hb : w.heap[b]? = some (.cells cur e (0, 0))) (hr : RepL S w O (zs.map V.i) cur.toList) : Holds (Value.int .i64) w b 0 zs.toArray := by
 have ht := Qqq zs _ hr
 intro j hj
 have hj' : j < zs.length := by simpa using hj
 have h1 : (cur.toList.take zs.length)[j]? = some (Value.int .i64 zs[j]) := by rw [ht]; simp [hj']
 rw [Qn, if_pos hj', Array.getElem?_toList] at h1
 refine ⟨?_, ?_⟩
 ·simp only [World.cell?, hb, Nat.zero_add, h1]
  simp [hj']
 ·simp [World.frozen?, hb]
theorem Qxk {S : Nat → Prop} {w : World} {O : OInfo} {hp : List Blk} (hm : Mat S w O hp) {id g b : Nat} (hO : O id = some (g, some b)) {zs ys : List Int} (hid : hp[id]? = some (.cells g (zs.map V.i))) (hl : ys.length = zs.length) (n : Nat) (os : Array Obj) :
  Evol S S w (grow (putRow (Value.int .i64) (Sort.ahead w n) b 0 ys.toArray) os) O O ∧ Mat S (grow (putRow (Value.int .i64) (Sort.ahead w n) b 0 ys.toArray) os) O (hp.set id (.cells g (ys.map V.i))) := by
 obtain ⟨hbl, hbS⟩ := hm.own id g b hO
 have hblk := hm.blk id g _ hO
 rw [hid] at hblk
 simp only [Qbb] at hblk
 obtain ⟨_, cur, e, hb, hr, h1⟩ := hblk
 obtain ⟨w', hw'⟩ : ∃ w', w' = grow (putRow (Value.int .i64) (Sort.ahead w n) b 0 ys.toArray) os := ⟨_, rfl⟩
 rw [← hw']
 have hheap : w'.heap = (w.heap.modify b (onCells (putCells (Value.int .i64) 0 ys.toArray))) ++ os := by rw [hw']; rfl
 have hsz : w.heap.size ≤ w'.heap.size := by rw [hheap]; simp
 have hnew : w'.heap[b]? = some (.cells (putCells (Value.int .i64) 0 ys.toArray cur) e (0, 0)) := by
  rw [hheap, Array.getElem?_append_left (by simpa using hbl), Array.getElem?_modify, if_pos rfl, hb]; rfl
 have hoth : ∀ k, k < w.heap.size → k ≠ b → w'.heap[k]? = w.heap[k]? := fun k hk hkb => by
  rw [hheap, Array.getElem?_append_left (by simpa using hk), Array.getElem?_modify, if_neg (Ne.symm hkb)]
 have hsize : (putCells (Value.int .i64) 0 ys.toArray cur).size = cur.size := by simp [putCells]
 have hcell : ∀ k, (putCells (Value.int .i64) 0 ys.toArray cur)[k]? = if k < ys.length then (if k < cur.size then some (Value.int .i64 (ys.getD k 0)) else none) else cur[k]? := by
  intro k
  unfold putCells
  rw [Array.getElem?_mapIdx]
  by_cases hk : k < cur.size
  ·rw [Array.getElem?_eq_getElem hk]
   by_cases hy : k < ys.length
   ·simp [hk, hy]
   ·simp [hk, hy]
  ·rw [Array.getElem?_eq_none (by omega)]
   by_cases hy : k < ys.length <;> simp [hk, hy]
 have hlen : zs.length ≤ cur.size := by have := RepL.length _ _ hr; simpa using this
 have hx : Ext S S w w' O O := by
  refine ⟨fun k hk => ⟨hk, hoth k (hm.lt k hk) (by rintro rfl; exact hbS hk)⟩, fun id' g' ob h => ⟨g', ob, h, Q4 _, fun _ => ⟨rfl, fun b' cur' e' hb' hh => ?_⟩⟩⟩
  subst hb'
  by_cases hbb : b' = b
  ·subst hbb
   rw [hb] at hh
   cases hh
   exact ⟨_, hnew, hsize⟩
  ·exact ⟨cur', (hoth b' (hm.own id' g' b' h).1 hbb).trans hh, rfl⟩
 refine ⟨⟨hx, by rw [hw']; rfl, by rw [hw']; rfl, by rw [hw']; rfl, hsz, fun a ha => ?_, fun k hk hno => hoth k hk (by rintro rfl; exact hno ⟨id, g, hO⟩), fun k h => .inl h, fun k h => .inl h⟩, ⟨fun k hk => Qe (hm.lt k hk) hsz, fun id' g' b' h => ⟨Qe (hm.own id' g' b' h).1 hsz, (hm.own id' g' b' h).2⟩, hm.inj, ?_⟩⟩
 ·by_cases hab : a.block = b
  ·simp only [World.frozen?, hab, hnew, hb]
  ·simp only [World.frozen?, hoth _ ha hab]
 ·intro id' g' ob h
  by_cases hii : id' = id
  ·subst hii
   rw [hO] at h
   cases h
   rw [List.getElem?_set_self (Qaf hid)]
   refine ⟨rfl, _, e, hnew, Qqa ys _ ?_, ?_⟩
   ·apply Qp
    intro k
    rw [Qn, Array.getElem?_toList, hcell]
    by_cases hk : k < ys.length
    ·have hkc : k < cur.size := by omega
     simp [hk, hkc]
    ·simp [hk]
   ·intro c hc
    obtain ⟨k, hk⟩ := List.getElem?_of_mem hc
    rw [Array.getElem?_toList, hcell] at hk
    by_cases hy : k < ys.length
    ·rw [if_pos hy] at hk
     split at hk
     ·cases hk; rfl
     ·cases hk
    ·rw [if_neg hy] at hk
     exact h1 c (Qx (by rw [Array.getElem?_toList]; exact hk))
  ·rw [List.getElem?_set_ne (Ne.symm hii)]
   refine (hm.blk id' g' ob h).ext hx fun b' hb' => ?_
   subst hb'
   exact hoth b' (hm.own id' g' b' h).1 (by rintro rfl; exact hii (hm.inj id' id g' g b' h hO))
theorem Que {P : Program} {f : FuncId} (h : ∀ (blk off cap : Nat) (zs : List Int) (w : World), Holds (Value.int .i64) w blk off zs.toArray → blk < w.heap.size → zs.length < 4611686018427387904 →
   Calls P f #[.slice (some ⟨blk, off, none⟩) zs.length cap] w fun e w' => e = .returned (.tuple #[]) ∧ ∃ n os, w' = grow (putRow (Value.int .i64) (Sort.ahead w n) blk off (zs.mergeSort fun x y => decide (x ≤ y)).toArray) os)
  {hp : List Blk} {id g : Nat} {zs : List Int} (hid : hp[id]? = some (.cells g (zs.map V.i))) (hne : zs ≠ []) (hl : zs.length ≤ 1000000) :
  Qe8 P f [.rf id g 0 zs.length 1] hp fun r hp' => r = .tp [] ∧ hp' = hp.set id (.cells g ((zs.mergeSort fun x y => decide (x ≤ y)).map V.i)) := by
 intro S w O cargs hm hsz hr
 obtain ⟨c, hc⟩ : ∃ c, cargs = #[c] := by
  match cargs, hsz with
  | ⟨[c]⟩, _ => exact ⟨c, rfl⟩
 subst hc
 simp only [RepL, Rep, and_true] at hr
 obtain ⟨_, g', ob, hO, hle, hr⟩ := hr
 have hb := hm.blk id g' ob hO
 rw [hid] at hb
 simp only [Qbb] at hb
 rcases hr hb.1 with ⟨b, cap, cur, e, rfl, hh, rfl, hcap, hfit⟩ | ⟨_, h0, _⟩
 ·have hg := hb.1
  subst hg
  obtain ⟨cur', e', hh', hrl, h1⟩ := hb.2
  refine (h b 0 cap zs w (Qss hh' hrl) (hm.own id _ b hO).1 (by omega)).mono ?_
  rintro e2 w' ⟨rfl, n, os, rfl⟩
  obtain ⟨hev, hm2⟩ := Qxk hm hO hid (ys := zs.mergeSort fun x y => decide (x ≤ y)) (List.length_mergeSort _) n os
  refine ⟨_, S, O, _, _, rfl, ⟨rfl, rfl⟩, hev, hm2, ?_⟩
  simp only [Rep]
  exact ⟨#[], rfl, rfl, by simp [RepL]⟩
 ·exact absurd (List.eq_nil_of_length_eq_zero h0) hne
end Go.Fam
namespace Go.Fam
open Go.Sort
theorem Qrm {P : Program} {f : FuncId} (h : ∀ (blk off cap : Nat) (zs : List Int) (w : World), Holds (Value.int .i64) w blk off zs.toArray → blk < w.heap.size → zs.length < 4611686018427387904 →
   Calls P f #[.slice (some ⟨blk, off, none⟩) zs.length cap] w fun e w' => e = .returned (.tuple #[]) ∧ ∃ n os, w' = grow (putRow (Value.int .i64) (Sort.ahead w n) blk off (zs.mergeSort fun x y => decide (x ≤ y)).toArray) os)
  (h0 : ∀ (p : Option Addr) (cap : Nat) (w : World), Calls P f #[.slice p 0 cap] w fun e w' => e = .returned (.tuple #[]) ∧ w' = w)
  {hp : List Blk} {id g : Nat} {zs : List Int} (hid : hp[id]? = some (.cells g (zs.map V.i))) (hl : zs.length ≤ 1000000) :
  Qe8 P f [.rf id g 0 zs.length 1] hp fun r hp' => r = .tp [] ∧ hp' = hp.set id (.cells g ((zs.mergeSort fun x y => decide (x ≤ y)).map V.i)) := by
 by_cases hne : zs = []
 ·subst hne
  intro S w O cargs hm hsz hr
  obtain ⟨c, hc⟩ : ∃ c, cargs = #[c] := by
   match cargs, hsz with
   | ⟨[c]⟩, _ => exact ⟨c, rfl⟩
  subst hc
  simp only [RepL, Rep, and_true] at hr
  obtain ⟨_, g', ob, hO, hle, hr⟩ := hr
  have hb := hm.blk id g' ob hO
  rw [hid] at hb
  simp only [Qbb] at hb
  have hs : ∃ p cap, c = .slice p 0 cap := by
   rcases hr hb.1 with ⟨b, cap, cur, e, _, _, rfl, _⟩ | ⟨_, _, a, rfl⟩
   ·exact ⟨_, cap, rfl⟩
   ·exact ⟨a, 0, rfl⟩
  obtain ⟨p, cap, rfl⟩ := hs
  refine (h0 p cap w).mono ?_
  rintro e w' ⟨rfl, rfl⟩
  have hset : hp.set id (.cells g (([] : List Int).mergeSort (fun x y => decide (x ≤ y)) |>.map V.i)) = hp := by
   rw [List.mergeSort_nil]
   obtain ⟨hlt, he⟩ := List.getElem?_eq_some_iff.1 hid
   rw [← he]; exact List.set_getElem_self hlt
  refine ⟨_, S, O, _, _, rfl, ⟨rfl, hset.symm⟩, Evol.refl _ _ _, hm, ?_⟩
  simp only [Rep]
  exact ⟨#[], rfl, rfl, by simp [RepL]⟩
 ·exact Que h hid hne hl
end Go.Fam
set_option linter.all false
namespace Go.Fam
open Go.Proofs
structure CF (P : Program) (f : Func) (pu : List Nat) (a b : Nat) (rc : RC) (rs : List RV) (n : Nat) : Prop where
 c : comp P pu (f.ntmps, 0) a b rc (f.body.getD .skip) = some rc
 b : f.body = some (f.body.getD .skip)
 s : Qip P f.results.toList = some rs
 n : n ≤ f.ntmps
def BU1 := And.intro @Ql0 (And.intro @Qky (And.intro @Qu5 (And.intro @Qkz (And.intro @Qkv (And.intro @Qhs (And.intro @Qpo (And.intro @Qu7 (And.intro @Qh6 (And.intro @cutH.eq_1 (And.intro @Qff (And.intro @Fam.step.eq_1 (And.intro @Qlc.eq_1 (And.intro @eff.eq_1 (And.intro @Qb4.eq_1 (And.intro @fpR.eq_1 (And.intro @Ql8.eq_1 (And.intro @hits.eq_1 (And.intro @Qhq (And.intro @curG.eq_1 (And.intro @putAt.eq_1 (And.intro @Qfi (And.intro @Qxt (And.intro @Qcz (And.intro @Qfa (And.intro (@List.map_cons.{0, 0}) (And.intro (@List.map_nil.{0, 0}) (And.intro @List.all_cons.{0} (And.intro @List.all_nil.{0} (And.intro @List.length_cons.{0} (And.intro @List.length_nil.{0} (And.intro @List.drop_succ_cons.{0} (And.intro @List.drop_zero.{0} (And.intro @List.drop_nil.{0} (And.intro @List.take_succ_cons.{0} (And.intro @List.take_zero.{0} (And.intro @List.take_nil.{0} (And.intro @List.headD_cons.{0} (And.intro @List.cons_append.{0} (And.intro @List.nil_append.{0} (And.intro @List.append_nil.{0} (And.intro @List.getElem?_cons_zero.{0} (And.intro @List.getElem?_cons_succ.{0} (And.intro @List.getElem?_nil.{0} (And.intro @Option.getD_some.{0} (And.intro @Option.getD_none.{0} (And.intro @List.set_cons_zero.{0} (And.intro @List.set_cons_succ.{0} (And.intro @List.replicate_zero.{0} (And.intro @List.isEmpty_nil.{0} (And.intro @vw_i (And.intro @vw_b (And.intro @Zj0 (And.intro @Qrn (And.intro @Ziy (And.intro @Ziz (And.intro @Int.natCast_nonneg (And.intro @Nat.zero_add (And.intro @Nat.add_zero (And.intro @Bool.and_self (And.intro @Bool.and_true (And.intro @Bool.false_and (And.intro @Bool.or_false (And.intro @Bool.not_true (And.intro @Bool.not_false (And.intro @decide_true (And.intro @decide_false (And.intro @true_and (And.intro @and_true (And.intro @and_self (And.intro @false_and (And.intro @false_implies (And.intro (@Option.map_some.{0, 0}) (And.intro @List.any_nil.{0} (And.intro @beq_true (And.intro @beq_false (And.intro (@List.length_map.{0, 0}) (And.intro @Int.toNat_natCast (And.intro @List.getD_eq_getElem?_getD.{0} (And.intro (@List.getElem?_map.{0, 0}) (And.intro @Qkh.eq_def (And.intro @Qd6.eq_def (And.intro @Qpr.eq_def (And.intro @evO.eq_def (And.intro @binV.eq_def (And.intro @rv1.eq_def (And.intro @resV.eq_def (And.intro @endQ.eq_def (And.intro @V.cells.eq_def (And.intro @ug.eq_def (And.intro @Qfr.eq_def (And.intro @ldV.eq_def (And.intro @Qgp.eq_def (And.intro @qv.eq_def (And.intro @lenV.eq_def (And.intro @Qr9.eq_def (And.intro @opv.eq_def (And.intro @kp.eq_def (And.intro @Qh9.eq_def (And.intro @Qc2.eq_def (And.intro @nv.eq_def (And.intro @sv.eq_def (And.intro @iadV.eq_def (@putB.eq_def)))))))))))))))))))))))))))))))))))))))))))))))))))))))))))))))))))))))))))))))))))))))))))))))))))))))
end Go.Fam
