import Derived.Test.YtjimcmcffjibmaaGreatG2
import Derived.ProofKit
import Derived.OpenShut
import Derived.Laws.StructEq
import Derived.Shelf.Sort.Plain
import Derived.Shelf.Slices.CompactI
import Derived.SizedLaws
set_option linter.all false
set_option maxHeartbeats 4000000
open List renaming map_cons → Qb,getElem?_eq_getElem → Qc,mem_append → Qd,getElem?_map → Qf,mem_cons → Qg,nodup_cons → Qh,getElem?_eq_none → Ql,take_append_drop → Qm,drop_eq_nil_iff → Qn,find?_cons → Qp,map_congr_left → Qq,nodup_nil → Qr,replicate → Qs,length_append → Qt,getElem?_append_left → Qu,idxOf_lt_length_iff → Qw,getElem_mem → Qy,length_map → Qz,mapM_cons → Q0,drop_drop → Q1,idxOf_eq_length → Q2,count_eq_zero → Q4,ext_getElem? → Q6,mem_map → Q7,nodup_range → Q8,cons_append → Q9,idxOf_cons → Zd,range → Ze
open Nat renaming lt_of_lt_of_le → Qi,not_lt_zero → Qo,zero_le → Qv,le_refl → Q3,sub_zero → Q5
open Bool renaming false_eq_true → Qe,and_eq_true → Qx,eq_iff_iff → Zb
open Option renaming bind_eq_some_iff → Qj,map_eq_some_iff → Qk,some → Za,map_some → Zc
open And renaming intro → Qa
namespace Go.Fam
variable {S : Nat → Prop} {w : World} {O : OInfo} {hp : List Blk}
inductive RV where
 | t (n : Nat) | c (a : Nat) (ag : Bool) (n : Nat)
def rv1 (hp : List Blk) (fr : Nat → V) : RV → Prop × V
 | .t n => (True,fr n)
 | .c a ag n => ldV hp ag n (fr a)
def rvs (hp : List Blk) (fr : Nat → V) : List RV → Prop
 | [] => True
 | r :: l => (rv1 hp fr r).1 ∧ rvs hp fr l
def resV (hp : List Blk) (fr : Nat → V) : List RV → V
 | [r] => (rv1 hp fr r).2
 | l => .tp (l.map fun r => (rv1 hp fr r).2)
def Qt2 (P : Program) : ResultVar → Option RV
 | .tmp t => some (.t t)
 | .cell a t => (ldB P t).map (.c a (Qbt P t))
def Qh5 (P : Program) (l : List ResultVar) : Option (List RV) := l.mapM (Qt2 P)
def endQ (rs : List RV) (r : V) : Exit → St → Prop
 | .normal,σ | .ret,σ => rvs σ.hp σ.fr rs ∧ vw σ.hp 8 (resV σ.hp σ.fr rs) = r
 | _,_ => False
section
variable {P : Program} {F : Fence} {n : Nat} {Γ : Gam} {N : FrI} {pu : List Nat}
def Qt1 (tmps : Array Value) : ResultVar → Sem Value
 | .tmp t => pure (tmps.getD t undef)
 | .cell a t => do loadVar t (← asAddr (tmps.getD a undef))
def Quf (fn : Func) (tmps : Array Value) : results fn tmps = (do let vs ← fn.results.mapM (Qt1 tmps); pure (if h : vs.size = 1 then vs[0] else .tuple vs)) := by
 unfold results
 rfl
def Zff {σ : St} {a : Act} (jL : SR N S w O σ a) {x : ResultVar} {r : RV} (hr : Qt2 P x = some r) (jA : (rv1 σ.hp σ.fr r).1) :
  ∃ c,(Qt1 a.tmps x).run P w = .ok c w ∧ Rep S w O (rv1 σ.hp σ.fr r).2 c := by
 cases x with
 | tmp t =>
  simp only [Qt2,Za.injEq] at hr
  subst hr
  exact ⟨_,rfl,jL.fr t⟩
 | cell t ty =>
  simp only [Qt2,Qk] at hr
  obtain ⟨k,hk,rfl⟩ := hr
  simp only [rv1] at jA ⊢
  obtain ⟨c,jB,hrep⟩ := Zal hk jL.mat (jL.fr t) jA
  refine ⟨c,?_,hrep⟩
  have hp : ∃ ad,a.tmps.getD t undef = .pointer (some ad) := by
   have h1 := jL.fr t
   cases hv : σ.fr t <;> rw [hv] at jA h1 <;> first | (simp [ldV] at jA; done) | skip
   case pa cs =>
    simp only [Rep] at h1
    obtain ⟨blk,off,cur,e,fr,h2,_⟩ := h1
    exact ⟨_,h2⟩
   case ad id g off =>
    simp only [ldV] at jA
    split at jA
    ·rename_i g' vs jF
     simp only [Rep] at h1
     obtain ⟨_,gO,ob,hO,kA,h2⟩ := h1
     have hb := jL.mat.blk id gO ob hO
     rw [jF] at hb
     simp only [Qb6] at hb
     have e : g = gO := jA.1.symm.trans hb.1
     obtain ⟨b,_,h3⟩ := h2 e
     exact ⟨_,h3⟩
    ·exact jA.elim
  obtain ⟨ad,nE⟩ := hp
  rw [nE] at jB
  simp only [Qt1,nE,asAddr,Sem.run_bind,Sem.run_pure,Result.andThen_ok]
  simpa [Instr.loadAt,Instr.sureAddr] using jB
def Qxe {σ : St} {a : Act} (jL : SR N S w O σ a) : ∀ (xs : List ResultVar) (rs : List RV),Qh5 P xs = some rs → rvs σ.hp σ.fr rs →
  ∃ cs,(xs.mapM (Qt1 a.tmps)).run P w = .ok cs w ∧ cs.length = rs.length ∧ RepL S w O (rs.map fun r => (rv1 σ.hp σ.fr r).2) cs
 | [],rs,h,_ => by
  simp [Qh5] at h
  subst h
  exact ⟨[],rfl,rfl,by simp [RepL]⟩
 | x :: xs,rs,h,jA => by
  simp only [Qh5,Q0,Option.bind_eq_bind,Qj,Option.pure_def,Za.injEq] at h
  obtain ⟨r,hr,rs',qY,rfl⟩ := h
  obtain ⟨h1,h2⟩ := jA
  obtain ⟨c,hc,hrep⟩ := Zff jL hr h1
  obtain ⟨cs,hcs,hl,e9⟩ := Qxe jL xs rs' qY h2
  refine ⟨c :: cs,?_,by simp [hl],by simp only [Qb,RepL]; exact ⟨hrep,e9⟩⟩
  rw [Q0]
  simp only [Sem.run_bind,hc,Result.andThen_ok,hcs,Sem.run_pure]
def Qhs {σ : St} {a : Act} (jL : SR N S w O σ a) {fn : Func} {rs : List RV} (hr : Qh5 P fn.results.toList = some rs) (jA : rvs σ.hp σ.fr rs) :
  ∃ c,(results fn a.tmps).run P w = .ok c w ∧ Rep S w O (resV σ.hp σ.fr rs) c := by
 obtain ⟨cs,hcs,hl,hrep⟩ := Qxe jL _ _ hr jA
 rw [Quf,Array.mapM_eq_mapM_toList]
 simp only [Sem.run_bind,map_eq_pure_bind,hcs,Result.andThen_ok,Sem.run_pure]
 refine ⟨_,rfl,?_⟩
 match rs,cs,hl,hrep with
 | [],[],_,_ => simp [resV,Rep,RepL]
 | [r],[c],_,h => simpa [resV,RepL] using h
 | r :: r' :: rs,c :: c' :: cs,hl,h =>
  simp only [resV,Rep]
  exact ⟨(c :: c' :: cs).toArray,by simp,by simpa using hl,by simpa using h⟩
def zipA : Nat → List V → List (Nat × V)
 | _,[] => []
 | k,v :: vs => (k,v) :: zipA (k + 1) vs
def Qkr : ∀ (vs : List V) (k t : Nat),lkp (zipA k vs) t = if k ≤ t then (vs[t - k]?).getD .u else .u
 | [],k,t => by simp [zipA,lkp]
 | v :: vs,k,t => by
  simp only [zipA,lkp]
  split
  ·rename_i e; subst e; simp
  ·rename_i j7
   rw [Qkr vs (k + 1) t]
   by_cases h : k ≤ t
   ·have h1 : k + 1 ≤ t := by omega
    rw [if_pos h,if_pos h1]
    have : t - k = (t - (k + 1)) + 1 := by omega
    rw [this]; simp
   ·rw [if_neg h,if_neg (by omega)]
def Qpc {S0 S : Nat → Prop} {w0 w : World} (h : Evol S0 S w0 w noO O) {L : Nat} {o o' : Obj} (hb : w.heap[L]? = some o) (hc : o.isCells = false) (hc' : o'.isCells = false) (hS : ¬ S L) (hL : w0.heap.size ≤ L) :
  Evol S0 S w0 (w.putObj L o') noO O := by
 have kT : ∀ k,k ≠ L → (w.putObj L o').heap[k]? = w.heap[k]? := fun k hk => World.putObj_heap_other hk
 have jQ : (w.putObj L o').heap[L]? = some o' := World.putObj_heap_same (Array.getElem?_eq_some_iff.1 hb).1
 refine ⟨⟨fun k hk => ⟨(h.ext.keep k hk).1,?_⟩,fun _ _ _ h => (by cases h)⟩,h.os,h.tape,h.output,by simpa using h.size,fun a ha => ?_,fun k hk jX => ?_,h.fresh,h.grow⟩
 ·rw [kT k (by rintro rfl; exact hS (h.ext.keep k hk).1)]; exact (h.ext.keep k hk).2
 ·refine Eq.trans ?_ (h.fz a ha)
  by_cases e : a.block = L
  ·simp only [World.frozen?,e,jQ,hb]
   cases o <;> cases o' <;> first | rfl | (simp [Obj.isCells] at hc; done) | (simp [Obj.isCells] at hc'; done)
  ·simp only [World.frozen?,kT _ e]
 ·rw [kT k (by omega)]; exact h.old k hk jX
def Cn (S0 : Nat → Prop) (w0 : World) : Ctx := fun S w O ds _ => Evol S0 S w0 w noO O ∧ ∃ Ds : List Nat,ds = Ds.map col ∧ Ds.Nodup ∧ ∀ D ∈ Ds,w.heap[D]? = some (.deferred (some [])) ∧ ¬ S D ∧ ¬ Own O D ∧ w0.heap.size ≤ D
def Zob {M : FrI} {S0 : Nat → Prop} {w0 : World} (hro : F.round = none) : CtxOk P F n M (Cn S0 w0) 0 1 w0.heap.size := by
 refine ⟨?_,?_,fun _ => hro,fun _ _ _ _ _ _ h => h.1.size,?_,?_,?_,fun h => (by cases h),fun h => (by cases h),fun h => (by cases h)⟩
 ·rintro S S' w w' O O' ds h h' ⟨h1,Ds,h2,h3,h4⟩ hlt ev _
  refine ⟨h1.trans ev,Ds,h2,h3,fun D hD => ?_⟩
  obtain ⟨a1,a2,a3,a4⟩ := h4 D hD
  have hDlt := (Array.getElem?_eq_some_iff.1 a1).1
  refine ⟨(ev.old D hDlt a3).trans a1,fun hS => ?_,fun hO => ?_,a4⟩
  ·rcases ev.grow D hS with h | h | h
   ·exact a2 h
   ·exact a3 h
   ·omega
  ·rcases ev.fresh D hO with h | h
   ·exact a3 h
   ·omega
 ·rintro S w O ds h h' k ⟨h1,Ds,h2,h3,h4⟩ _ _
  refine ⟨h1.cut k,Ds,h2,h3,fun D hD => ?_⟩
  obtain ⟨a1,a2,a3,a4⟩ := h4 D hD
  refine ⟨a1,?_,fun ⟨id,g,ho⟩ => a3 ⟨id,g,(Qbk ho).2⟩,a4⟩
  rintro (h | ⟨id,g,ho⟩)
  ·exact a2 h
  ·exact a3 ⟨id,g,(Qbj ho).2⟩
 ·rintro _ S w O ds h L r r' ⟨h1,Ds,h2,h3,h4⟩ hL hS hO hb
  refine ⟨Qpc h1 hL rfl rfl hS hb,Ds,h2,h3,fun D hD => ?_⟩
  obtain ⟨a1,a2,a3,a4⟩ := h4 D hD
  refine ⟨?_,a2,a3,a4⟩
  rw [World.putObj_heap_other (by rintro rfl; rw [hL] at a1; cases a1)]
  exact a1
 ·rintro _ S w O ds h r ⟨h1,Ds,h2,h3,h4⟩ hS hO
  have hl : Later w ((w.alloc (.deferred (some []))).alloc (.loop r)) := (Qdi w _ rfl).trans (Qdi _ _ rfl)
  refine ⟨h1.trans (hl.evol hS hO),w.heap.size :: Ds,by rw [h2]; rfl,Qh.2 ⟨fun hD => ?_,h3⟩,fun D hD => ?_⟩
  ·have := (Array.getElem?_eq_some_iff.1 (h4 _ hD).1).1; omega
  ·rcases Qg.1 hD with rfl | hD
   ·refine ⟨?_,fun h => ?_,fun h => ?_,h1.size⟩
    ·exact (heap_alloc_old _ _ (by simp)).trans (World.alloc_heap_new w _)
    ·have := hS _ h; omega
    ·have := hO _ h; omega
   ·obtain ⟨a1,a2,a3,a4⟩ := h4 D hD
    exact ⟨(hl.old D (Array.getElem?_eq_some_iff.1 a1).1).trans a1,a2,a3,a4⟩
 ·rintro _ _ S w O O' ds h h' ⟨h1,Ds,h2,h3,h4⟩ hO
  exact ⟨h1.less hO,Ds,h2,h3,fun D hD => ⟨(h4 D hD).1,(h4 D hD).2.1,fun h => (h4 D hD).2.2.1 (hO D h),(h4 D hD).2.2.2⟩⟩
def Qlt {M : FrI} {fn : Func} {rs : List RV} (hr : Qh5 P fn.results.toList = some rs) {S0 S : Nat → Prop} {w0 : World} {σ : St} {a : Act} (jA : rvs σ.hp σ.fr rs) {R : Ending → World → Prop}
  (hR : ∀ w' c,Evol S0 S w0 w' noO O → Mat S w' O σ.hp → Rep S w' O (resV σ.hp σ.fr rs) c → R (.returned c) w') :
  ∀ (Ds : List Nat) (w : World),Ds.Nodup → (∀ D ∈ Ds,w.heap[D]? = some (.deferred (some [])) ∧ ¬ S D ∧ ¬ Own O D ∧ w0.heap.size ≤ D) → Evol S0 S w0 w noO O → SR M S w O σ a → LeavesInM F n P fn a.tmps R (Ds.map col) .returning w
 | [],w,_,_,jD,jL => by
  obtain ⟨c,jB,yB⟩ := Qhs jL hr jA
  exact ⟨c,jB,hR w c jD jL.mat yB⟩
 | D :: Ds,w,hnd,hD,jD,jL => by
  obtain ⟨wG,qW⟩ := Qh.1 hnd
  obtain ⟨a1,a2,a3,a4⟩ := hD D (by simp)
  refine ⟨by simp,.inl ⟨D,_,rfl,run_takeDeferred a1,?_⟩⟩
  refine Qlt hr jA hR Ds _ qW (fun D' hD' => ?_) (Qpc jD a1 rfl rfl a2 a4) (Qml jL _ a2 a3)
  obtain ⟨b1,b2⟩ := hD D' (by simp [hD'])
  exact ⟨(World.putObj_heap_other (by rintro rfl; exact wG hD')).trans b1,b2⟩
def Qzn {args : List V} {cargs : Array Value} {nt : Nat} (hsz : cargs.size = args.length) (hn : args.length ≤ nt) (hrep : RepL S w noO args cargs.toList) :
  (cargs ++ Array.replicate (nt - cargs.size) undef).size = nt ∧ FrM S w noO (lkp (zipA 0 args)) { tmps := cargs ++ Array.replicate (nt - cargs.size) undef,defers := [] } ∧
   ∀ t,t < cargs.size → (cargs ++ Array.replicate (nt - cargs.size) undef).getD t undef = cargs.getD t undef := by
 have kL : ∀ t,t < cargs.size → (cargs ++ Array.replicate (nt - cargs.size) undef).getD t undef = cargs.getD t undef := by
  intro t ht
  simp [Array.getElem?_append,ht]
 refine ⟨by simp; omega,fun t => ?_,kL⟩
 show Rep S w noO (lkp (zipA 0 args) t) _
 rw [Qkr,if_pos (Qv _),Q5]
 cases ht : args[t]? with
 | none => simp [Rep]
 | some v =>
  obtain ⟨cv,yU,hv⟩ := RepL.get _ _ t v hrep ht
  have hlt : t < cargs.size := by have := Qag yU; simpa using this
  show Rep S w noO v ((cargs ++ Array.replicate (nt - cargs.size) undef).getD t undef)
  rw [kL t hlt]
  have : cargs.getD t undef = cv := by
   rw [Array.getElem?_toList] at yU
   have h2 := (Array.getElem?_eq_some_iff.1 yU).2
   simp [hlt,h2]
  rw [this]
  exact hv
def endK (rs : List RV) (K : St → Prop) : Exit → St → Prop
 | .normal,σ | .ret,σ => rvs σ.hp σ.fr rs ∧ K σ
 | _,_ => False
def Qj3 (hG : GOk P Γ) (hm : P.follows .mixedOrders = true) {f : FuncId} {fn : Func} {c : Code} {rc : RC} {rs : List RV} (hf : P.funcs[f]? = some fn) (hb : fn.body = some c)
  (hc : comp P pu (fn.ntmps,0) 0 1 rc c = some rc) (hr : Qh5 P fn.results.toList = some rs) {args : List V} (hn : args.length ≤ fn.ntmps) {K : St → Prop}
  (h : wpR Γ (Qar P) rc (endK rs K) ⟨lkp (zipA 0 args),[]⟩) {S : Nat → Prop} {w : World} {cargs : Array Value} (hS : ∀ n,S n → n < w.heap.size) (hsz : cargs.size = args.length) (hrep : RepL S w noO args cargs.toList) {R : Ending → World → Prop}
  (hR : ∀ σ S' O' w' c,K σ → Evol S S' w w' noO O' → Mat S' w' O' σ.hp → Rep S' w' O' (resV σ.hp σ.fr rs) c → R (.returned c) w') : Calls P f cargs w R := by
 refine Qdy.calls (n := 0) (callsIn_of_wp_marks hf hb trivial ?_)
 obtain ⟨h1,h2,h3⟩ := Qzn hsz hn hrep
 obtain ⟨M,hM⟩ : ∃ M : FrI,M = ⟨fn.ntmps,0,fun _ => undef,fun _ => False⟩ := ⟨_,rfl⟩
 have wM : M.nm = (fn.ntmps,0) := by rw [hM]; rfl
 have hat : At (Cn S w) M S w noO ⟨lkp (zipA 0 args),[]⟩ { tmps := cargs ++ Array.replicate (fn.ntmps - cargs.size) undef,defers := [] } := by
  refine ⟨⟨Evol.refl _ _ _,[],rfl,Qr,fun _ h => by cases h⟩,⟨by rw [hM]; exact h1,fun t ht => by rw [hM] at ht; exact absurd ht (Qo _),h2,⟨hS,fun _ _ _ h => (by cases h),fun _ _ _ _ _ h => (by cases h),fun _ _ _ h => (by cases h)⟩⟩⟩
 refine Qix hG hm (M := M) (by rw [hM]; exact fun _ h => h.elim) rc c rc _ 0 0 1 Qdy (by rw [wM]; exact hc) (Cn S w) w.heap.size (Zob rfl) _ _ _ S w noO _ h hat ?_
 intro e σ' S' w' O' a' he kS
 have fin : (rvs σ'.hp σ'.fr rs ∧ K σ') → LeavesInM Fence.wide 0 P fn a'.tmps R a'.defers .returning w' := by
  rintro ⟨k1,k2⟩
  obtain ⟨ev,Ds,e1,e2,e3⟩ := kS.ctx
  rw [e1]
  exact Qlt hr k1 (fun w2 c jD jC yB => hR σ' S' O' w2 c k2 jD jC yB) Ds w' e2 e3 ev kS.sr
 cases e <;> first | exact fin he | exact he.elim
def Qwz (hG : GOk P Γ) (hm : P.follows .mixedOrders = true) {f : FuncId} {fn : Func} {c : Code} {rc : RC} {rs : List RV} (hf : P.funcs[f]? = some fn) (hb : fn.body = some c)
  (hc : comp P pu (fn.ntmps,0) 0 1 rc c = some rc) (hr : Qh5 P fn.results.toList = some rs) {args : List V} {r : V} (hn : args.length ≤ fn.ntmps)
  (h : wpR Γ (Qar P) rc (endQ rs r) ⟨lkp (zipA 0 args),[]⟩) : Qa1 P f args r := by
 intro S w cargs hS hsz hrep
 have he : endQ rs r = endK rs fun σ => vw σ.hp 8 (resV σ.hp σ.fr rs) = r := by
  funext e σ; cases e <;> rfl
 rw [he] at h
 refine Qj3 hG hm hf hb hc hr hn h hS hsz hrep ?_
 intro σ' S' O' w' cv h2 jD jC yB
 refine ⟨cv,rfl,?_,?_⟩
 ·exact ⟨⟨fun k hk => ⟨.inl hk,(jD.ext.keep k hk).2⟩,fun _ _ _ h => by cases h⟩,jD.os,jD.tape,jD.output,jD.size,jD.fz,jD.old,fun k ⟨_,_,h⟩ => (by cases h),fun k hk => hk.imp id fun h => .inr h.1⟩
 ·have h3 := Qmp jC 8 _ _ yB
  rw [h2] at h3
  refine Rep.ext ⟨fun k hk => ⟨?_,rfl⟩,fun _ _ _ h => by cases h⟩ _ _ h3
  rcases hk with hk | ⟨id,g,ho⟩
  ·rcases jD.grow k hk with h4 | h4 | h4
   ·exact .inl h4
   ·obtain ⟨_,_,h4⟩ := h4; cases h4
   ·exact .inr ⟨h4,jC.lt k hk⟩
  ·rcases jD.fresh k ⟨id,g,ho⟩ with h4 | h4
   ·obtain ⟨_,_,h4⟩ := h4; cases h4
   ·exact .inr ⟨h4,(jC.own id g k ho).1⟩
def endO (rs : List RV) (r : V) (hp : List Blk) : Exit → St → Prop
 | .normal,σ | .ret,σ => rvs σ.hp σ.fr rs ∧ resV σ.hp σ.fr rs = r ∧ σ.hp = hp
 | _,_ => False
def Qku (hG : GOk P Γ) (hm : P.follows .mixedOrders = true) {f : FuncId} {fn : Func} {c : Code} {rc : RC} {rs : List RV} (hf : P.funcs[f]? = some fn) (hb : fn.body = some c)
  (hc : comp P pu (fn.ntmps,0) 0 1 rc c = some rc) (hr : Qh5 P fn.results.toList = some rs) {args : List V} {r : V} {hp : List Blk} (hn : args.length ≤ fn.ntmps)
  (h : wpR Γ (Qar P) rc (endO rs r hp) ⟨lkp (zipA 0 args),[]⟩) : Qd3 P f args r hp := by
 intro S w cargs hS hsz hrep
 have he : endO rs r hp = endK rs fun σ => resV σ.hp σ.fr rs = r ∧ σ.hp = hp := by
  funext e σ; cases e <;> rfl
 rw [he] at h
 refine Qj3 hG hm hf hb hc hr hn h hS hsz hrep ?_
 rintro σ' S' O' w' cv ⟨h2,h3⟩ jD jC yB
 rw [h2] at yB
 rw [h3] at jC
 exact ⟨cv,S',O',rfl,jD,jC,yB⟩
def Qx5 (hG : GOk P Γ) (hm : P.follows .mixedOrders = true) {f : FuncId} {fn : Func} {c : Code} {rc : RC} {rs : List RV} (hf : P.funcs[f]? = some fn) (hb : fn.body = some c)
  (hc : comp P pu (fn.ntmps,0) 0 1 rc c = some rc) (hr : Qh5 P fn.results.toList = some rs) {args : List V} {R : V → List Blk → Prop} (hn : args.length ≤ fn.ntmps)
  (h : wpR Γ (Qar P) rc (endK rs fun σ => R (resV σ.hp σ.fr rs) σ.hp) ⟨lkp (zipA 0 args),[]⟩) : Qdt P f args R := by
 intro S w cargs hS hsz hrep
 refine Qj3 hG hm hf hb hc hr hn h hS hsz hrep ?_
 rintro σ' S' O' w' cv h2 jD jC yB
 exact ⟨cv,S',O',_,_,rfl,h2,jD,jC,yB⟩
def endI : Exit → St → Prop
 | .normal,σ | .ret,σ => match (σ.hp[0]? : Option Blk) with
  | some (Blk.gh _ (some [])) => True
  | some (Blk.gh _ none) => True
  | _ => False
 | _,_ => False
def Γ0 : Gam := ⟨fun _ _ => (False,.u),fun _ _ _ => (False,fun _ _ => False),fun _ => False,fun _ _ _ _ => (False,fun _ _ => False)⟩
def Zic : GOk P Γ0 := ⟨fun _ _ _ h => h.elim,fun _ _ _ _ h => h.elim,fun _ _ _ _ h => h.elim,fun _ _ _ h => h.elim,fun _ _ _ h => h.elim,fun _ _ _ _ h => h.elim⟩
def Gam.ext (Γ : Gam) (f : Nat) (r : List V → Prop × V) : Gam := ⟨fun g as0 => if g = f then r as0 else Γ g as0,Γ.h,Γ.al,Γ.y⟩
def Qcm {f g : Nat} {r : List V → Prop × V} {as0 : List V} (h : g ≠ f) : Γ.ext f r g as0 = Γ g as0 := if_neg h
def Qna {f : Nat} {r : List V → Prop × V} {as0 : List V} : Γ.ext f r f as0 = r as0 := if_pos rfl
def GOk.ext (h : GOk P Γ) {f : Nat} {r : List V → Prop × V} (he : Qel P f) (hr : ∀ as0,(r as0).1 → Qa1 P f as0 (r as0).2) (hf : f < 1000000 := by decide) : GOk P (Γ.ext f r) := by
 refine ⟨fun g as0 vP hg => ?_,fun g as0 r' bs hg vP hv => ?_,fun g as0 ys vP hg hv => ?_,fun g as0 vP hg => ?_,h.heap,h.yc⟩
 ·by_cases e : g = f
  ·subst e
   rw [Qna] at hg ⊢
   exact ⟨he,hr as0 hg⟩
  ·rw [Qcm e] at hg ⊢
   exact h.pure g as0 vP hg
 ·rw [Qcm (by omega)] at hg hv
  exact h.own g as0 r' bs hg vP hv
 ·rw [Qcm (by omega)] at hg hv
  exact h.iter g as0 ys vP hg hv
 ·rw [Qcm (by omega)] at hg
  have e1 : ∀ x,Γ.ext f r (4000000 + g) x = Γ (4000000 + g) x := fun x => Qcm (by omega)
  simp only [e1]
  exact h.rel g as0 vP hg
def GOk.extO (h : GOk P Γ) {f : Nat} {r : List V → Prop × V} (he : Qel P f) (hr : ∀ as0 v bs,(r as0).1 → (r as0).2 = .tp [v,.tp bs] → Qd3 P f as0 v (bs.map vB)) (hf : f < 1000000 := by decide) : GOk P (Γ.ext (1000000 + f) r) := by
 refine ⟨fun g as0 vP hg => ?_,fun g as0 r' bs hg vP hv => ?_,fun g as0 ys vP hg hv => ?_,fun g as0 vP hg => ?_,h.heap,h.yc⟩
 ·rw [Qcm (by omega)] at hg ⊢
  exact h.pure g as0 vP hg
 ·by_cases e : g = f
  ·subst e
   rw [Qna] at hg hv
   exact ⟨he,hr as0 r' bs hg hv⟩
  ·rw [Qcm (by omega)] at hg hv
   exact h.own g as0 r' bs hg vP hv
 ·rw [Qcm (by omega)] at hg hv
  exact h.iter g as0 ys vP hg hv
 ·rw [Qcm (by omega)] at hg
  have e1 : ∀ x,Γ.ext (1000000 + f) r (4000000 + g) x = Γ (4000000 + g) x := fun x => Qcm (by omega)
  simp only [e1]
  exact h.rel g as0 vP hg
def GOk.extR (h : GOk P Γ) {f : Nat} {p q : List V → Prop} (he : Qel P f) (hr : ∀ as0,p as0 → Qdt P f as0 fun r hp => ∃ bs : List V,hp = bs.map vB ∧ q (.tp (r :: bs) :: as0)) (hf : f < 1000000 := by decide) :
  GOk P ((Γ.ext (3000000 + f) fun as0 => (p as0,.u)).ext (4000000 + f) fun as0 => (q as0,.u)) := by
 refine ⟨fun g as0 vP hg => ?_,fun g as0 r' bs hg vP hv => ?_,fun g as0 ys vP hg hv => ?_,fun g as0 vP hg => ?_,h.heap,h.yc⟩
 ·rw [Qcm (by omega),Qcm (by omega)] at hg ⊢
  exact h.pure g as0 vP hg
 ·rw [Qcm (by omega),Qcm (by omega)] at hg hv
  exact h.own g as0 r' bs hg vP hv
 ·rw [Qcm (by omega),Qcm (by omega)] at hg hv
  exact h.iter g as0 ys vP hg hv
 ·by_cases e : g = f
  ·subst e
   rw [Qcm (by omega),Qna] at hg
   refine ⟨he,?_⟩
   simp only [Qna]
   exact hr as0 hg
  ·rw [Qcm (by omega),Qcm (by omega)] at hg
   have e1 : ∀ x,(Γ.ext (3000000 + f) fun as0 => (p as0,.u)).ext (4000000 + f) (fun as0 => (q as0,.u)) (4000000 + g) x = Γ (4000000 + g) x := fun x => by rw [Qcm (by omega),Qcm (by omega)]
   simp only [e1]
   exact h.rel g as0 vP hg
def Gam.extH (Γ : Gam) (f : Nat) (t : List V → List Blk → Prop × (V → List Blk → Prop)) : Gam := ⟨Γ.f,fun g as0 hp => if g = f then t as0 hp else Γ.h g as0 hp,Γ.al,Γ.y⟩
def GOk.extH (h : GOk P Γ) {f : Nat} {t : List V → List Blk → Prop × (V → List Blk → Prop)} (he : Qel P f)
  (hr : ∀ as0 hp,(t as0 hp).1 → (∀ r hp',(t as0 hp).2 r hp' → ∀ y,ghO hp = some y → ghO hp' = some y) ∧ Qb7 P f as0 hp (t as0 hp).2) : GOk P (Γ.extH f t) := by
 refine ⟨h.pure,h.own,h.iter,h.rel,fun g as0 hp hg => ?_,h.yc⟩
 unfold Gam.extH at hg ⊢
 by_cases e : g = f
 ·subst e
  simp only [if_true] at hg ⊢
  exact ⟨he,hr as0 hp hg⟩
 ·simp only [if_neg e] at hg ⊢
  exact h.heap g as0 hp hg
def Gam.extY (Γ : Gam) (f : Nat) (t : (List V → Prop) → List V → List Blk → Prop × (V → List Blk → Prop)) : Gam := ⟨Γ.f,Γ.h,Γ.al,fun g al as0 hp => if g = f then t al as0 hp else Γ.y g al as0 hp⟩
def GOk.extY (h : GOk P Γ) {f : Nat} {t : (List V → Prop) → List V → List Blk → Prop × (V → List Blk → Prop)} (he : Qel P f) (hr : ∀ al as0 hp,(t al as0 hp).1 → Qkc P f al as0 hp (t al as0 hp).2) : GOk P (Γ.extY f t) := by
 refine ⟨h.pure,h.own,h.iter,h.rel,h.heap,fun g al as0 hp hg => ?_⟩
 unfold Gam.extY at hg ⊢
 by_cases e : g = f
 ·subst e
  simp only [if_true] at hg ⊢
  exact ⟨he,hr al as0 hp hg⟩
 ·simp only [if_neg e] at hg ⊢
  exact h.yc g al as0 hp hg
def Gam.wal (Γ : Gam) (al : List V → Prop) : Gam := ⟨Γ.f,Γ.h,al,Γ.y⟩
def GOk.wal (h : GOk P Γ) (al : List V → Prop) : GOk P (Γ.wal al) := ⟨h.pure,h.own,h.iter,h.rel,h.heap,h.yc⟩
def Qkc.mono {f : FuncId} {al : List V → Prop} {args : List V} {R R' : V → List Blk → Prop} (h : Qkc P f al args hp R) (hr : ∀ r hp,R r hp → R' r hp) : Qkc P f al args hp R' := by
 intro F n lo C S w O cargs a1 a2 a3 a4 a5 a6 a7 a8
 refine (h F n lo C S w O cargs a1 a2 a3 a4 a5 a6 a7 a8).mono ?_
 rintro e w' ⟨c,S',O',r,hp',h1,h2,h3⟩
 exact ⟨c,S',O',r,hp',h1,hr _ _ h2,h3⟩
def Qxi {args : List V} {cargs : Array Value} {nt : Nat} (hsz : cargs.size = args.length) (hn : args.length ≤ nt) (hrep : RepL S w O args cargs.toList) :
  (cargs ++ Array.replicate (nt - cargs.size) undef).size = nt ∧ FrM S w O (lkp (zipA 0 args)) { tmps := cargs ++ Array.replicate (nt - cargs.size) undef,defers := [] } := by
 have kL : ∀ t,t < cargs.size → (cargs ++ Array.replicate (nt - cargs.size) undef).getD t undef = cargs.getD t undef := by
  intro t ht
  simp [Array.getElem?_append,ht]
 refine ⟨by simp; omega,fun t => ?_⟩
 show Rep S w O (lkp (zipA 0 args) t) _
 rw [Qkr,if_pos (Qv _),Q5]
 cases ht : args[t]? with
 | none => simp [Rep]
 | some v =>
  obtain ⟨cv,yU,hv⟩ := RepL.get _ _ t v hrep ht
  have hlt : t < cargs.size := by have := Qag yU; simpa using this
  show Rep S w O v ((cargs ++ Array.replicate (nt - cargs.size) undef).getD t undef)
  rw [kL t hlt]
  have : cargs.getD t undef = cv := by
   rw [Array.getElem?_toList] at yU
   have h2 := (Array.getElem?_eq_some_iff.1 yU).2
   simp [hlt,h2]
  rw [this]
  exact hv
def Cy (lo : Nat) (S0 : Nat → Prop) (w0 : World) (O0 : OInfo) (C : (Nat → Prop) → World → OInfo → Gh → Prop) : Ctx := fun S w O ds h => ds = [] ∧ C S w O h ∧ ExtN lo S0 S w0 w O0 O
def Qiy (hG : GOk P Γ) (hm : P.follows .mixedOrders = true) {f : FuncId} {fn : Func} {c : Code} {rc : RC} {rs : List RV} (hf : P.funcs[f]? = some fn) (hb : fn.body = some c) {lo : Nat}
  (hc : comp P pu (fn.ntmps,0) lo 3 rc c = some rc) (hr : Qh5 P fn.results.toList = some rs) {args : List V} (hn : args.length ≤ fn.ntmps) {hp : List Blk} (kL : hp.length = lo) (gV : 0 < lo) {R : V → List Blk → Prop}
  (h : wpR Γ (Qar P) rc (endK rs fun σ => R (resV σ.hp σ.fr rs) σ.hp) ⟨lkp (zipA 0 args),hp⟩) : Qkc P f Γ.al args hp R := by
 intro F n lo1 C S w O cargs hF hro hY pA zT jC hsz hrep
 refine callsIn_of_wp_marks hf hb (hF.1 f) ?_ hro
 obtain ⟨h1,h2⟩ := Qxi hsz hn hrep
 obtain ⟨M,hM⟩ : ∃ M : FrI,M = ⟨fn.ntmps,0,fun _ => undef,Γ.al⟩ := ⟨_,rfl⟩
 have wM : M.nm = (fn.ntmps,0) := by rw [hM]; rfl
 have hOlt : ∀ id x,O id = some x → id < lo := fun id x h => by have := Qhb jC h; omega
 have hCy : CtxOk P F n M (Cy lo S w O C) lo 3 0 := by
  refine ⟨?_,?_,fun h => (by cases h),fun h => (by cases h),fun h => (by cases h),fun h => (by cases h),fun h => (by cases h),fun h => (by cases h),?_,fun _ => hro⟩
  ·rintro S1 S2 w1 w2 O1 O2 ds g g' ⟨a1,a2,a3⟩ hlt ev hg
   exact ⟨a1,hY.evol a2 hlt ev hg,a3.then ev.ext⟩
  ·rintro S1 w1 O1 ds g g' kk ⟨a1,a2,a3⟩ eV hg
   exact ⟨a1,hY.cut a2 (by omega) (hg (by omega)),a3.cut eV⟩
  ·rintro _ S1 w1 O1 ds caps bv x z rest cx l m ⟨a1,a2,a3⟩ fA hl hx hs
   obtain ⟨fn',tm,as0,bd,bN,kE⟩ := hY.yld (m := m) a2 fA hl hx hs
   refine ⟨fn',tm,as0,bd,bN,kE.mono ?_⟩
   rintro e W' ⟨b,S',O',bv',b1,b2,b3,b4,b5⟩
   exact ⟨b,S',O',bv',b1,by rw [hM]; exact b2,⟨a1,b3,a3.then b4⟩,b4,b5⟩
 have hat : At (Cy lo S w O C) M S w O ⟨lkp (zipA 0 args),hp⟩ { tmps := cargs ++ Array.replicate (fn.ntmps - cargs.size) undef,defers := [] } := by
  refine ⟨⟨rfl,zT,ExtN.refl _ _ _ _⟩,⟨by rw [hM]; exact h1,fun t ht => by rw [hM] at ht; exact absurd ht (Qo _),h2,jC⟩⟩
 refine Qix hG hm (M := M) (by rw [hM]; exact fun _ h => h) rc c rc F n lo 3 hF (by rw [wM]; exact hc) _ 0 hCy _ _ _ S w O _ h hat ?_
 intro e σ' S' w' O' a' he kS
 have fin : (rvs σ'.hp σ'.fr rs ∧ R (resV σ'.hp σ'.fr rs) σ'.hp) → LeavesInM F n P fn a'.tmps (fun e w' => ∃ c S' O' r hp',e = .returned c ∧ R r hp' ∧ C S' w' O' (ghO hp') ∧ Ext S S' w w' O O' ∧ Mat S' w' O' hp' ∧ Rep S' w' O' r c) a'.defers .returning w' := by
  rintro ⟨k1,k2⟩
  obtain ⟨a1,a2,a3⟩ := kS.ctx
  rw [a1]
  obtain ⟨cv,jB,yB⟩ := Qhs kS.sr hr k1
  exact ⟨cv,jB,cv,S',O',_,_,rfl,k2,a2,a3.ext hOlt,kS.sr.mat,yB⟩
 cases e <;> first | exact fin he | exact he.elim
end
end Go.Fam
namespace Go.Fam
abbrev cMv (d s : Nat) : RO := ⟨some d,none,[s],none,.q (.mv (.t s))⟩
abbrev cEx (d s k : Nat) : RO := ⟨some d,none,[s],none,.q (.ext (.t s) k)⟩
abbrev cFa (d s k : Nat) : RO := ⟨some d,none,[s],none,.q (.fad k (.t s))⟩
abbrev cLd (d s : Nat) (a : Bool) (n : Nat) : RO := ⟨some d,none,[s],none,.q (.ld a n (.t s))⟩
abbrev cLn (d s : Nat) : RO := ⟨some d,none,[s],none,.q (.len (.t s))⟩
abbrev cQ (d : Nat) (ts : List Nat) (q : Q) : RO := ⟨some d,none,ts,none,.q q⟩
abbrev gMv (d g : Nat) (b : Bool) (s : Nat) : RO := ⟨some d,some (g,b),[s],none,.q (.mv (.t s))⟩
abbrev gQ (d g : Nat) (b : Bool) (ts : List Nat) (q : Q) : RO := ⟨some d,some (g,b),ts,none,.q q⟩
abbrev cB (d : Nat) (o : BinOp) (a b : Nat) : RO := ⟨some d,none,[a,b],none,.q (.bin o (.t a) (.t b))⟩
abbrev cC (d : Nat) (o : BinOp) (a : Nat) (n : Int) : RO := ⟨some d,none,[a],none,.q (.bin o (.t a) (.k (.i n)))⟩
abbrev cI (d : Nat) (n : Int) : RO := ⟨some d,none,[],none,.q (.mv (.k (.i n)))⟩
abbrev cA (d k a b : Nat) : RO := ⟨some d,none,[a,b],none,.q (.iad k (.t a) (.t b))⟩
abbrev cZ (d s : Nat) : RO := ⟨some d,none,[s],none,.q (.nilc (.t s))⟩
abbrev cN (d s : Nat) : RO := ⟨some d,none,[s],none,.q (.not (.t s))⟩
abbrev cX (d s : Nat) : RO := ⟨some d,none,[s],none,.q (.box (.t s))⟩
abbrev CCx (p : Program) (f : Func) (pu : List Nat) (rc : RC) : Prop := comp p pu (f.ntmps,0) 0 1 rc (f.body.getD .skip) = some rc
abbrev CBx (f : Func) : Prop := f.body = some (f.body.getD .skip)
abbrev CSx (p : Program) (f : Func) (rs : List RV) : Prop := Qh5 p f.results.toList = some rs
abbrev kI (n : Int) : Od := .k (.i n)
abbrev kB (b : Bool) : Od := .k (.b b)
abbrev kF (f : Nat) : Od := .k (.fn f [])
abbrev oV (d : Nat) (b : Bool) : RO := ⟨some d,none,[],none,.q (.mv (.k (.b b)))⟩
abbrev oK (d : Nat) (ts : List Nat) (f : Nat) (as0 : List Od) : RO := ⟨some d,none,ts,none,.q (.call (.k (.fn f [])) as0)⟩
abbrev oA (d a b : Nat) : RO := ⟨some d,none,[a,b],none,.q (.pick (.t a) (.t b) (.k (.b false)))⟩
abbrev oO (d a b : Nat) : RO := ⟨some d,none,[a,b],none,.q (.pick (.t a) (.k (.b true)) (.t b))⟩
abbrev gB (d g : Nat) (c : Bool) (o : BinOp) (a b : Nat) : RO := ⟨some d,some (g,c),[a,b],none,.q (.bin o (.t a) (.t b))⟩
abbrev gC (d g : Nat) (c : Bool) (o : BinOp) (a : Nat) (n : Int) : RO := ⟨some d,some (g,c),[a],none,.q (.bin o (.t a) (.k (.i n)))⟩
abbrev gF (d g : Nat) (c : Bool) (k a : Nat) : RO := ⟨some d,some (g,c),[a],none,.q (.fad k (.t a))⟩
abbrev gL (d g : Nat) (c : Bool) (s : Nat) (a : Bool) (n : Nat) : RO := ⟨some d,some (g,c),[s],none,.q (.ld a n (.t s))⟩
abbrev oS (n a b : Nat) : RO := ⟨none,none,[a,b],none,.w (.st n (.t a) (.t b))⟩
abbrev oW (d : Nat) (ts : List Nat) (x : W) : RO := ⟨some d,none,ts,none,.w x⟩
abbrev oL (d s : Nat) : RO := ⟨some d,none,[s],none,.q (.ld false 1 (.t s))⟩
abbrev oM (d s : Nat) : RO := ⟨some d,none,[s],none,.q (.mv (.t s))⟩
abbrev oE (d s k : Nat) : RO := ⟨some d,none,[s],none,.q (.ext (.t s) k)⟩
abbrev oF (d s k : Nat) : RO := ⟨some d,none,[s],none,.q (.fad k (.t s))⟩
abbrev oD (d s : Nat) (a : Bool) (n : Nat) : RO := ⟨some d,none,[s],none,.q (.ld a n (.t s))⟩
abbrev oN (d s : Nat) : RO := ⟨some d,none,[s],none,.q (.len (.t s))⟩
abbrev gM (d g : Nat) (b : Bool) (s : Nat) : RO := ⟨some d,some (g,b),[s],none,.q (.mv (.t s))⟩
abbrev oY (o : RO) (l : List Nat) : AnyOp := ⟨o,[],l⟩
abbrev rF (l : List RO) (k : List Nat) (x : RC) : RC := .seq (.reg false l) (.keep k x)
abbrev rT (l : List RO) (k : List Nat) (x : RC) : RC := .seq (.reg true l) (.keep k x)
abbrev qF (l : List RO) : RC := .seq (.reg false l) .ret
abbrev qT (l : List RO) : RC := .seq (.reg true l) .ret
abbrev oI (t : Nat) (a b : RC) : RC := .cond (.t t) a b
end Go.Fam
namespace Go.Fam
def Qfi (fr : List (Nat × V)) (d : Nat) (v : V) : upd (lkp fr) (some d) v = lkp ((d,v) :: fr) := rfl
def Qzq (fr : Nat → V) (v : V) : upd fr none v = fr := rfl
def Qdn (fr : List (Nat × V)) (d t : Nat) (v : V) : lkp ((d,v) :: fr) t = if t = d then v else lkp fr t := rfl
def Qfb (t : Nat) : lkp [] t = .u := rfl
def vw_i (hp : List Blk) (n : Nat) (x : Int) : vw hp (n + 1) (.i x) = .i x := rfl
def vw_b (hp : List Blk) (n : Nat) (x : Bool) : vw hp (n + 1) (.b x) = .b x := rfl
def vw_u (hp : List Blk) (n : Nat) : vw hp n .u = .u := by cases n <;> rfl
def Zqi (hp : List Blk) (n : Nat) : vw hp (n + 1) .pn = .pn := rfl
def vw_z (hp : List Blk) (n : Nat) (e : Nat) : vw hp (n + 1) (.z e) = .sl e [] := rfl
def Zqj (hp : List Blk) (n : Nat) (e : Nat) (r : List (List V)) : vw hp (n + 1) (.sl e r) = .sl e r := rfl
def Qul (hp : List Blk) (n : Nat) (r : List V) : vw hp (n + 1) (.pa r) = .pa r := rfl
def Zqg (hp : List Blk) (n : Nat) (r : List V) : vw hp (n + 1) (.ag r) = .ag (r.map (vw hp n)) := rfl
def Zqk (hp : List Blk) (n : Nat) (r : List V) : vw hp (n + 1) (.tp r) = .tp (r.map (vw hp n)) := rfl
def Zqh (hp : List Blk) (n f : Nat) (r : List V) : vw hp (n + 1) (.fn f r) = .fn f (r.map (vw hp n)) := rfl
def Zqf (hp : List Blk) (n id g off : Nat) : vw hp (n + 1) (.ad id g off) = match hp[id]? with
   | some (.cells g' vs) => if g' = g then .pa ((vs.drop off).map (vw hp n)) else .u
   | _ => .u := rfl
def Qql (hp : List Blk) (n id g off len es : Nat) : vw hp (n + 1) (.rf id g off len es) = match hp[id]? with
   | some (.cells g' vs) => if g' = g ∧ off + len * es ≤ vs.length then .sl es ((Qbi es vs off len).map fun r => r.map (vw hp n)) else .u
   | _ => .u := rfl
def vw8 (hp : List Blk) (v : V) : vw hp 8 v = vw hp (7 + 1) v := rfl
section
variable {Γ : Gam} {E : TypeId → Nat → Prop} {g : Bool} {base : Nat}
def Qbe (σ : St) (K : St → Prop) : runR Γ E g base [] σ K = K σ := rfl
def Qfg (o : RO) (l : List RO) (σ : St) (K : St → Prop) : runR Γ E g base (o :: l) σ K = ((step Γ E g base o σ).1 ∧ runR Γ E g base l (step Γ E g base o σ).2 K) := rfl
def Zlo (d : Option Nat) (gd : Option (Nat × Bool)) (ts : List Nat) (nid : Option Nat) (q : Q) (σ : St) :
  step Γ E false base ⟨d,gd,ts,nid,.q q⟩ σ = ((qv Γ E σ.hp q (evO σ.fr)).1,⟨upd σ.fr d (qv Γ E σ.hp q (evO σ.fr)).2,σ.hp⟩) := rfl
def Zpj (d : Option Nat) (gd : Option (Nat × Bool)) (ts : List Nat) (nid : Option Nat) (q : Q) (σ : St) :
  eff Γ E false base ⟨d,gd,ts,nid,.q q⟩ σ = ((qv Γ E σ.hp q (evO σ.fr)).1,(qv Γ E σ.hp q (evO σ.fr)).2,[]) := rfl
variable {Q : Exit → St → Prop} {σ : St}
def Qrj : wpR Γ E .no Q σ = False := rfl
def Qmj : wpR Γ E .skip Q σ = Q .normal σ := rfl
def Qmh (l : List RO) : wpR Γ E (.reg g l) Q σ = runR Γ E g 0 l σ (Q .normal) := rfl
def Qxb (m : Nat) (l : List AnyOp) : wpR Γ E (.any g m l) Q σ = runX Γ E g σ.hp.length l [] ⟨σ.fr,σ.hp ++ Qs m .hole⟩ (Q .normal) := rfl
def Qmi (a b : RC) : wpR Γ E (.seq a b) Q σ = wpR Γ E a (Qfw (wpR Γ E b Q) Q) σ := rfl
def Zfc (c : Od) (a b : RC) : wpR Γ E (.cond c a b) Q σ = match evO σ.fr c with
  | .b t => (t = true → wpR Γ E a Q σ) ∧ (t = false → wpR Γ E b Q σ)
  | _ => False := rfl
def Qmf (c : Od) (a b : RC) : wpR Γ E (.cond c a b) Q σ = match evO σ.fr c with
  | .b t => if t = true then wpR Γ E a Q σ else wpR Γ E b Q σ
  | _ => False := by
 rw [Zfc]
 cases evO σ.fr c <;> try rfl
 rename_i t
 cases t <;> simp
def Qin (id : Nat) (a : RC) : wpR Γ E (.block id a) Q σ = wpR Γ E a (Qhx id Q) σ := rfl
def Qri (id : Nat) : wpR Γ E (.exit id) Q σ = Q (.exit id) σ := rfl
def Qxc : wpR Γ E .ret Q σ = Q .ret σ := rfl
def Qht (l : List Nat) (a : RC) : wpR Γ E (.keep l a) Q σ = wpR Γ E a Q ⟨lkp (l.map fun t => (t,σ.fr t)),σ.hp⟩ := rfl
def Qmg (n : Nat) (a : RC) : wpR Γ E (.drp n a) Q σ = wpR Γ E a Q ⟨fun t => cutV σ.hp n (σ.fr t),cutH n σ.hp⟩ := rfl
def Zlb (t es : Nat) (a : RC) : wpR Γ E (.own t es a) Q σ = match σ.fr t with
  | .z _ => wpR Γ E a Q ⟨upd σ.fr (some t) (.rf σ.hp.length 0 0 0 es),σ.hp ++ [.cells 0 []]⟩
  | _ => False := rfl
def Zfd (t off es : Nat) (a : RC) : wpR Γ E (.ownc t off es a) Q σ = match σ.fr t with
  | .ad id g o => match σ.hp[id]? with
   | some (.cells g' vs) => match vs[o + off]? with
    | some (.z _) => g' = g ∧ wpR Γ E a Q ⟨σ.fr,σ.hp.set id (.cells g (vs.set (o + off) (.rf σ.hp.length 0 0 0 es))) ++ [.cells 0 []]⟩
    | _ => False
   | _ => False
  | _ => False := rfl
def Zlf (i j : Nat) (a : RC) : wpR Γ E (.swp i j a) Q σ = (i < σ.hp.length ∧ j < σ.hp.length ∧ wpR Γ E a Q ⟨fun t => renV (sw i j) (σ.fr t),swH i j σ.hp⟩) := rfl
def Zla (d m it : Nat) : wpR Γ E (.nxt d m it) Q σ = match σ.fr it with
  | .it id g => match σ.hp[id]? with
   | some (.iter mid n left _) => match σ.hp[mid]? with
    | some (.map _ ks _) => g = 0 ∧ ks.length = n ∧ (left = [] → Q .normal ⟨upd (upd σ.fr (some d) .u) (some m) (.b false),σ.hp⟩) ∧
      ∀ j ∈ left,Q .normal ⟨upd (upd σ.fr (some d) .u) (some m) (.b true),σ.hp.set id (.iter mid n (left.erase j) (some j))⟩
    | _ => False
   | _ => False
  | _ => False := rfl
def Zl9 (l1 : List RO) (y : RO) (l2 : List RO) : wpR Γ E (.hcl g l1 y l2) Q σ = runR Γ E g 0 l1 σ fun σ1 => match y.x with
  | .o f args => match opv g σ1.fr f with
   | .fn gf caps => Qbp g y σ1.fr ∧ (Γ.h gf (args.map (opv g σ1.fr) ++ caps) σ1.hp).1 ∧
     ∀ r hp',(Γ.h gf (args.map (opv g σ1.fr) ++ caps) σ1.hp).2 r hp' → runR Γ E g 0 l2 ⟨upd σ1.fr y.dst r,hp'⟩ (Q .normal)
   | _ => False
  | _ => False := rfl
def Zlg (m1 : Nat) (l1 : List AnyOp) (y : AnyOp) (m2 : Nat) (l2 : List AnyOp) : wpR Γ E (.yrx g m1 l1 y m2 l2) Q σ = runX Γ E g σ.hp.length l1 [] ⟨σ.fr,σ.hp ++ Qs m1 .hole⟩ fun σ1 => match y.o.x with
  | .o f args => match opv g σ1.fr f,σ1.hp with
   | .yl l,.gh caps (some ((.b true :: bv) :: [.tp x,.tp z] :: rest)) :: tl => Qbp g y.o σ1.fr ∧ caps[0]? = some (.yl l) ∧ args.map (opv g σ1.fr) = x ∧ tl = (bv ++ z).map vB ∧
     ∀ b bv',Γ.al bv' → runX Γ E g (Blk.gh caps (some ((.b b :: bv') :: if b then rest else [])) :: (bv' ++ z).map vB).length l2 (Qs (l1.length + 1) ⟨none,[]⟩) ⟨upd σ1.fr y.o.dst (.b b),(Blk.gh caps (some ((.b b :: bv') :: if b then rest else [])) :: (bv' ++ z).map vB) ++ Qs m2 .hole⟩ (Q .normal)
   | _,_ => False
  | _ => False := rfl
def Zld (l1 : List RO) (y : RO) (l2 : List RO) : wpR Γ E (.rnl g l1 y l2) Q σ = runR Γ E g 0 l1 σ fun σ1 => match y.x with
  | .q (.len a) => match opv g σ1.fr a with
   | .sl _ rows => Qbp g y σ1.fr ∧ ∀ b,(rows ≠ [] → b = false) → runR Γ E g 0 l2 ⟨upd σ1.fr y.dst (.b b),σ1.hp⟩ (Q .normal)
   | .z _ => Qbp g y σ1.fr ∧ ∀ b,runR Γ E g 0 l2 ⟨upd σ1.fr y.dst (.b b),σ1.hp⟩ (Q .normal)
   | _ => False
  | _ => False := rfl
def Qk7 (l : List It) : wpR Γ E (.itm l) Q σ = runI Γ E l σ (Q .normal) := rfl
def Qec (K : St → Prop) : runI Γ E [] σ K = K σ := rfl
def Qk8 (o : RO) (l : List It) (K : St → Prop) : runI Γ E (.r o :: l) σ K = ((step Γ E true 0 o σ).1 ∧ runI Γ E l (step Γ E true 0 o σ).2 K) := rfl
def Qns (o : RO) (l : List It) (K : St → Prop) : runI Γ E (.w o :: l) σ K = match Qdf σ.fr o.gd with
  | none => False
  | some false => runI Γ E l ⟨upd σ.fr o.dst (.gv false .u),σ.hp⟩ K
  | some true => (step Γ E true 0 o σ).1 ∧ runI Γ E l (step Γ E true 0 o σ).2 K := rfl
def Zc9 (o : RO) (l : List It) (K : St → Prop) : runI Γ E (.h o :: l) σ K = match Qdf σ.fr o.gd with
  | none => False
  | some false => runI Γ E l ⟨upd σ.fr o.dst (.gv false .u),σ.hp⟩ K
  | some true => match o.x with
   | .o f args => match opv true σ.fr f with
    | .fn gf caps => Qbp true o σ.fr ∧ (Γ.h gf (args.map (opv true σ.fr) ++ caps) σ.hp).1 ∧
      ∀ r hp',(Γ.h gf (args.map (opv true σ.fr) ++ caps) σ.hp).2 r hp' → runI Γ E l ⟨upd σ.fr o.dst r,hp'⟩ K
    | _ => False
   | _ => False := rfl
def Qio (lo d : Nat) (o : RO) (l : List It) (K : St → Prop) : runI Γ E (.y lo d o :: l) σ K = match Qdf σ.fr o.gd with
  | none => False
  | some false => runI Γ E l ⟨upd σ.fr o.dst (.gv false .u),σ.hp⟩ K
  | some true => match o.x with
   | .o f args => match opv true (drpS d σ).fr f with
    | .fn gf caps => Qbp true o (drpS d σ).fr ∧ lo ≤ (drpS d σ).hp.length ∧ (Γ.y gf Γ.al (args.map (opv true (drpS d σ).fr) ++ caps) (drpS d σ).hp).1 ∧
      ∀ r hp',(Γ.y gf Γ.al (args.map (opv true (drpS d σ).fr) ++ caps) (drpS d σ).hp).2 r hp' → runI Γ E l ⟨upd (drpS d σ).fr o.dst r,hp'⟩ K
    | _ => False
   | _ => False := rfl
def Zle (a : RC) : wpR Γ E (.scp a) Q σ = wpR Γ E a (noGo Q) σ := rfl
def Zc7 (a : RC) : wpR Γ E (.dum a) Q σ = wpR Γ E a Q ⟨σ.fr,σ.hp ++ [.hole]⟩ := rfl
def Qxd (l1 : List RO) (y : RO) (l2 : List RO) : wpR Γ E (.yrh g l1 y l2) Q σ = runR Γ E g 0 l1 σ fun σ1 => match Qdf σ1.fr y.gd with
  | none => False
  | some false => runR Γ E g 0 l2 ⟨upd σ1.fr y.dst (.gv false .u),σ1.hp⟩ (Q .normal)
  | some true => match y.x with
   | .o f args => match opv g σ1.fr f,σ1.hp with
    | .yl l,.gh caps (some ((.b true :: bv) :: [.tp x,.tp z] :: rest)) :: tl => Qbp g y σ1.fr ∧ caps[0]? = some (.yl l) ∧ args.map (opv g σ1.fr) = x ∧ tl = (bv ++ z).map vB ∧
      ∀ b bv',Γ.al bv' → runR Γ E g 0 l2 ⟨upd σ1.fr y.dst (yres y.gd b),.gh caps (some ((.b b :: bv') :: if b then rest else [])) :: (bv' ++ z).map vB⟩ (Q .normal)
    | _,_ => False
   | _ => False := rfl
def Zl8 (l1 : List RO) (y : RO) (l2 : List RO) : wpR Γ E (.crl g l1 y l2) Q σ = runR Γ E g 0 l1 σ fun σ1 => match y.x with
  | .o f args => match opv g σ1.fr f with
   | .fn gf caps => Qbp g y σ1.fr ∧ gf < 1000000 ∧ Qa8 (args.map (opv g σ1.fr) ++ caps) = false ∧ (Γ (3000000 + gf) ((args.map (opv g σ1.fr) ++ caps).map (vw σ1.hp 8))).1 ∧
     ∀ r bs,(Γ (4000000 + gf) (.tp (r :: bs) :: (args.map (opv g σ1.fr) ++ caps).map (vw σ1.hp 8))).1 →
      runR Γ E g 0 l2 ⟨upd σ1.fr y.dst (shV σ1.hp.length r),σ1.hp ++ (bs.map vB).map (shB σ1.hp.length)⟩ (Q .normal)
   | _ => False
  | _ => False := rfl
def Qch (hp : List Blk) (n : Nat) : ∀ L : List (Nat × V),(fun t => cutV hp n (lkp L t)) = lkp (L.map fun p => (p.1,cutV hp n p.2))
 | [] => by funext t; simp [lkp,cutV]
 | (k,v) :: L => by
  funext t
  have := congrFun (Qch hp n L) t
  simp only [lkp,Qb]
  split
  ·rfl
  ·exact this
def Qrg (f : Nat → Nat) : ∀ L : List (Nat × V),(fun t => renV f (lkp L t)) = lkp (L.map fun p => (p.1,renV f p.2))
 | [] => by funext t; simp [lkp,renV]
 | (k,v) :: L => by
  funext t
  have := congrFun (Qrg f L) t
  simp only [lkp,Qb]
  split
  ·rfl
  ·exact this
def Qjt {l : List Nat} {d : Option Nat} {a : RC} (I : Nat → St → Prop) (h0 : ∃ k,I k (kp l d σ)) (h : ∀ k σ',I k σ' → wpR Γ E a (Qfw (fun σ'' => ∃ j,j < k ∧ I j (kp l d σ'')) Q) σ') :
  wpR Γ E (.loop l d a) Q σ := ⟨I,h0,h⟩
def Qc9 {K K' : St → Prop} (hK : ∀ σ,K σ → K' σ) : ∀ (l : List RO) (σ : St),runR Γ E g base l σ K → runR Γ E g base l σ K'
 | [],σ,h => hK σ h
 | _ :: l,_,h => ⟨h.1,Qc9 hK l _ h.2⟩
def Qip {K K' : St → Prop} (hK : ∀ σ,K σ → K' σ) : ∀ (l : List AnyOp) (ds : List FP) (σ : St),runX Γ E g base l ds σ K → runX Γ E g base l ds σ K'
 | [],_,σ,h => hK σ h
 | _ :: l,_,_,h => ⟨h.1,h.2.1,Qip hK l _ _ h.2.2⟩
def Qds {K K' : St → Prop} (hK : ∀ σ,K σ → K' σ) : ∀ (l : List It) (σ : St),runI Γ E l σ K → runI Γ E l σ K'
 | [],σ,h => hK σ h
 | .r _ :: l,_,h => ⟨h.1,Qds hK l _ h.2⟩
 | .w o :: l,σ,h => by
  rw [Qns] at h ⊢
  split
  ·rename_i hc; rw [hc] at h; exact h
  ·rename_i hc; rw [hc] at h; exact Qds hK l _ h
  ·rename_i hc; rw [hc] at h; exact ⟨h.1,Qds hK l _ h.2⟩
 | .h o :: l,σ,h => by
  rw [Zc9] at h ⊢
  split
  ·rename_i hc; rw [hc] at h; exact h
  ·rename_i hc; rw [hc] at h; exact Qds hK l _ h
  ·rename_i hc; rw [hc] at h
   simp only at h ⊢
   split at h
   ·split at h
    ·exact ⟨h.1,h.2.1,fun r hp' hr => Qds hK l _ (h.2.2 r hp' hr)⟩
    ·exact h.elim
   ·exact h.elim
 | .y lo d o :: l,σ,h => by
  rw [Qio] at h ⊢
  split
  ·rename_i hc; rw [hc] at h; exact h
  ·rename_i hc; rw [hc] at h; exact Qds hK l _ h
  ·rename_i hc; rw [hc] at h
   simp only at h ⊢
   split at h
   ·split at h
    ·exact ⟨h.1,h.2.1,h.2.2.1,fun r hp' hr => Qds hK l _ (h.2.2.2 r hp' hr)⟩
    ·exact h.elim
   ·exact h.elim
def Qfk : ∀ (r : RC) (Q Q' : Exit → St → Prop) (σ : St),(∀ e σ,Q e σ → Q' e σ) → wpR Γ E r Q σ → wpR Γ E r Q' σ := by
 intro r
 induction r with
 | skip => intro Q Q' σ h hw; exact h _ _ hw
 | no => intro Q Q' σ h hw; exact hw.elim
 | reg g l => intro Q Q' σ h hw; exact Qc9 (h _) l σ hw
 | any g m l => intro Q Q' σ h hw; exact Qip (h _) l [] _ hw
 | seq a b iha ihb =>
  intro Q Q' σ h hw
  refine iha _ _ σ (fun e σ' he => ?_) hw
  cases e <;> first | exact h _ _ he | exact ihb _ _ _ h he
 | cond c a b iha ihb =>
  intro Q Q' σ h hw
  simp only [wpR] at hw ⊢
  cases hc : evO σ.fr c <;> simp only [hc] at hw ⊢ <;> try exact hw
  exact ⟨fun ht => iha _ _ _ h (hw.1 ht),fun ht => ihb _ _ _ h (hw.2 ht)⟩
 | block id a iha =>
  intro Q Q' σ h hw
  refine iha _ _ σ (fun e σ' he => ?_) hw
  cases e <;> first | exact h _ _ he | skip
  simp only [Qhx] at he ⊢
  split
  ·rename_i hi; rw [if_pos hi] at he; exact h _ _ he
  ·rename_i hi; rw [if_neg hi] at he; exact h _ _ he
 | loop l d a iha =>
  intro Q Q' σ h hw
  obtain ⟨I,h0,h1⟩ := hw
  refine ⟨I,h0,fun k σ' hI => iha _ _ σ' (fun e σ'' he => ?_) (h1 k σ' hI)⟩
  cases e <;> first | exact h _ _ he | exact he
 | exit id => intro Q Q' σ h hw; exact h _ _ hw
 | ret => intro Q Q' σ h hw; exact h _ _ hw
 | keep l a iha => intro Q Q' σ h hw; exact iha _ _ _ h hw
 | drp n a iha => intro Q Q' σ h hw; exact iha _ _ _ h hw
 | own t es a iha =>
  intro Q Q' σ h hw
  simp only [wpR] at hw ⊢
  cases ht : σ.fr t <;> simp only [ht] at hw ⊢ <;> try exact hw
  exact iha _ _ _ h hw
 | ownc t off es a iha =>
  intro Q Q' σ h hw
  simp only [wpR] at hw ⊢
  cases ht : σ.fr t <;> simp only [ht] at hw ⊢ <;> try exact hw
  case ad id g o =>
   cases jF : σ.hp[id]? with
   | none => simp [jF] at hw
   | some bk =>
    cases bk <;> simp only [jF] at hw ⊢ <;> try exact hw
    case cells g' vs =>
     cases hv : vs[o + off]? with
     | none => simp [hv] at hw
     | some v => cases v <;> simp only [hv] at hw ⊢ <;> first | exact hw | exact ⟨hw.1,iha _ _ _ h hw.2⟩
 | swp i j a iha => intro Q Q' σ h hw; exact ⟨hw.1,hw.2.1,iha _ _ _ h hw.2.2⟩
 | nxt d m it =>
  intro Q Q' σ h hw
  simp only [wpR] at hw ⊢
  cases ht : σ.fr it <;> simp only [ht] at hw ⊢ <;> try exact hw
  case it id g =>
   cases jF : σ.hp[id]? with
   | none => simp [jF] at hw
   | some bk =>
    cases bk <;> simp only [jF] at hw ⊢ <;> try exact hw
    case iter mid n left cur =>
     cases hm : σ.hp[mid]? with
     | none => simp [hm] at hw
     | some bk2 =>
      cases bk2 <;> simp only [hm] at hw ⊢ <;> try exact hw
      case map st ks vs => exact ⟨hw.1,hw.2.1,fun hl => h _ _ (hw.2.2.1 hl),fun j hj => h _ _ (hw.2.2.2 j hj)⟩
 | hcl g l1 y l2 =>
  intro Q Q' σ h hw
  refine Qc9 (fun σ1 hw => ?_) l1 σ hw
  split at hw
  ·split at hw
   ·exact ⟨hw.1,hw.2.1,fun r bs hR => Qc9 (h _) l2 _ (hw.2.2 r bs hR)⟩
   ·exact hw.elim
  ·exact hw.elim
 | yrx g m1 l1 y m2 l2 =>
  intro Q Q' σ h hw
  refine Qip (fun σ1 hw => ?_) l1 _ _ hw
  split at hw
  ·split at hw
   ·exact ⟨hw.1,hw.2.1,hw.2.2.1,hw.2.2.2.1,fun b bv' ha => Qip (h _) l2 _ _ (hw.2.2.2.2 b bv' ha)⟩
   ·exact hw.elim
  ·exact hw.elim
 | crl g l1 y l2 =>
  intro Q Q' σ h hw
  refine Qc9 (fun σ1 hw => ?_) l1 σ hw
  split at hw
  ·split at hw
   ·exact ⟨hw.1,hw.2.1,hw.2.2.1,hw.2.2.2.1,fun r bs hR => Qc9 (h _) l2 _ (hw.2.2.2.2 r bs hR)⟩
   ·exact hw.elim
  ·exact hw.elim
 | scp a iha =>
  intro Q Q' σ h hw
  refine iha _ _ σ (fun e σ' he => ?_) hw
  cases e <;> first | exact he | exact h _ _ he
 | dum a iha => intro Q Q' σ h hw; exact iha _ _ _ h hw
 | itm l => intro Q Q' σ h hw; exact Qds (h _) l σ hw
 | rnl g l1 y l2 =>
  intro Q Q' σ h hw
  refine Qc9 (fun σ1 hw => ?_) l1 σ hw
  split at hw
  ·split at hw
   ·exact ⟨hw.1,fun b hb => Qc9 (h _) l2 _ (hw.2 b hb)⟩
   ·exact ⟨hw.1,fun b => Qc9 (h _) l2 _ (hw.2 b)⟩
   ·exact hw.elim
  ·exact hw.elim
 | yrh g l1 y l2 =>
  intro Q Q' σ h hw
  refine Qc9 (fun σ1 hw => ?_) l1 σ hw
  split at hw
  ·exact hw.elim
  ·exact Qc9 (h _) l2 _ hw
  ·split at hw
   ·split at hw
    ·exact ⟨hw.1,hw.2.1,hw.2.2.1,hw.2.2.2.1,fun b bv' hb => Qc9 (h _) l2 _ (hw.2.2.2.2 b bv' hb)⟩
    ·exact hw.elim
   ·exact hw.elim
 | rfh f ps lo zl b a ihb iha =>
  intro Q Q' σ h hw
  simp only [wpR] at hw ⊢
  split at hw
  ·rename_i gf caps sd hf
   obtain ⟨al,ys,bv0,I,h1,h2,h3,h4,h5,h6,h7⟩ := hw
   refine ⟨al,ys,bv0,I,h1,h2,h3,h4,h5,fun l k x z bv hx hI => ⟨(h6 l k x z bv hx hI).1,(h6 l k x z bv hx hI).2.1,ihb _ _ _ (fun e σ' he => ?_) (h6 l k x z bv hx hI).2.2⟩,fun l bv hI => h _ _ (h7 l bv hI)⟩
   cases e <;> first | exact he | skip
   refine iha _ _ _ (fun e σ'' he' => ?_) he
   cases e <;> first | exact he' | skip
   all_goals
    obtain ⟨bv',a1,a2,a3,a4⟩ := he'
    exact ⟨bv',a1,a2,a3,h _ _ a4⟩
  ·exact hw
def Qkf (n : Nat) (pre : List Nat) : List Nat := (Ze n).filter fun k => !pre.contains k
def Qwd (n : Nat) : Qkf n [] = Ze n := by simp [Qkf]
def Qlz {n : Nat} {pre : List Nat} {j : Nat} : j ∈ Qkf n pre ↔ j < n ∧ j ∉ pre := by simp [Qkf]
def Qr4 {n : Nat} {pre : List Nat} {j : Nat} (h : j ∈ Qkf n pre) : (Qkf n pre).erase j = Qkf n (pre ++ [j]) := by
 unfold Qkf
 rw [List.Nodup.erase_eq_filter (List.Nodup.sublist List.filter_sublist Q8),List.filter_filter]
 apply List.filter_congr
 intro x _
 simp only [List.contains_append,Bool.not_or]
 rw [Bool.and_comm]
 congr 1
 simp
 rw [Zb]
 simp
def Quc {n : Nat} {pre : List Nat} (hnd : pre.Nodup) (hlt : ∀ j ∈ pre,j < n) (h : Qkf n pre = []) : pre.Perm (Ze n) := by
 rw [List.perm_ext_iff_of_nodup hnd Q8]
 intro j
 constructor
 ·intro hj; simpa using hlt j hj
 ·intro hj
  by_cases hp : j ∈ pre
  ·exact hp
  ·have : j ∈ Qkf n pre := Qlz.2 ⟨by simpa using hj,hp⟩
   rw [h] at this; cases this
def Qm3 {n : Nat} {pre : List Nat} (hnd : pre.Nodup) (hlt : ∀ j ∈ pre,j < n) : pre.length ≤ n := by
 induction n generalizing pre with
 | zero => cases pre with | nil => simp | cons j l => have := hlt j (by simp); omega
 | succ n ih =>
  by_cases hn : n ∈ pre
  ·have h1 := List.length_erase_of_mem hn
   have h2 := ih (pre := pre.erase n) (hnd.erase n) fun j hj => by
    rw [hnd.mem_erase_iff] at hj
    have := hlt j hj.2
    have := hj.1
    omega
   have := List.length_pos_of_mem hn
   omega
  ·have h2 := ih (pre := pre) hnd fun j hj => by
    have := hlt j hj
    have : j ≠ n := by rintro rfl; exact hn hj
    omega
   omega
def Qzh {l : List Nat} {d : Option Nat} {a : RC} (n : Nat) (S : List Nat → St) (C : List Nat → Prop) (h0 : kp l d σ = S []) (c0 : C [])
  (hs : ∀ pre,pre.Nodup → (∀ j ∈ pre,j < n) → C pre → wpR Γ E a (Qfw (fun σ'' => ∃ j,j ∈ Qkf n pre ∧ C (pre ++ [j]) ∧ kp l d σ'' = S (pre ++ [j])) Q) (S pre)) : wpR Γ E (.loop l d a) Q σ := by
 refine Qjt (fun k σ => ∃ pre : List Nat,pre.Nodup ∧ (∀ j ∈ pre,j < n) ∧ k = n - pre.length ∧ C pre ∧ σ = S pre) ⟨n,[],Qr,(by simp),by simp,c0,h0⟩ ?_
 rintro k _ ⟨pre,hnd,hlt,rfl,hc,rfl⟩
 refine Qfk _ _ _ _ (fun e σ he => ?_) (hs pre hnd hlt hc)
 cases e <;> first | exact he | skip
 obtain ⟨j,hj,hc',hk⟩ := he
 obtain ⟨wY,nF⟩ := Qlz.1 hj
 have fC : (pre ++ [j]).Nodup := by
  rw [List.nodup_append]
  exact ⟨hnd,by simp,fun a ha b hb => by simp at hb; subst hb; rintro rfl; exact nF ha⟩
 have yE : ∀ i ∈ pre ++ [j],i < n := by
  intro i hi
  rcases Qd.1 hi with hi | hi
  ·exact hlt i hi
  ·simp at hi; omega
 have := Qm3 fC yE
 rw [Qt,List.length_singleton] at this
 exact ⟨n - (pre ++ [j]).length,by simp; omega,pre ++ [j],fC,yE,rfl,hc',hk⟩
def Zlc {f : Od} {ps : List Nat} {lo zl : Nat} {b a : RC} {gf : Nat} {caps : List V} (hf : cutV σ.hp lo (evO σ.fr f) = .fn gf caps) (al : List V → Prop) (ys : List (List V × List V)) {bv0 : List V} (lR : cutH lo σ.hp = .hole :: bv0.map vB)
  (I : Nat → List V → Prop) (h0 : I 0 bv0) (vL : ∀ k bv,I k bv → al bv) (kL : ∀ bv,al bv → bv.length + 1 = lo ∧ ∀ hp,(bv.map vB).map (cutB hp lo) = bv.map vB)
  (hy : ∀ l,(Γ.y gf al (.yl l :: caps) (.gh (.yl l :: caps) (some ((.b true :: bv0) :: ys.map fun y => gyE y.1 y.2)) :: bv0.map vB)).1 ∧
     ∀ r hp',(Γ.y gf al (.yl l :: caps) (.gh (.yl l :: caps) (some ((.b true :: bv0) :: ys.map fun y => gyE y.1 y.2)) :: bv0.map vB)).2 r hp' →
      ∃ (b : Bool) (bv' : List V) (rest : List (List V)) (tl : List Blk),hp' = .gh (.yl l :: caps) (some ((.b b :: bv') :: rest)) :: (bv'.map vB ++ tl) ∧ (b = true → rest = []) ∧ al bv')
  (hs : ∀ k x z bv,ys[k]? = some (x,z) → I k bv → x.length = ps.length ∧ z.length ≤ zl ∧
     wpR Γ E b (rnQ (wpR Γ E a (rndH Q lo zl (fun t => cutV σ.hp lo (σ.fr t)) z al (I (k + 1))))) ⟨updL (fun t => cutV σ.hp lo (σ.fr t)) ps x,.hole :: (bv ++ z).map vB⟩)
  (he : ∀ bv,I ys.length bv → Q .normal ⟨fun t => cutV σ.hp lo (σ.fr t),.hole :: bv.map vB⟩) : wpR Γ E (.rfh f ps lo zl b a) Q σ := by
 simp only [wpR,hf,rfA]
 exact ⟨al,fun _ => ys,bv0,I,lR,h0,vL,kL,hy,fun _ => hs,fun _ => he⟩
def Zc8 {f : Od} {ps : List Nat} {lo zl : Nat} {b a : RC} {gf : Nat} {caps : List V} (hf : cutV σ.hp lo (evO σ.fr f) = .fb gf caps) (al : List V → Prop) (ys : List (List V × List V)) {bv0 : List V} (lR : cutH lo σ.hp = .hole :: bv0.map vB)
  (I : Nat → List V → Prop) (h0 : I 0 bv0) (vL : ∀ k bv,I k bv → al bv) (kL : ∀ bv,al bv → bv.length + 1 = lo ∧ ∀ hp,(bv.map vB).map (cutB hp lo) = bv.map vB)
  (hy : ∀ l,(Γ.y gf al (caps ++ [.yl l]) (.gh (.yl l :: caps) (some ((.b true :: bv0) :: ys.map fun y => gyE y.1 y.2)) :: bv0.map vB)).1 ∧
     ∀ r hp',(Γ.y gf al (caps ++ [.yl l]) (.gh (.yl l :: caps) (some ((.b true :: bv0) :: ys.map fun y => gyE y.1 y.2)) :: bv0.map vB)).2 r hp' →
      ∃ (b : Bool) (bv' : List V) (rest : List (List V)) (tl : List Blk),hp' = .gh (.yl l :: caps) (some ((.b b :: bv') :: rest)) :: (bv'.map vB ++ tl) ∧ (b = true → rest = []) ∧ al bv')
  (hs : ∀ k x z bv,ys[k]? = some (x,z) → I k bv → x.length = ps.length ∧ z.length ≤ zl ∧
     wpR Γ E b (rnQ (wpR Γ E a (rndH Q lo zl (fun t => cutV σ.hp lo (σ.fr t)) z al (I (k + 1))))) ⟨updL (fun t => cutV σ.hp lo (σ.fr t)) ps x,.hole :: (bv ++ z).map vB⟩)
  (he : ∀ bv,I ys.length bv → Q .normal ⟨fun t => cutV σ.hp lo (σ.fr t),.hole :: bv.map vB⟩) : wpR Γ E (.rfh f ps lo zl b a) Q σ := by
 simp only [wpR,hf,rfA]
 exact ⟨al,fun _ => ys,bv0,I,lR,h0,vL,kL,hy,fun _ => hs,fun _ => he⟩
def Qaq {l : List Nat} {d : Option Nat} {a : RC} (n : Nat) (S : Nat → St) (h0 : kp l d σ = S 0) (hs : ∀ i,i < n → wpR Γ E a (Qfw (fun σ'' => kp l d σ'' = S (i + 1)) Q) (S i))
  (he : wpR Γ E a (Qfw (fun _ => False) Q) (S n)) : wpR Γ E (.loop l d a) Q σ := by
 refine Qjt (fun k σ => ∃ i,i ≤ n ∧ k = n - i ∧ σ = S i) ⟨n,0,Qv _,rfl,h0⟩ ?_
 rintro k _ ⟨i,hi,rfl,rfl⟩
 by_cases h : i < n
 ·refine Qfk _ _ _ _ (fun e σ he => ?_) (hs i h)
  cases e <;> first | exact he | skip
  exact ⟨n - (i + 1),by omega,i + 1,h,rfl,he⟩
 ·have : i = n := by omega
  subst this
  refine Qfk _ _ _ _ (fun e σ he => ?_) he
  cases e <;> first | exact he | exact he.elim
def Qao {l : List Nat} {d : Option Nat} {a : RC} (n : Nat) (S : Nat → St) (C : Nat → Prop) (h0 : kp l d σ = S 0) (c0 : C 0) (hs : ∀ i,i < n → C i → wpR Γ E a (Qfw (fun σ'' => C (i + 1) ∧ kp l d σ'' = S (i + 1)) Q) (S i))
  (he : C n → wpR Γ E a (Qfw (fun _ => False) Q) (S n)) : wpR Γ E (.loop l d a) Q σ := by
 refine Qjt (fun k σ => ∃ i,i ≤ n ∧ k = n - i ∧ C i ∧ σ = S i) ⟨n,0,Qv _,rfl,c0,h0⟩ ?_
 rintro k _ ⟨i,hi,rfl,hc,rfl⟩
 by_cases h : i < n
 ·refine Qfk _ _ _ _ (fun e σ he => ?_) (hs i h hc)
  cases e <;> first | exact he | skip
  exact ⟨n - (i + 1),by omega,i + 1,h,rfl,he.1,he.2⟩
 ·have : i = n := by omega
  subst this
  refine Qfk _ _ _ _ (fun e σ he => ?_) (he hc)
  cases e <;> first | exact he | exact he.elim
end
def Qk1 (es : Nat) (vs : List V) : Qbi es vs 0 1 = [vs.take es] := by simp [Qbi]
def Ze5 (p A B : Prop) [Decidable p] : (if p then A else B) = ((p → A) ∧ (¬ p → B)) := by by_cases h : p <;> simp [h]
def Zpt (p : Prop) [Decidable p] (x : Bool) : (if p then x else false) = (decide p && x) := by by_cases h : p <;> simp [h]
def Zpu (p : Prop) [Decidable p] (x : Bool) : (if p then true else x) = (decide p || x) := by by_cases h : p <;> simp [h]
end Go.Fam
namespace Go.Fam
open Go.ChangeShapes Go.WideShapes Go.ChangeAt Go.RowKit
variable {P : Program} {W : World} {H : Type} {enc : TypeId × Value → H} {α β : Type}
def Qmy (W : World) : Nat → Prop := fun n => n < W.heap.size
def Qxa {es : Nat} {e : α → List V} {ok : α → Prop} {cur : List Value} : ∀ (len off : Nat),(∀ i,i < len → ∃ x,ok x ∧ (e x).length = es ∧ (∀ c ∈ (cur.drop (off + i * es)).take es,c.oneCell' = true) ∧ RepL (Qmy W) W noO (e x) (cur.drop (off + i * es))) →
  ∃ l : List α,l.length = len ∧ (∀ x ∈ l,ok x) ∧ Qau (Qmy W) W es (l.map e) (cur.drop off)
 | 0,_,_ => ⟨[],rfl,by simp,by simp [Qau]⟩
 | len + 1,off,h => by
  obtain ⟨x,x1,x2,x3,x4⟩ := h 0 (by omega)
  obtain ⟨l,l1,l2,l3⟩ := Qxa len (off + es) fun i hi => by
   have := h (i + 1) (by omega)
   rwa [Nat.succ_mul,show off + (i * es + es) = off + es + i * es by omega] at this
  simp only [Nat.zero_mul,Nat.add_zero] at x3 x4
  refine ⟨x :: l,by simp [l1],?_,?_⟩
  ·intro y hy
   rcases Qg.1 hy with rfl | hy
   ·exact x1
   ·exact l2 y hy
  ·simp only [Qb,Qau]
   exact ⟨⟨x2,x3⟩,x4,by rw [Q1]; exact l3⟩
def Qwu {t el : TypeId} (hu : P.underlying t = some (.slice el)) (v : Value) (base : Nat) (h : Value.okWide P W .any base t v) : v.oneCell' = true := by
 obtain ⟨a,l,c,rfl⟩ := okWide_slice hu h; rfl
def Qiv (hl : laidOutB P = true) {W' : World} {sp' : Nat → Bool} : ∀ {ts : List TypeId} {vs : List Value} {ds : List (DataW H)} {ps : List MemPlace},(ts.all fun t => P.readableRec t && decide (t < P.types.size)) = true →
  DataW.TrodAll enc P W 0 (fun _ => true) true ts vs ds ps → (∀ p ∈ ps,W.sameAt W' p) → (∀ p ∈ ps,sp' p.block = true) → DataW.TrodAll enc P W' 0 sp' true ts vs ds ps
 | [],vs,ds,ps,_,h,_,_ => by
  obtain ⟨rfl,rfl,rfl⟩ := trodAll_nil h
  exact trodAll_mk0
 | t :: ts,vs,ds,ps,hr,h,hs,k7 => by
  obtain ⟨v,vs',d,ds',p,q,rfl,rfl,rfl,ha,hb⟩ := trodAll_cons h
  simp only [List.all_cons,Qx,decide_eq_true_eq] at hr
  exact trodAll_cons_mk (WideElems.Trod_stays hl hr.1.1 hr.1.2 ha (fun x hx => hs x (by simp [hx])) fun x hx => k7 x (by simp [hx]))
   (Qiv hl hr.2 hb (fun x hx => hs x (by simp [hx])) fun x hx => k7 x (by simp [hx]))
def Qod {W' : World} (h : Below W.heap.size W W') (may : MemPlace → Prop) : W.keptBut W' may := by
 refine ⟨h.os,h.output,fun i hi => ?_⟩
 rw [h.block i hi]
 cases W.heap[i]? with
 | none => rfl
 | some o => cases o <;> first | exact ⟨rfl,rfl,rfl,fun _ _ => rfl⟩ | exact .inr ⟨rfl,rfl⟩ | rfl
open Go.ChangeShapes Go.WideShapes Go.ChangeAt Go.RowKit in
theorem Qwy {H : Type} {enc : TypeId × Value → H} {P : Program} {f : Func} {s : ChangeSpec} {apart fresh handsOn again : Bool} {W W' : World} {args : Array Value} {v : Value} {ds gs : List (DataW H)} {before pa pv : List MemPlace}
  (hW : DataW.Whole enc P f.params.toList s.vars apart W args.toList ds gs before)
  (vN : ∀ (b : Nat) (sp : Nat → Bool) (hd : Bool),DataW.TrodAll enc P W' b sp hd f.resultTypes.toList (v.resultList f.resultTypes.size) (s.fn H (ds ++ gs)).results [])
  (j0 : ∀ sp : Nat → Bool,(∀ p ∈ before,sp p.block = true) → DataW.TrodAll enc P W' 0 sp true f.params.toList args.toList (s.fn H (ds ++ gs)).args pa)
  (y9 : ∀ sp : Nat → Bool,(∀ p ∈ before,sp p.block = true) → DataW.TrodVars enc P W' sp s.vars (s.fn H (ds ++ gs)).vars pv)
  (wK : before = pa ++ pv) (hk : W.keptBut W' (· ∈ before)) (hfz : ∀ a,a.block < W.heap.size → W'.frozen? a = W.frozen? a)
  (jA : ∀ (j : Nat) (t : TypeId) (r : Value),f.resultTypes[j]? = some t → (v.resultList f.resultTypes.size)[j]? = some r → Value.okWide P W' .any 0 t r) :
  s.post enc P f apart fresh handsOn again W args v W' := by
 have hlt := hW.lt
 have jZ : ∀ p ∈ before,(fun b => decide (b < W.heap.size)) p.block = true := fun p hp => by simpa using hW.lt p hp
 refine ⟨ds,gs,before,[],pa,pv,hW,vN _ _ _,j0 _ jZ,y9 _ jZ,World.keptBut_mono (fun p hp => ⟨hp,?_⟩) hk,fun _ => ?_⟩
 ·rw [wK,Qd] at hp
  exact Or.inr hp
 ·obtain ⟨_,_,_,_,_,hz,hn⟩ := hW
  refine ⟨jA,_,_,([] ++ pa) ++ pv,⟨[] ++ pa,pv,trodAll_append (j0 _ (fun _ _ => rfl)) (vN _ _ _),y9 _ (fun _ _ => rfl),rfl,?_,?_⟩,?_⟩
  ·intro b off hp
   have hp' : MemPlace.cell b off ∈ before := by rw [wK]; simpa using hp
   rw [hfz _ (hlt _ hp')]
   exact hz b off hp'
  ·intro ha
   have := hn ha
   rw [wK] at this
   simpa using this
  ·intro p hp _
   rw [wK]
   simpa using hp
end Go.Fam
namespace Go.Fam
variable {Γ : Gam} {E : TypeId → Nat → Prop} {Q : Exit → St → Prop} {σ : St}
def Qdt.mono {P : Program} {f : FuncId} {args : List V} {R R' : V → List Blk → Prop} (h : Qdt P f args R) (hr : ∀ r hp,R r hp → R' r hp) : Qdt P f args R' := fun S w cargs h1 h2 h3 =>
 Calls.mono (h S w cargs h1 h2 h3) fun e w' ⟨c,S',O',r,hp,he,hR,hx⟩ => ⟨c,S',O',r,hp,he,hr _ _ hR,hx⟩
def cmKs (xs : List Int) : List (List Int) := xs.foldl (fun ks x => putK ks [x]) []
def cmVs (xs : List Int) : List V := (cmKs xs).map fun k => .i (xs.count (k.headD 0))
def cm (xs : List Int) : Blk := .map false (cmKs xs) (cmVs xs)
def Qeo (xs : List Int) (x : Int) : cmKs (xs ++ [x]) = putK (cmKs xs) [x] := by simp [cmKs]
def Qb0 {α : Type} {p : List α → Prop} (h0 : p []) (hs : ∀ l x,p l → p (l ++ [x])) (l : List α) : p l := by
 have : ∀ r : List α,p r.reverse := by
  intro r
  induction r with
  | nil => exact h0
  | cons x r ih => rw [List.reverse_cons]; exact hs _ _ ih
 simpa using this l.reverse
def Qkt {ks : List (List Int)} {l k : List Int} : k ∈ putK ks l ↔ k ∈ ks ∨ k = l := by
 unfold putK
 split
 ·rename_i h
  constructor
  ·exact .inl
  ·rintro (h' | rfl) <;> assumption
 ·simp
def Qz7 {ks : List (List Int)} {l : List Int} : (putK ks l).length ≤ ks.length + 1 := by
 unfold putK
 split <;> simp
def Qgs (xs : List Int) : ∀ k,k ∈ cmKs xs ↔ ∃ x,x ∈ xs ∧ k = [x] := by
 refine Qb0 (p := fun xs => ∀ k,k ∈ cmKs xs ↔ ∃ x,x ∈ xs ∧ k = [x]) (by simp [cmKs]) (fun l x ih k => ?_) xs
 rw [Qeo,Qkt,ih]
 simp only [Qd,List.mem_singleton]
 constructor
 ·rintro (⟨y,hy,rfl⟩ | rfl)
  ·exact ⟨y,.inl hy,rfl⟩
  ·exact ⟨x,.inr rfl,rfl⟩
 ·rintro ⟨y,hy | rfl,rfl⟩
  ·exact .inl ⟨y,hy,rfl⟩
  ·exact .inr rfl
def Qn5 (xs : List Int) : (cmKs xs).Nodup :=
 Qb0 (p := fun xs => (cmKs xs).Nodup) (by simp [cmKs]) (fun l x ih => by rw [Qeo]; exact Qgv ih) xs
def Qlp {ks : List (List Int)} {l : List Int} (h : l ∈ ks) : ks[ks.idxOf l]? = some l := by
 have hl := Qw.2 h
 rw [Qc hl,List.getElem_idxOf hl]
def Qv4 (xs : List Int) (x : Int) : ((cmVs xs)[(cmKs xs).idxOf [x]]?).getD (.i 0) = .i (xs.count x) := by
 unfold cmVs
 by_cases h : [x] ∈ cmKs xs
 ·rw [Qf,Qlp h]; rfl
 ·have hx : x ∉ xs := fun hx => h ((Qgs xs _).2 ⟨x,hx,rfl⟩)
  have : (cmKs xs).idxOf [x] = (cmKs xs).length := Q2 h
  rw [this,Ql (by simp),Q4.2 hx]; rfl
def Za0 (xs : List Int) (x : Int) : Qfv (cmKs xs) (cmVs xs) [x] (.i ((xs.count x : Int) + 1)) = cmVs (xs ++ [x]) := by
 have hone : ∀ k ∈ cmKs xs,k = [k.headD 0] := by
  intro k hk
  obtain ⟨y,_,rfl⟩ := (Qgs xs k).1 hk
  rfl
 have j7 : ∀ k ∈ cmKs xs,k ≠ [x] → (xs ++ [x]).count (k.headD 0) = xs.count (k.headD 0) := by
  intro k hk lS
  have : k.headD 0 ≠ x := fun e => lS (by rw [hone k hk,e])
  have hc : [x].count (k.headD 0) = 0 := Q4.2 (by simpa using this)
  rw [List.count_append,hc,Nat.add_zero]
 have hx : (xs ++ [x]).count x = xs.count x + 1 := by simp
 unfold Qfv cmVs
 rw [Qeo]
 unfold putK
 split
 ·rename_i h
  apply Q6
  intro i
  rw [List.getElem?_set]
  by_cases hi : (cmKs xs).idxOf [x] = i
  ·subst hi
   rw [if_pos rfl,if_pos (by rw [Qz]; exact Qw.2 h),Qf,Qlp h]
   simp
  ·rw [if_neg hi,Qf,Qf]
   cases hk : (cmKs xs)[i]? with
   | none => rfl
   | some k =>
    have lT : k ≠ [x] := by
     rintro rfl
     have aD := Qag hk
     exact hi (by
      have := (Qn5 xs).idxOf_getElem i aD
      rw [Qc aD] at hk
      rw [← this,Za.inj hk])
    simp only [Zc]
    rw [j7 k (List.mem_of_getElem? hk) lT]
 ·rename_i h
  rw [List.map_append]
  congr 1
  ·apply Qq
   intro k hk
   rw [j7 k hk (fun e => h (e ▸ hk))]
  ·simp
def Zde (xs : List Int) (x : Int) : Blk.map false (putK (cmKs xs) [x]) (Qfv (cmKs xs) (cmVs xs) [x] (.i ((xs.count x : Int) + 1))) = cm (xs ++ [x]) := by
 rw [Za0,← Qeo]; rfl
mutual
theorem Qnq (f : Nat → Nat) : ∀ v : V,Qan v = false → renV f v = v
 | .u,_ | .b _,_ | .i _,_ | .z _,_ | .sl _ _,_ | .sx _ _,_ | .pa _,_ | .pn,_ | .yl _,_ | .w _ _,_ | .pm _ _ _,_ | .fb _ _,_ => by simp [renV]
 | .ag cs,h | .tp cs,h => by simp only [Qan] at h; simp only [renV,Qcz f cs h]
 | .fn g cs,h => by simp only [Qan] at h; simp only [renV,Qcz f cs h]
 | .gv q v,h => by simp only [Qan] at h; simp only [renV,Qnq f v h]
 | .ad _ _ _,h | .rf _ _ _ _ _,h | .mp _ _,h | .it _ _,h => by simp [Qan] at h
theorem Qcz (f : Nat → Nat) : ∀ vs : List V,Qa8 vs = false → renL f vs = vs
 | [],_ => rfl
 | v :: vs,h => by
  simp only [Qa8,Bool.or_eq_false_iff] at h
  simp only [renL,Qnq f v h.1,Qcz f vs h.2]
end
def Qce (xs : List Int) : Qa8 (cmVs xs) = false := by
 unfold cmVs
 generalize cmKs xs = ks
 induction ks with
 | nil => rfl
 | cons k ks ih => rw [Qb]; simp only [Qa8,Qan,ih]; rfl
def Qs1 {xs : List Int} {j : Nat} (h : j < (cmKs xs).length) : ∃ x,x ∈ xs ∧ (cmKs xs)[j]? = some [x] ∧ (cmVs xs)[j]? = some (.i (xs.count x)) := by
 have hj : (cmKs xs)[j]? = some ((cmKs xs)[j]) := Qc h
 obtain ⟨x,hx,e⟩ := (Qgs xs _).1 (Qy h)
 rw [e] at hj
 exact ⟨x,hx,hj,by unfold cmVs; rw [Qf,hj]; rfl⟩
end Go.Fam
namespace Go.Fam
variable {β : Type}
abbrev AM (β : Type) := List (List Int × β)
def aks (m : AM β) : List (List Int) := m.map (·.1)
def avs (g : β → V) (m : AM β) : List V := m.map fun e => g e.2
def aput (m : AM β) (k : List Int) (x : β) : AM β := if k ∈ aks m then m.map (fun e => if e.1 = k then (k,x) else e) else m ++ [(k,x)]
def aget (m : AM β) (k : List Int) : Option β := (m.find? fun e => decide (e.1 = k)).map (·.2)
def Qeh (m : AM β) (k : List Int) (x : β) : aks (aput m k x) = putK (aks m) k := by
 unfold aput putK
 by_cases h : k ∈ aks m
 ·rw [if_pos h,if_pos h]
  unfold aks
  rw [List.map_map]
  refine Qq fun e _ => ?_
  by_cases he : e.1 = k <;> simp [he]
 ·rw [if_neg h,if_neg h]; simp [aks]
def Qfx {m : AM β} (h : (aks m).Nodup) (k : List Int) (x : β) : (aks (aput m k x)).Nodup := by
 rw [Qeh]; exact Qgv h
def Qwh {m : AM β} {k : List Int} : k ∈ aks m ↔ (aget m k).isSome = true := by
 unfold aks aget
 rw [Option.isSome_map,List.find?_isSome]
 simp
def Quw (g : β → V) (m : AM β) : (avs g m).length = (aks m).length := by simp [avs,aks]
def Qj0 (g : β → V) (m : AM β) (k : List Int) : (avs g m)[(aks m).idxOf k]? = (aget m k).map g := by
 induction m with
 | nil => rfl
 | cons e m ih =>
  simp only [avs,aks,Qb] at ih ⊢
  by_cases h : e.1 = k
  ·subst h; simp [aget]
  ·have h1 : (e.1 == k) = false := by simpa using h
   rw [Zd,h1]
   simp only [aget,Qp,h,decide_false] at ih ⊢
   simpa using ih
def Qkj (m : AM β) (k k' : List Int) (x : β) : aget (aput m k x) k' = if k' = k then some x else aget m k' := by
 unfold aput
 split
 ·rename_i h
  by_cases he : k' = k
  ·subst he
   rw [if_pos rfl]
   induction m with
   | nil => simp [aks] at h
   | cons e m ih =>
    by_cases h1 : e.1 = k'
    ·simp [aget,h1]
    ·have : k' ∈ aks m := by simp only [aks,Qb,Qg] at h; rcases h with h | h; exact absurd h.symm h1; exact h
     have := ih this
     simpa [aget,h1] using this
  ·rw [if_neg he]
   clear h
   induction m with
   | nil => rfl
   | cons e m ih =>
    by_cases h1 : e.1 = k
    ·have h2 : ¬ e.1 = k' := fun h => he (by rw [← h,h1])
     have h3 : ¬ k = k' := fun h => he h.symm
     simp only [aget,Qb,Qp,h1,↓reduceIte,h3,h2,decide_false] at ih ⊢
     rw [← h1]; simpa [h1] using ih
    ·by_cases h2 : e.1 = k'
     ·simp only [aget,Qb,Qp,h1,↓reduceIte,h2,decide_true,if_neg he]
     ·simp only [aget,Qb,Qp,h1,↓reduceIte,h2,decide_false] at ih ⊢
      exact ih
 ·rename_i h
  unfold aget
  rw [List.find?_append]
  by_cases he : k' = k
  ·subst he
   have : m.find? (fun e => decide (e.1 = k')) = none := by
    rw [List.find?_eq_none]
    intro e hm hd
    exact h (Q7.2 ⟨e,hm,by simpa using hd⟩)
   simp [this]
  ·have h3 : ¬ k = k' := fun h => he h.symm
   simp [he,h3]
def Ql1 {m : AM β} (hn : (aks m).Nodup) (g : β → V) (k : List Int) (x : β) : Qfv (aks m) (avs g m) k (g x) = avs g (aput m k x) := by
 unfold Qfv aput
 split
 ·rename_i h
  induction m with
  | nil => rfl
  | cons e m ih =>
   simp only [aks,Qb,Qh] at hn
   simp only [avs,aks,Qb] at ih ⊢
   by_cases h : e.1 = k
   ·subst h
    rw [List.idxOf_cons_self,List.set_cons_zero,if_pos rfl]
    congr 1
    rw [List.map_map]
    refine Qq fun e' he' => ?_
    have : e'.1 ≠ e.1 := fun h => hn.1 (h ▸ Q7.2 ⟨_,he',rfl⟩)
    simp [this]
   ·have h1 : (e.1 == k) = false := by simpa using h
    rw [Zd,h1,if_neg h]
    simp only [Bool.cond_false]
    rw [List.set_cons_succ,ih hn.2]
    rename_i h9
    simp only [aks,Qb,Qg] at h9
    exact h9.resolve_left fun h8 => h h8.symm
 ·simp [avs]
def Qwi {ks : List (List Int)} {vs : List V} (hl : vs.length = ks.length) (l : List Int) (zc v : V) : (if l ∈ ks then vs else vs ++ [zc]).set (ks.idxOf l) v = Qfv ks vs l v := by
 unfold Qfv
 split
 ·rfl
 ·rename_i h
  rw [Q2 h,← hl,List.set_append_right _ _ (Q3 _)]
  simp
def Qgc {g : β → V} (h : ∀ x,Qan (g x) = false) (m : AM β) : Qa8 (avs g m) = false := by
 unfold avs
 induction m with
 | nil => rfl
 | cons e m ih => rw [Qb]; simp only [Qa8,h,ih]; rfl
def Qi1 (hp : List Blk) (n : Nat) : ∀ (a b : List V),cutL hp n (a ++ b) = cutL hp n a ++ cutL hp n b
 | [],b => rfl
 | v :: a,b => by simp only [Q9,cutL,Qi1 hp n a b]
def Zfr (hp : List Blk) (n id g : Nat) : vw hp (n + 1) (.mp id g) = match hp[id]? with
   | some (.map st ks vs) => if g = 0 then .pm st ks (vs.map (vw hp n)) else .u
   | _ => .u := rfl
def Zlz (hp : List Blk) (n : Nat) (st : Bool) (ks : List (List Int)) (vs : List V) : vw hp (n + 1) (.pm st ks vs) = .pm st ks vs := rfl
end Go.Fam
namespace Go.Fam
variable {P : Program}
def Qpi (P : Program) : Nat → TypeId → Option Nat
 | 0,_ => none
 | d + 1,t => match P.underlying t with
  | some (.int .i64) => some 1
  | some (.struct fs) => if P.stoodInHeld t || (szB P t).isNone then none else
   match fs.toList.foldlM (fun off f => if f.name == "_" || f.offset != off then none else (Qpi P d f.type).map (off + ·)) 0 with
   | some n => if szB P t == some n then some n else none
   | none => none
  | _ => none
def Qke (P : Program) (t : TypeId) (xs : List Int) : Value := if Qbt P t then .agg (xs.map (Value.int .i64)).toArray else .int .i64 (xs.headD 0)
structure FlatOk (P : Program) (d : Nat) (t : TypeId) (n : Nat) : Prop where
 eq : ∀ d',d ≤ d' → ∀ (xs ys : List Int) (w : World),xs.length = n → ys.length = n → (Op.equalIn d' t (Qke P t xs) (Qke P t ys)).run P w = .ok (decide (xs = ys)) w
 key : ∀ d',d ≤ d' → ∀ (xs : List Int) (e : Bool) (w : World),xs.length = n → (Instr.checkKey e d' t (Qke P t xs)).run P w = .ok () w
 part : ∀ (xs : List Int) (off : Nat) (w : World),off + n ≤ xs.length → (part t (xs.map (Value.int .i64)).toArray off).run P w = .ok (Qke P t ((xs.drop off).take n)) w
def Qgh {α : Type} (xs : List α) (off k : Nat) : xs.drop off = (xs.drop off).take k ++ xs.drop (off + k) := by
 rw [← Q1,Qm]
def Qph {d : Nat} (ih : ∀ t n,Qpi P d t = some n → FlatOk P d t n) : ∀ (fs : List Field) (off n : Nat),
  fs.foldlM (fun off f => if f.name == "_" || f.offset != off then none else (Qpi P d f.type).map (off + ·)) off = some n →
  off ≤ n ∧ ∀ (d' : Nat),d ≤ d' → ∀ (xs ys : List Int) (w : World),xs.length = n → ys.length = n →
   (Op.eqFields d' (xs.map (Value.int .i64)).toArray (ys.map (Value.int .i64)).toArray fs).run P w = .ok (decide (xs.drop off = ys.drop off)) w ∧
   ∀ e,(forIn fs PUnit.unit fun f (_ : PUnit) => (if f.name ≠ "_" then (do let c ← part f.type (xs.map (Value.int .i64)).toArray f.offset; Instr.checkKey e d' f.type c; pure (ForInStep.yield PUnit.unit) : Sem (ForInStep PUnit)) else pure (ForInStep.yield PUnit.unit))).run P w = .ok PUnit.unit w
 | [],off,n,h => by
  simp at h; subst h
  refine ⟨Q3 _,fun d' _ xs ys w hx hy => ⟨?_,fun e => by simp⟩⟩
  have h1 : xs.drop off = [] := by rw [Qn]; omega
  have h2 : ys.drop off = [] := by rw [Qn]; omega
  simp [Op.eqFields,h1,h2]
 | f :: fs,off,n,h => by
  rw [List.foldlM_cons] at h
  by_cases h1 : f.name = "_"
  ·simp [h1] at h
  by_cases h2 : f.offset = off
  ·cases h3 : Qpi P d f.type with
   | none => simp [h1,h2,h3] at h
   | some k =>
    have hc : (f.name == "_" || f.offset != off) = false := by simp [h1,h2]
    rw [hc] at h
    simp only [Qe,if_false,h3,Zc] at h
    change List.foldlM _ (off + k) fs = some n at h
    obtain ⟨kA,kQ⟩ := Qph ih fs (off + k) n h
    have hf := ih _ _ h3
    refine ⟨by omega,fun d' hd xs ys w hx hy => ?_⟩
    have x9 := hf.part xs off w (by omega)
    have z8 := hf.part ys off w (by omega)
    have yI : ((xs.drop off).take k).length = k := by simp; omega
    have qX : ((ys.drop off).take k).length = k := by simp; omega
    have he := hf.eq d' hd ((xs.drop off).take k) ((ys.drop off).take k) w yI qX
    obtain ⟨iJ,pB⟩ := kQ d' hd xs ys w hx hy
    refine ⟨?_,fun e => ?_⟩
    ·simp only [Op.eqFields,if_pos (show f.name ≠ "_" from h1),Sem.run_bind,h2,x9,z8,he,Result.andThen_ok]
     by_cases e : (xs.drop off).take k = (ys.drop off).take k
     ·simp only [e,decide_true,Bool.not_true,Qe,if_false,iJ]
      congr 1
      rw [decide_eq_decide]
      rw [Qgh xs off k,Qgh ys off k,e]
      exact List.append_cancel_left_eq _ _ _ ▸ Iff.rfl
     ·simp only [e,decide_false,Bool.not_false,if_true,Sem.run_pure]
      congr 1
      symm
      rw [decide_eq_false_iff_not]
      intro hc
      exact e (by rw [hc])
    ·have hk := hf.key d' hd ((xs.drop off).take k) e w yI
     simp only [List.forIn_cons,if_pos (show f.name ≠ "_" from h1),Sem.run_bind,h2,x9,hk,Result.andThen_ok,Sem.run_pure]
     exact pB e
  ·simp [h1,h2] at h
def Qsb : ∀ (d : Nat) (t : TypeId) (n : Nat),Qpi P d t = some n → FlatOk P d t n
 | 0,_,_,h => by simp [Qpi] at h
 | d + 1,t,n,h => by
  rw [Qpi] at h
  cases hu : P.underlying t with
  | none => simp [hu] at h
  | some desc =>
   rw [hu] at h
   cases desc <;> first | (simp at h; done) | skip
   ·rename_i k
    cases k <;> first | (simp at h; done) | skip
    simp at h; subst h
    have ha : Qbt P t = false := by simp [Qbt,hu]
    refine ⟨fun d' hd xs ys w hx hy => ?_,fun d' hd xs e w hx => ?_,fun xs off w hx => ?_⟩
    ·obtain ⟨d',rfl⟩ : ∃ k,d' = k + 1 := ⟨d' - 1,by omega⟩
     match xs,ys,hx,hy with
     | [a],[b],_,_ =>
      simp only [Qke,ha,if_false,Qe,List.headD_cons]
      rw [run_equalIn_int w d' t .i64 .i64 a b hu]
      congr 1
      rw [Zb]; simp
    ·obtain ⟨d',rfl⟩ : ∃ k,d' = k + 1 := ⟨d' - 1,by omega⟩
     simp [Instr.checkKey,run_underlying hu,Qke,ha]
    ·have hlt : off < xs.length := by omega
     simp only [part,Sem.run_bind,Qf0 hu,Result.andThen_ok,ha,Qke,Qe,if_false]
     have h1 : ((xs.drop off).take 1).headD 0 = xs[off] := by rw [List.drop_eq_getElem_cons hlt]; rfl
     rw [h1]
     simp [hlt]
   ·rename_i fs
    simp only at h
    by_cases hs : (P.stoodInHeld t || (szB P t).isNone) = true
    ·simp [hs] at h
    ·rw [if_neg hs] at h
     simp at hs
     have ha : Qbt P t = true := by simp [Qbt,hu]
     split at h
     ·rename_i m hm
      split at h
      ·rename_i hsz
       simp at h hsz; subst h
       obtain ⟨_,uM⟩ := Qph (fun t n => Qsb d t n) fs.toList 0 m hm
       have nG : P.fieldsOf t = fs := by simp [Program.fieldsOf,hu]
       refine ⟨fun d' hd xs ys w hx hy => ?_,fun d' hd xs e w hx => ?_,fun xs off w hx => ?_⟩
       ·obtain ⟨d',rfl⟩ : ∃ k,d' = k + 1 := ⟨d' - 1,by omega⟩
        simp only [Qke,ha,if_true]
        rw [run_equalIn_struct w d' t _ _ (by rw [nG]; exact hu) hs.1,nG,(uM d' (by omega) xs ys w hx hy).1]
        simp
       ·obtain ⟨d',rfl⟩ : ∃ k,d' = k + 1 := ⟨d' - 1,by omega⟩
        have := (uM d' (by omega) xs xs w hx hx).2 e
        simp only [Qke,ha,if_true,Instr.checkKey,Sem.run_bind,run_underlying hu,Result.andThen_ok]
        rw [← Array.forIn_toList]
        rw [this]; rfl
       ·simp only [part,Sem.run_bind,Qf0 hu,Result.andThen_ok,ha,Qke,if_true,Qb4 hsz,Sem.run_pure]
        congr 2
        apply Array.ext'
        simp [List.map_drop,List.map_take]
      ·simp at h
     ·simp at h
def Qar.of {t : TypeId} {n : Nat} {fs : Array Field} (hu : P.underlying t = some (.struct fs)) (hf : Qpi P 9 t = some n) (hg : P.eqGuardType P.depth t = false) : Qar P t n := by
 have ho := Qsb 9 t n hf
 have ha : Qbt P t = true := by simp [Qbt,hu]
 have hv : ∀ xs,Qke P t xs = .agg (xs.map (Value.int .i64)).toArray := fun xs => by simp [Qke,ha]
 refine ⟨⟨fs,hu⟩,fun xs ys w hx hy => ⟨fun op x y jE => ⟨run_eqGuard_agg w op t x y _ _ hg,?_⟩,?_,fun e => ?_⟩⟩
 ·have := ho.eq 10000 (by decide) xs ys w hx hy
  rw [hv,hv] at this
  rcases jE with rfl | rfl
  ·rw [run_eql_struct,this]; simp [Result.andThen,show (BinOp.eql == BinOp.neq) = false from rfl]
  ·rw [run_neq_struct,this]; simp [Result.andThen]
 ·have := ho.eq 10000 (by decide) xs ys w hx hy
  rw [hv,hv] at this
  exact this
 ·have := ho.key 10000 (by decide) xs e w hx
  rw [hv] at this
  exact this
end Go.Fam
namespace Go.Fam
variable {S : Nat → Prop} {w : World} {O : OInfo} {hp : List Blk}
def Evol.cut0 {S S' : Nat → Prop} {w w' : World} {O0 O : OInfo} (h : Evol S S' w w' O0 O) (n : Nat) (kL : ∀ id x,O0 id = some x → id < n) : Evol S (cutS S' O n) w w' O0 (Qby O n) := by
 refine ⟨⟨fun k hk => ⟨.inl (h.ext.keep k hk).1,(h.ext.keep k hk).2⟩,fun id g ob ho => ?_⟩,h.os,h.tape,h.output,h.size,h.fz,h.old,fun k ⟨id,g,ho⟩ => h.fresh k ⟨id,g,(Qbk ho).2⟩,?_⟩
 ·obtain ⟨g',ob',h1,h2⟩ := h.ext.own id g ob ho
  refine ⟨g',ob',?_,h2⟩
  unfold Qby
  rw [if_pos (kL id _ ho)]
  exact h1
 rintro k (hk | ⟨id,g,ho⟩)
 ·exact h.grow k hk
 ·exact .inr (h.fresh k ⟨id,g,(Qbj ho).2⟩)
def Qn9 {S0 S : Nat → Prop} {w0 w : World} {O0 O : OInfo} (h : Evol S0 S w0 w O0 O) (h0 : ∀ id g b,O0 id = some (g,some b) → b < w0.heap.size) {L : Nat} {o o' : Obj} (hb : w.heap[L]? = some o) (hc : o.isCells = false) (hc' : o'.isCells = false) (hS : ¬ S L) (hL : w0.heap.size ≤ L) :
  Evol S0 S w0 (w.putObj L o') O0 O := by
 have kT : ∀ k,k ≠ L → (w.putObj L o').heap[k]? = w.heap[k]? := fun k hk => World.putObj_heap_other hk
 have jQ : (w.putObj L o').heap[L]? = some o' := World.putObj_heap_same (Array.getElem?_eq_some_iff.1 hb).1
 refine ⟨⟨fun k hk => ⟨(h.ext.keep k hk).1,?_⟩,fun id g ob ho => ?_⟩,h.os,h.tape,h.output,by simpa using h.size,fun a ha => ?_,fun k hk jX => ?_,h.fresh,h.grow⟩
 ·rw [kT k (by rintro rfl; exact hS (h.ext.keep k hk).1)]; exact (h.ext.keep k hk).2
 ·obtain ⟨g',ob',h1,h2,h3⟩ := h.ext.own id g ob ho
  refine ⟨g',ob',h1,h2,fun e => ?_⟩
  obtain ⟨h4,h5⟩ := h3 e
  refine ⟨h4,fun b cur e hb hh => ?_⟩
  obtain ⟨cur',h6,h7⟩ := h5 b cur e hb hh
  refine ⟨cur',?_,h7⟩
  rw [kT b (by have := h0 id g b (by rw [ho,hb]); omega)]
  exact h6
 ·refine Eq.trans ?_ (h.fz a ha)
  by_cases e : a.block = L
  ·simp only [World.frozen?,e,jQ,hb]
   cases o <;> cases o' <;> first | rfl | (simp [Obj.isCells] at hc; done) | (simp [Obj.isCells] at hc'; done)
  ·simp only [World.frozen?,kT _ e]
 ·rw [kT k (by omega)]; exact h.old k hk jX
section
variable {P : Program} {F : Fence} {n : Nat} {Γ : Gam} {pu : List Nat}
def Ch (S0 : Nat → Prop) (w0 : World) (O0 : OInfo) : Ctx := fun S w O ds _ => Evol S0 S w0 w O0 O ∧ ∃ Ds : List Nat,ds = Ds.map col ∧ Ds.Nodup ∧ ∀ D ∈ Ds,w.heap[D]? = some (.deferred (some [])) ∧ ¬ S D ∧ ¬ Own O D ∧ w0.heap.size ≤ D
def Zgy {M : FrI} {S0 : Nat → Prop} {w0 : World} {O0 : OInfo} {lo : Nat} (hro : F.round = none) (h0 : ∀ id g b,O0 id = some (g,some b) → b < w0.heap.size) (kL : ∀ id x,O0 id = some x → id < lo) (hp : 0 < lo) : CtxOk P F n M (Ch S0 w0 O0) lo 1 w0.heap.size := by
 refine ⟨?_,?_,fun _ => hro,fun _ _ _ _ _ _ h => h.1.size,?_,?_,?_,fun h => (by cases h),fun h => (by cases h),fun h => (by cases h)⟩
 ·rintro S S' w w' O O' ds h h' ⟨h1,Ds,h2,h3,h4⟩ hlt ev _
  refine ⟨h1.trans ev,Ds,h2,h3,fun D hD => ?_⟩
  obtain ⟨a1,a2,a3,a4⟩ := h4 D hD
  have hDlt := (Array.getElem?_eq_some_iff.1 a1).1
  refine ⟨(ev.old D hDlt a3).trans a1,fun hS => ?_,fun hO => ?_,a4⟩
  ·rcases ev.grow D hS with h | h | h
   ·exact a2 h
   ·exact a3 h
   ·omega
  ·rcases ev.fresh D hO with h | h
   ·exact a3 h
   ·omega
 ·rintro S w O ds h h' k ⟨h1,Ds,h2,h3,h4⟩ hk _
  refine ⟨h1.cut0 k (fun id x hx => Qi (kL id x hx) hk),Ds,h2,h3,fun D hD => ?_⟩
  obtain ⟨a1,a2,a3,a4⟩ := h4 D hD
  refine ⟨a1,?_,fun ⟨id,g,ho⟩ => a3 ⟨id,g,(Qbk ho).2⟩,a4⟩
  rintro (h | ⟨id,g,ho⟩)
  ·exact a2 h
  ·exact a3 ⟨id,g,(Qbj ho).2⟩
 ·rintro _ S w O ds h L r r' ⟨h1,Ds,h2,h3,h4⟩ hL hS hO hb
  refine ⟨Qn9 h1 h0 hL rfl rfl hS hb,Ds,h2,h3,fun D hD => ?_⟩
  obtain ⟨a1,a2,a3,a4⟩ := h4 D hD
  refine ⟨?_,a2,a3,a4⟩
  rw [World.putObj_heap_other (by rintro rfl; rw [hL] at a1; cases a1)]
  exact a1
 ·rintro _ S w O ds h r ⟨h1,Ds,h2,h3,h4⟩ hS hO
  have hl : Later w ((w.alloc (.deferred (some []))).alloc (.loop r)) := (Qdi w _ rfl).trans (Qdi _ _ rfl)
  refine ⟨h1.trans (hl.evol hS hO),w.heap.size :: Ds,by rw [h2]; rfl,Qh.2 ⟨fun hD => ?_,h3⟩,fun D hD => ?_⟩
  ·have := (Array.getElem?_eq_some_iff.1 (h4 _ hD).1).1; omega
  ·rcases Qg.1 hD with rfl | hD
   ·refine ⟨?_,fun h => ?_,fun h => ?_,h1.size⟩
    ·exact (heap_alloc_old _ _ (by simp)).trans (World.alloc_heap_new w _)
    ·have := hS _ h; omega
    ·have := hO _ h; omega
   ·obtain ⟨a1,a2,a3,a4⟩ := h4 D hD
    exact ⟨(hl.old D (Array.getElem?_eq_some_iff.1 a1).1).trans a1,a2,a3,a4⟩
 ·intro _ h; omega
def Qg9 {M : FrI} {fn : Func} {rs : List RV} (hr : Qh5 P fn.results.toList = some rs) {S0 S : Nat → Prop} {w0 : World} {O0 O : OInfo} (h0 : ∀ id g b,O0 id = some (g,some b) → b < w0.heap.size) {σ : St} {a : Act} (jA : rvs σ.hp σ.fr rs) {R : Ending → World → Prop}
  (hR : ∀ w' c,Evol S0 S w0 w' O0 O → Mat S w' O σ.hp → Rep S w' O (resV σ.hp σ.fr rs) c → R (.returned c) w') :
  ∀ (Ds : List Nat) (w : World),Ds.Nodup → (∀ D ∈ Ds,w.heap[D]? = some (.deferred (some [])) ∧ ¬ S D ∧ ¬ Own O D ∧ w0.heap.size ≤ D) → Evol S0 S w0 w O0 O → SR M S w O σ a → LeavesInM F n P fn a.tmps R (Ds.map col) .returning w
 | [],w,_,_,jD,jL => by
  obtain ⟨c,jB,yB⟩ := Qhs jL hr jA
  exact ⟨c,jB,hR w c jD jL.mat yB⟩
 | D :: Ds,w,hnd,hD,jD,jL => by
  obtain ⟨wG,qW⟩ := Qh.1 hnd
  obtain ⟨a1,a2,a3,a4⟩ := hD D (by simp)
  refine ⟨by simp,.inl ⟨D,_,rfl,run_takeDeferred a1,?_⟩⟩
  refine Qg9 hr h0 jA hR Ds _ qW (fun D' hD' => ?_) (Qn9 jD h0 a1 rfl rfl a2 a4) (Qml jL _ a2 a3)
  obtain ⟨b1,b2⟩ := hD D' (by simp [hD'])
  exact ⟨(World.putObj_heap_other (by rintro rfl; exact wG hD')).trans b1,b2⟩
def Qqe {args : List V} {cargs : Array Value} {nt : Nat} (hsz : cargs.size = args.length) (hn : args.length ≤ nt) (hrep : RepL S w O args cargs.toList) :
  (cargs ++ Array.replicate (nt - cargs.size) undef).size = nt ∧ FrM S w O (lkp (zipA 0 args)) { tmps := cargs ++ Array.replicate (nt - cargs.size) undef,defers := [] } := by
 have kL : ∀ t,t < cargs.size → (cargs ++ Array.replicate (nt - cargs.size) undef).getD t undef = cargs.getD t undef := by
  intro t ht
  simp [Array.getElem?_append,ht]
 refine ⟨by simp; omega,fun t => ?_⟩
 show Rep S w O (lkp (zipA 0 args) t) _
 rw [Qkr,if_pos (Qv _),Q5]
 cases ht : args[t]? with
 | none => simp [Rep]
 | some v =>
  obtain ⟨cv,yU,hv⟩ := RepL.get _ _ t v hrep ht
  have hlt : t < cargs.size := by have := Qag yU; simpa using this
  show Rep S w O v ((cargs ++ Array.replicate (nt - cargs.size) undef).getD t undef)
  rw [kL t hlt]
  have : cargs.getD t undef = cv := by
   rw [Array.getElem?_toList] at yU
   have h2 := (Array.getElem?_eq_some_iff.1 yU).2
   simp [hlt,h2]
  rw [this]
  exact hv
def Qer (hG : GOk P Γ) (hm : P.follows .mixedOrders = true) {f : FuncId} {fn : Func} {c : Code} {rc : RC} {rs : List RV} (hf : P.funcs[f]? = some fn) (hb : fn.body = some c) {lo : Nat}
  (hc : comp P pu (fn.ntmps,0) lo 1 rc c = some rc) (hr : Qh5 P fn.results.toList = some rs) {args : List V} (hn : args.length ≤ fn.ntmps) {hp : List Blk} (kL : hp.length ≤ lo) (gV : 0 < lo) {R : V → List Blk → Prop}
  (h : wpR Γ (Qar P) rc (endK rs fun σ => R (resV σ.hp σ.fr rs) σ.hp) ⟨lkp (zipA 0 args),hp⟩) : Qb7 P f args hp R := by
 intro S w O cargs jC hsz hrep
 have h0 : ∀ id g b,O id = some (g,some b) → b < w.heap.size := fun id g b h => (jC.own id g b h).1
 have hl : ∀ id x,O id = some x → id < lo := fun id x h => Qi (Qhb jC h) kL
 refine Qdy.calls (n := 0) (callsIn_of_wp_marks hf hb trivial ?_)
 obtain ⟨h1,h2⟩ := Qqe hsz hn hrep
 obtain ⟨M,hM⟩ : ∃ M : FrI,M = ⟨fn.ntmps,0,fun _ => undef,fun _ => False⟩ := ⟨_,rfl⟩
 have wM : M.nm = (fn.ntmps,0) := by rw [hM]; rfl
 have hat : At (Ch S w O) M S w O ⟨lkp (zipA 0 args),hp⟩ { tmps := cargs ++ Array.replicate (fn.ntmps - cargs.size) undef,defers := [] } := by
  refine ⟨⟨Evol.refl _ _ _,[],rfl,Qr,fun _ h => by cases h⟩,⟨by rw [hM]; exact h1,fun t ht => by rw [hM] at ht; exact absurd ht (Qo _),h2,jC⟩⟩
 refine Qix hG hm (M := M) (by rw [hM]; exact fun _ h => h.elim) rc c rc _ 0 lo 1 Qdy (by rw [wM]; exact hc) (Ch S w O) w.heap.size (Zgy rfl h0 hl gV) _ _ _ S w O _ h hat ?_
 intro e σ' S' w' O' a' he kS
 have fin : (rvs σ'.hp σ'.fr rs ∧ R (resV σ'.hp σ'.fr rs) σ'.hp) → LeavesInM Fence.wide 0 P fn a'.tmps (fun e w' => ∃ c S' O' r hp',e = .returned c ∧ R r hp' ∧ Evol S S' w w' O O' ∧ Mat S' w' O' hp' ∧ Rep S' w' O' r c) a'.defers .returning w' := by
  rintro ⟨k1,k2⟩
  obtain ⟨ev,Ds,e1,e2,e3⟩ := kS.ctx
  rw [e1]
  exact Qg9 hr h0 k1 (fun w2 c jD jC yB => ⟨c,S',O',_,_,rfl,k2,jD,jC,yB⟩) Ds w' e2 e3 ev kS.sr
 cases e <;> first | exact fin he | exact he.elim
end
def hpG {α : Type} (eA : α → List V) (eH : α → List Blk) (dec : List V → List Blk → α) (C : α → Prop) (R : α → V → List Blk → Prop) : List V → List Blk → Prop × (V → List Blk → Prop) :=
 fun as0 hp => (eA (dec as0 hp) = as0 ∧ eH (dec as0 hp) = hp ∧ C (dec as0 hp),R (dec as0 hp))
def Qi9 {α : Type} {eA : α → List V} {eH : α → List Blk} {dec : List V → List Blk → α} {C : α → Prop} {R : α → V → List Blk → Prop} (x : α) (h : dec (eA x) (eH x) = x) : hpG eA eH dec C R (eA x) (eH x) = (C x,R x) := by
 unfold hpG
 rw [h]; simp
def Qg5 {P : Program} {f : FuncId} {α : Type} {eA : α → List V} {eH : α → List Blk} {dec : List V → List Blk → α} {C : α → Prop} {R : α → V → List Blk → Prop}
  (h : ∀ x,C x → (∀ r hp',R x r hp' → ∀ y,ghO (eH x) = some y → ghO hp' = some y) ∧ Qb7 P f (eA x) (eH x) (R x)) (as0 : List V) (hp : List Blk) (hc : (hpG eA eH dec C R as0 hp).1) :
  (∀ r hp',(hpG eA eH dec C R as0 hp).2 r hp' → ∀ y,ghO hp = some y → ghO hp' = some y) ∧ Qb7 P f as0 hp (hpG eA eH dec C R as0 hp).2 := by
 obtain ⟨h1,h2,h3⟩ := hc
 have := h _ h3
 rw [h1,h2] at this
 exact this
def Qx0 (i : Nat) (v : V) (l : List V) (h : i < l.length) : putAt i [v] l = l.set i v := by
 unfold putAt
 rw [List.set_eq_take_append_cons_drop,if_pos h]
 simp
def Qd3.toPure {P : Program} {f : FuncId} {args : List V} {r : V} (h : Qd3 P f args r hp) : Qa1 P f args (vw hp 8 r) := by
 intro S w cargs hS hsz hrep
 refine Calls.mono (h S w cargs hS hsz hrep) ?_
 rintro e w' ⟨cv,S',O',rfl,jD,jC,yB⟩
 refine ⟨cv,rfl,?_,?_⟩
 ·exact ⟨⟨fun k hk => ⟨.inl hk,(jD.ext.keep k hk).2⟩,fun _ _ _ h => by cases h⟩,jD.os,jD.tape,jD.output,jD.size,jD.fz,jD.old,fun k ⟨_,_,h⟩ => (by cases h),fun k hk => hk.imp id fun h => .inr h.1⟩
 ·have h3 := Qmp jC 8 _ _ yB
  refine Rep.ext ⟨fun k hk => ⟨?_,rfl⟩,fun _ _ _ h => by cases h⟩ _ _ h3
  rcases hk with hk | ⟨id,g,ho⟩
  ·rcases jD.grow k hk with h4 | h4 | h4
   ·exact .inl h4
   ·obtain ⟨_,_,h4⟩ := h4; cases h4
   ·exact .inr ⟨h4,jC.lt k hk⟩
  ·rcases jD.fresh k ⟨id,g,ho⟩ with h4 | h4
   ·obtain ⟨_,_,h4⟩ := h4; cases h4
   ·exact .inr ⟨h4,(jC.own id g k ho).1⟩
end Go.Fam
namespace Go.Fam
variable {S : Nat → Prop} {w : World} {O : OInfo} {hp : List Blk}
mutual
def lowV (n : Nat) : V → Bool
 | .ad id _ _ | .rf id _ _ _ _ | .mp id _ | .it id _ => decide (id < n)
 | .ag cs | .tp cs => lowL n cs
 | .fn _ cs => lowL n cs
 | .gv _ v => lowV n v
 | _ => true
def lowL (n : Nat) : List V → Bool
 | [] => true
 | v :: vs => lowV n v && lowL n vs
end
def lowB (n : Nat) : Blk → Bool
 | .cells _ vs | .map _ _ vs => lowL n vs
 | .iter mid _ _ _ => decide (mid < n)
 | _ => true
def Qil {n id : Nat} (h : id < n) : Qby O n id = O id := if_pos h
mutual
theorem Qog {S : Nat → Prop} {w : World} {O : OInfo} {n : Nat} : ∀ (v : V) (c : Value),lowV n v = true → Rep S w O v c → Rep S w (Qby O n) v c
 | .u,_,_,_ => by simp [Rep]
 | .b x,c,_,hr => by simpa [Rep] using hr
 | .i x,c,_,hr => by simpa [Rep] using hr
 | .z es,c,_,hr => by simpa [Rep] using hr
 | .sl es rows,c,_,hr => by simpa only [Rep] using hr
 | .sx es rows,c,_,hr => by simpa only [Rep] using hr
 | .pa cs,c,_,hr => by simpa only [Rep] using hr
 | .pn,c,_,hr => by simpa [Rep] using hr
 | .yl l,c,_,hr => by simpa only [Rep] using hr
 | .pm _ _ _,c,_,hr => by simpa only [Rep] using hr
 | .fb _ _,c,_,hr => by simpa only [Rep] using hr
 | .w k n,c,_,hr => by simpa only [Rep] using hr
 | .ag cs,c,hl,hr => by
  simp only [lowV] at hl
  simp only [Rep] at hr ⊢
  obtain ⟨ccs,hc,hn,hr⟩ := hr
  exact ⟨ccs,hc,hn,Qfc cs _ hl hr⟩
 | .tp cs,c,hl,hr => by
  simp only [lowV] at hl
  simp only [Rep] at hr ⊢
  obtain ⟨ccs,hc,hn,hr⟩ := hr
  exact ⟨ccs,hc,hn,Qfc cs _ hl hr⟩
 | .fn f cs,c,hl,hr => by
  simp only [lowV] at hl
  simp only [Rep] at hr ⊢
  obtain ⟨ccs,hc,hn,hr⟩ := hr
  exact ⟨ccs,hc,hn,Qfc cs _ hl hr⟩
 | .gv q v,c,hl,hr => by
  simp only [lowV] at hl
  simp only [Rep] at hr ⊢
  exact ⟨fun hq => Qog v c hl (hr.1 hq),hr.2⟩
 | .ad id g off,c,hl,hr => by
  simp only [lowV,decide_eq_true_eq] at hl
  simpa only [Rep,Qil hl] using hr
 | .rf id g off len es,c,hl,hr => by
  simp only [lowV,decide_eq_true_eq] at hl
  simpa only [Rep,Qil hl] using hr
 | .mp id g,c,hl,hr => by
  simp only [lowV,decide_eq_true_eq] at hl
  simpa only [Rep,Qil hl] using hr
 | .it id g,c,hl,hr => by
  simp only [lowV,decide_eq_true_eq] at hl
  simpa only [Rep,Qil hl] using hr
theorem Qfc {S : Nat → Prop} {w : World} {O : OInfo} {n : Nat} : ∀ (vs : List V) (cs : List Value),lowL n vs = true → RepL S w O vs cs → RepL S w (Qby O n) vs cs
 | [],_,_,_ => by simp [RepL]
 | _ :: _,[],_,hr => by simp [RepL] at hr
 | v :: vs,c :: cs,hl,hr => by
  simp only [lowL,Qx] at hl
  simp only [RepL] at hr ⊢
  exact ⟨Qog v c hl.1 hr.1,Qfc vs cs hl.2 hr.2⟩
end
def Zek {n g : Nat} {ob : Option Nat} : ∀ (b : Blk),lowB n b = true → Qb6 S w O g ob (some b) → Qb6 S w (Qby O n) g ob (some b)
 | .cells g' vs,hl,h => by
  simp only [lowB] at hl
  simp only [Qb6] at h ⊢
  refine ⟨h.1,?_⟩
  cases ob with
  | none => exact h.2
  | some b =>
   obtain ⟨cur,e,h1,h2,h3⟩ := h.2
   exact ⟨cur,e,h1,Qfc _ _ hl h2,h3⟩
 | .map st ks vs,hl,h => by
  simp only [lowB] at hl
  simp only [Qb6] at h ⊢
  obtain ⟨h0,b,es,h1,h2,h3,h4,h5⟩ := h
  exact ⟨h0,b,es,h1,h2,h3,Qfc _ _ hl h4,h5⟩
 | .iter mid k left cur,hl,h => by
  simp only [lowB,decide_eq_true_eq] at hl
  simp only [Qb6] at h ⊢
  obtain ⟨h0,b,m,seen,h1,h2,h3,h4⟩ := h
  exact ⟨h0,b,m,seen,h1,h2,Qog (n := n) (.mp mid 0) _ (by simp [lowV,hl]) h3,h4⟩
 | .gh _ _,_,h => h
 | .dead _,_,h => h
 | .hole,_,h => h
def Qb7.frame {P : Program} {f : FuncId} {args : List V} {R : V → List Blk → Prop} (h : Qb7 P f args hp R) (hl : ∀ r hp',R r hp' → hp'.length = hp.length) (ha : lowL hp.length args = true) (hb : ∀ b ∈ hp,lowB hp.length b = true) (tl : List Blk) :
  Qb7 P f args (hp ++ tl) fun r z8 => ∃ hp',R r hp' ∧ z8 = hp' ++ tl := by
 intro S w O cargs hm hs hr
 have hO1 : ∀ {id x},Qby O hp.length id = some x → id < hp.length ∧ O id = some x := fun h => Qbk h
 have yC : Mat S w (Qby O hp.length) hp := by
  refine ⟨hm.lt,fun id g b ho => hm.own id g b (hO1 ho).2,fun id id' g g' b h1 h2 => hm.inj id id' g g' b (hO1 h1).2 (hO1 h2).2,fun id g ob ho => ?_⟩
  obtain ⟨hlt,ho⟩ := hO1 ho
  have := hm.blk id g ob ho
  rw [Qu hlt,Qc hlt] at this
  rw [Qc hlt]
  exact Zek _ (hb _ (Qy hlt)) this
 refine (h S w (Qby O hp.length) cargs yC hs (Qfc _ _ ha hr)).mono ?_
 rintro e w' ⟨c,S',O1',r,hp',rfl,hR,jD,hm',hrep⟩
 have hlen := hl r hp' hR
 obtain ⟨O',hO'⟩ : ∃ O' : OInfo,O' = fun id => if id < hp.length then O1' id else O id := ⟨_,rfl⟩
 have lU : ∀ {id x},O1' id = some x → id < hp.length := fun {id x} h => by rw [← hlen]; exact Qhb hm' h
 have e1 : ∀ {id},id < hp.length → O' id = O1' id := fun h => by rw [hO']; exact if_pos h
 have e2 : ∀ {id},¬ id < hp.length → O' id = O id := fun h => by rw [hO']; exact if_neg h
 have xY : ∀ {id g b},¬ id < hp.length → O id = some (g,some b) → ¬ Own (Qby O hp.length) b := by
  rintro id g b hn ho ⟨id2,g2,yH⟩
  obtain ⟨xI,yH⟩ := hO1 yH
  have := hm.inj id id2 g g2 b ho yH
  omega
 have aE : ∀ {id g b},¬ id < hp.length → O id = some (g,some b) → w'.heap[b]? = w.heap[b]? := fun hn ho => jD.old _ (hm.own _ _ _ ho).1 (xY hn ho)
 have hnS : ∀ {id g b},¬ id < hp.length → O id = some (g,some b) → ¬ S' b ∧ ¬ Own O1' b := by
  intro id g b hn ho
  have hlt := (hm.own _ _ _ ho).1
  refine ⟨fun hS => ?_,fun hO => ?_⟩
  ·rcases jD.grow b hS with h | h | h
   ·exact (hm.own _ _ _ ho).2 h
   ·exact xY hn ho h
   ·omega
  ·rcases jD.fresh b hO with h | h
   ·exact xY hn ho h
   ·omega
 have y8 : Ext S S' w w' O O' := by
  refine ⟨jD.ext.keep,fun id g ob ho => ?_⟩
  by_cases jF : id < hp.length
  ·obtain ⟨g',ob',k1,k2⟩ := jD.ext.own id g ob (by rw [Qil jF]; exact ho)
   exact ⟨g',ob',by rw [e1 jF]; exact k1,k2⟩
  ·refine ⟨g,ob,by rw [e2 jF]; exact ho,Q3 _,fun _ => ⟨rfl,fun b cur e hb hh => ⟨cur,?_,rfl⟩⟩⟩
   subst hb
   rw [aE jF ho]; exact hh
 have aF : Ext S' S' w' w' O1' O' := ⟨fun n hn => ⟨hn,rfl⟩,fun id g ob ho => ⟨g,ob,by rw [e1 (lU ho)]; exact ho,Q3 _,fun _ => ⟨rfl,fun b cur e _ hh => ⟨cur,hh,rfl⟩⟩⟩⟩
 refine ⟨c,S',O',r,hp' ++ tl,rfl,⟨hp',hR,rfl⟩,?_,?_,Rep.ext aF _ _ hrep⟩
 ·refine ⟨y8,jD.os,jD.tape,jD.output,jD.size,jD.fz,fun n hn jX => jD.old n hn fun ⟨id,g,ho⟩ => jX ⟨id,g,(hO1 ho).2⟩,?_,?_⟩
  ·rintro n ⟨id,g,ho⟩
   by_cases jF : id < hp.length
   ·rw [e1 jF] at ho
    rcases jD.fresh n ⟨id,g,ho⟩ with ⟨id2,g2,yH⟩ | h
    ·exact .inl ⟨id2,g2,(hO1 yH).2⟩
    ·exact .inr h
   ·rw [e2 jF] at ho
    exact .inl ⟨id,g,ho⟩
  ·intro n hn
   rcases jD.grow n hn with h | ⟨id2,g2,yH⟩ | h
   ·exact .inl h
   ·exact .inr (.inl ⟨id2,g2,(hO1 yH).2⟩)
   ·exact .inr (.inr h)
 ·refine ⟨hm'.lt,fun id g b ho => ?_,fun id id' g g' b h1 h2 => ?_,fun id g ob ho => ?_⟩
  ·by_cases jF : id < hp.length
   ·rw [e1 jF] at ho; exact hm'.own id g b ho
   ·rw [e2 jF] at ho
    exact ⟨Qi (hm.own id g b ho).1 jD.size,(hnS jF ho).1⟩
  ·by_cases jF : id < hp.length
   ·rw [e1 jF] at h1
    by_cases uS : id' < hp.length
    ·rw [e1 uS] at h2; exact hm'.inj id id' g g' b h1 h2
    ·rw [e2 uS] at h2
     exact absurd ⟨id,g,h1⟩ (hnS uS h2).2
   ·rw [e2 jF] at h1
    by_cases uS : id' < hp.length
    ·rw [e1 uS] at h2
     exact absurd ⟨id',g',h2⟩ (hnS jF h1).2
    ·rw [e2 uS] at h2; exact hm.inj id id' g g' b h1 h2
  ·by_cases jF : id < hp.length
   ·rw [e1 jF] at ho
    rw [Qu (by rw [hlen]; exact jF)]
    have := hm'.blk id g ob ho
    exact this.ext aF fun _ _ => rfl
   ·rw [e2 jF] at ho
    have := hm.blk id g ob ho
    rw [List.getElem?_append_right (by omega)] at this ⊢
    rw [hlen]
    refine this.ext y8 fun b hb => ?_
    subst hb
    exact aE jF ho
def Zit {P : Program} {f : FuncId} {al : List V → Prop} {α : Type} {eA : α → List V} {eH : α → List Blk} {dec : List V → List Blk → α} {C : α → Prop} {R : α → V → List Blk → Prop} (h : ∀ x,C x → Qkc P f al (eA x) (eH x) (R x)) (xs : List V) (hp : List Blk) (hc : (hpG eA eH dec C R xs hp).1) :
  Qkc P f al xs hp (hpG eA eH dec C R xs hp).2 := by
 obtain ⟨h1,h2,h3⟩ := hc
 have := h _ h3
 rw [h1,h2] at this
 exact this
section
variable {P : Program} {F : Fence} {n : Nat} {Γ : Gam} {pu : List Nat}
def Qtu (hG : GOk P Γ) (hm : P.follows .mixedOrders = true) {f : FuncId} {fn : Func} {c : Code} {rc : RC} {rs : List RV} (hf : P.funcs[f]? = some fn) (hb : fn.body = some c) {lo : Nat}
  (hc : comp P pu (fn.ntmps,0) lo 1 rc c = some rc) (hr : Qh5 P fn.results.toList = some rs) {args : List V} (hn : args.length ≤ fn.ntmps) {hp : List Blk} (kL : hp.length ≤ lo) (gV : 0 < lo) {R : V → List Blk → Prop}
  (h : wpR Γ (Qar P) rc (endK rs fun σ => R (cutV σ.hp lo (resV σ.hp σ.fr rs)) (cutH lo σ.hp)) ⟨lkp (zipA 0 args),hp⟩) : Qb7 P f args hp R := by
 intro S w O cargs jC hsz hrep
 have h0 : ∀ id g b,O id = some (g,some b) → b < w.heap.size := fun id g b h => (jC.own id g b h).1
 have hl : ∀ id x,O id = some x → id < lo := fun id x h => Qi (Qhb jC h) kL
 refine Qdy.calls (n := 0) (callsIn_of_wp_marks hf hb trivial ?_)
 obtain ⟨h1,h2⟩ := Qqe hsz hn hrep
 obtain ⟨M,hM⟩ : ∃ M : FrI,M = ⟨fn.ntmps,0,fun _ => undef,fun _ => False⟩ := ⟨_,rfl⟩
 have wM : M.nm = (fn.ntmps,0) := by rw [hM]; rfl
 have hat : At (Ch S w O) M S w O ⟨lkp (zipA 0 args),hp⟩ { tmps := cargs ++ Array.replicate (fn.ntmps - cargs.size) undef,defers := [] } := by
  refine ⟨⟨Evol.refl _ _ _,[],rfl,Qr,fun _ h => by cases h⟩,⟨by rw [hM]; exact h1,fun t ht => by rw [hM] at ht; exact absurd ht (Qo _),h2,jC⟩⟩
 refine Qix hG hm (M := M) (by rw [hM]; exact fun _ h => h.elim) rc c rc _ 0 lo 1 Qdy (by rw [wM]; exact hc) (Ch S w O) w.heap.size (Zgy rfl h0 hl gV) _ _ _ S w O _ h hat ?_
 intro e σ' S' w' O' a' he kS
 have fin : (rvs σ'.hp σ'.fr rs ∧ R (cutV σ'.hp lo (resV σ'.hp σ'.fr rs)) (cutH lo σ'.hp)) → LeavesInM Fence.wide 0 P fn a'.tmps (fun e w' => ∃ c S' O' r hp',e = .returned c ∧ R r hp' ∧ Evol S S' w w' O O' ∧ Mat S' w' O' hp' ∧ Rep S' w' O' r c) a'.defers .returning w' := by
  rintro ⟨k1,k2⟩
  obtain ⟨ev,Ds,e1,e2,e3⟩ := kS.ctx
  rw [e1]
  exact Qg9 hr h0 k1 (fun w2 c jD jC yB => ⟨c,_,_,_,_,rfl,k2,jD.cut0 lo hl,Qo0 jC lo,Qj8 jC lo _ _ yB⟩) Ds w' e2 e3 ev kS.sr
 cases e <;> first | exact fin he | exact he.elim
end
end Go.Fam
namespace Go.Fam
variable {S : Nat → Prop} {w : World} {O : OInfo} {hp : List Blk}
def fzV (hp : List Blk) (L : List Nat) (v : V) : V := if (rids v).any (fun id => decide (id ∈ L)) = true then vw hp 8 v else v
def Qb7.frz {P : Program} {f : FuncId} {args : List V} {R : V → List Blk → Prop} (L : List Nat) (hL : L.all (Qid hp) = true)
  (ha : ∀ v ∈ args,(rids v).any (fun id => decide (id ∈ L)) = true → ∀ id ∈ rids v,id ∈ L) (h : Qb7 P f (args.map (fzV hp L)) (L.foldl Qh2 hp) R) : Qb7 P f args hp R := by
 intro S w O cargs hm hsz hr
 have uT := Qqy hm hL
 have hx : Ext (Frz S O L) (Frz S O L) w w noO (frzO O L) := ⟨fun k hk => ⟨hk,rfl⟩,fun _ _ _ h => by cases h⟩
 have key : ∀ (vs : List V) (cs : List Value),(∀ v ∈ vs,v ∈ args) → RepL S w O vs cs → RepL (Frz S O L) w (frzO O L) (vs.map (fzV hp L)) cs := by
  intro vs
  induction vs with
  | nil => intro cs _ _; simp [RepL]
  | cons v vs ih =>
   intro cs hv h
   cases cs with
   | nil => simp [RepL] at h
   | cons c cs =>
    simp only [RepL] at h
    simp only [Qb,RepL]
    refine ⟨?_,ih cs (fun x hx => hv x (by simp [hx])) h.2⟩
    unfold fzV
    by_cases hi : (rids v).any (fun id => decide (id ∈ L)) = true
    ·rw [if_pos hi]
     exact Rep.ext hx _ _ (Zah hm hL 8 v c (ha v (hv v (by simp)) hi) h.1)
    ·rw [if_neg hi]
     exact Rep.ext (Qqx L) _ _ h.1
 refine (h _ w _ cargs uT (by simpa using hsz) (key args _ (fun _ h => h) hr)).mono ?_
 rintro e w' ⟨c,S',O',r,hp',he,hR,jD,h1,h2⟩
 exact ⟨c,S',O',r,hp',he,hR,(Qse L).trans jD,h1,h2⟩
end Go.Fam
namespace Go.Fam
open Go.Sort
end Go.Fam
namespace Go.Fam
open Go.Sort
end Go.Fam
namespace Go.Fam
open Go.Proofs
structure CF (P : Program) (f : Func) (pu : List Nat) (a b : Nat) (rc : RC) (rs : List RV) (n : Nat) : Prop where
 c : comp P pu (f.ntmps,0) a b rc (f.body.getD .skip) = some rc
 b : f.body = some (f.body.getD .skip)
 s : Qh5 P f.results.toList = some rs
 n : n ≤ f.ntmps
def CF.of {P : Program} {f : Func} {pu : List Nat} {a b : Nat} {rc : RC} {rs : List RV} {n : Nat} (h : (comp P pu (f.ntmps,0) a b rc (f.body.getD .skip),f.body,Qh5 P f.results.toList,decide (n ≤ f.ntmps)) = (some rc,some (f.body.getD .skip),some rs,true)) : CF P f pu a b rc rs n := by
 simp only [Prod.mk.injEq,decide_eq_true_eq] at h
 exact ⟨h.1,h.2.1,h.2.2.1,h.2.2.2⟩
def pb {P : Program} {Γ : Gam} {pu : List Nat} (hG : GOk P Γ) (hm : P.follows .mixedOrders = true) {f : FuncId} {fn : Func} {rc : RC} {rs : List RV} (hf : P.funcs[f]? = some fn) {args : List V} {r : V} (c : CF P fn pu 0 1 rc rs args.length) (h : wpR Γ (Qar P) rc (endQ rs r) ⟨lkp (zipA 0 args),[]⟩) : Qa1 P f args r :=
 Qwz hG hm hf c.b c.c c.s c.n h
def BU1 := Qa @Qvm (Qa @Qmj (Qa @Qmh (Qa @Qxb (Qa @Qmi (Qa @Qmf (Qa @Qin (Qa @Qri (Qa @Qxc (Qa @Qht (Qa @cutH.eq_1 (Qa @Qfg (Qa @Fam.step.eq_1 (Qa @Qmx.eq_1 (Qa @eff.eq_1 (Qa @Qaw.eq_1 (Qa @fpR.eq_1 (Qa @Qmr.eq_1 (Qa @hits.eq_1 (Qa @Qii (Qa @curG.eq_1 (Qa @putAt.eq_1 (Qa @Qfi (Qa @Qzq (Qa @Qdn (Qa @Qfb (Qa (@List.map_cons.{0,0}) (Qa (@List.map_nil.{0,0}) (Qa @List.all_cons.{0} (Qa @List.all_nil.{0} (Qa @List.length_cons.{0} (Qa @List.length_nil.{0} (Qa @List.drop_succ_cons.{0} (Qa @List.drop_zero.{0} (Qa @List.drop_nil.{0} (Qa @List.take_succ_cons.{0} (Qa @List.take_zero.{0} (Qa @List.take_nil.{0} (Qa @List.headD_cons.{0} (Qa @List.cons_append.{0} (Qa @List.nil_append.{0} (Qa @List.append_nil.{0} (Qa @List.getElem?_cons_zero.{0} (Qa @List.getElem?_cons_succ.{0} (Qa @List.getElem?_nil.{0} (Qa @Option.getD_some.{0} (Qa @Option.getD_none.{0} (Qa @List.set_cons_zero.{0} (Qa @List.set_cons_succ.{0} (Qa @List.replicate_zero.{0} (Qa @List.isEmpty_nil.{0} (Qa @vw_i (Qa @vw_b (Qa @Zqj (Qa @Qul (Qa @Zqg (Qa @Zqh (Qa @Int.natCast_nonneg (Qa @Nat.zero_add (Qa @Nat.add_zero (Qa @Bool.and_self (Qa @Bool.and_true (Qa @Bool.false_and (Qa @Bool.or_false (Qa @Bool.not_true (Qa @Bool.not_false (Qa @decide_true (Qa @decide_false (Qa @true_and (Qa @and_true (Qa @and_self (Qa @false_and (Qa @false_implies (Qa (@Option.map_some.{0,0}) (Qa @List.any_nil.{0} (Qa @beq_true (Qa @beq_false (Qa (@List.length_map.{0,0}) (Qa @Int.toNat_natCast (Qa @List.getD_eq_getElem?_getD.{0} (Qa (@List.getElem?_map.{0,0}) (Qa @Qm1.eq_def (Qa @Qdf.eq_def (Qa @Qrk.eq_def (Qa @evO.eq_def (Qa @binV.eq_def (Qa @rv1.eq_def (Qa @resV.eq_def (Qa @endQ.eq_def (Qa @V.cells.eq_def (Qa @ug.eq_def (Qa @Qfw.eq_def (Qa @ldV.eq_def (Qa @Qh6.eq_def (Qa @qv.eq_def (Qa @lenV.eq_def (Qa @Qtk.eq_def (Qa @opv.eq_def (Qa @kp.eq_def (Qa @Qhx.eq_def (Qa @Qbp.eq_def (Qa @nv.eq_def (Qa @sv.eq_def (Qa @iadV.eq_def (@putB.eq_def))))))))))))))))))))))))))))))))))))))))))))))))))))))))))))))))))))))))))))))))))))))))))))))))))))))))
end Go.Fam
namespace Go.Fam
open Go.Proofs
def Zeh (E : TypeId → Nat → Prop) (hp : List Blk) (zc : V) (ok : Bool) (kt : TypeId) (sk : Bool) (id g : Nat) (k : V) : lkpV E hp zc ok kt sk (.mp id g) k = match keyL k with
 | some (s,l) => (match hp[id]? with
  | some (.map st ks vs) => (g = 0 ∧ Qg7 E kt sk st ks s l,if ok then .tp [(vs[ks.idxOf l]?).getD zc,.b (decide (l ∈ ks))] else (vs[ks.idxOf l]?).getD zc)
  | _ => (False,.u))
 | none => (False,.u) := by
 unfold lkpV
 cases keyL k <;> rfl
def Zei (E : TypeId → Nat → Prop) (hp : List Blk) (zc : V) (ok : Bool) (kt : TypeId) (sk st : Bool) (ks : List (List Int)) (vs : List V) (k : V) : lkpV E hp zc ok kt sk (.pm st ks vs) k = match keyL k with
 | some (s,l) => (Qg7 E kt sk st ks s l,if ok then .tp [(vs[ks.idxOf l]?).getD zc,.b (decide (l ∈ ks))] else (vs[ks.idxOf l]?).getD zc)
 | none => (False,.u) := by
 unfold lkpV
 cases keyL k <;> rfl
def BU2 := Qa BU1 (Qa (Qa (Qa (Qa (Qa (Qa (Qa (Qa @Qch @Qrg) (Qa @Qrj (Qa @Qrj @Zlg))) (Qa (Qa @Ze5 (Qa @Qmg @Zlb)) (Qa @Qrj (Qa @Zfd @Zlf)))) (Qa (Qa (Qa @Zla @Qrj) (Qa @Zl8 (Qa @Zl9 @Qrj))) (Qa (Qa @Qrj (Qa @Zle @Zc7)) (Qa @Qxd (Qa @Qrj @Zld))))) (Qa (Qa (Qa (Qa @Qk7 @Qec) (Qa @Qk8 (Qa @Qns @Zc9))) (Qa (Qa @Qio (Qa @drpS.eq_1 @noGo.eq_1)) (Qa @noGo.eq_2 (Qa @Qk1 @rnQ.eq_1)))) (Qa (Qa (Qa @rnQ.eq_2 @rndQ.eq_1) (Qa @rndQ.eq_2 (Qa @rndQ.eq_3 @rndQ.eq_4))) (Qa (Qa @updL.eq_1 (Qa @updL.eq_2 @Zll.eq_1)) (Qa @Zll.eq_2 (Qa @yres.eq_1 @yres.eq_2)))))) (Qa (Qa (Qa (Qa (Qa @slots.eq_1 @ghO.eq_1) (Qa @Qrl.eq_1 (Qa @ocV.eq_1 @ocV.eq_2))) (Qa (Qa @effO.eq_1 (Qa @nidQ.eq_1 @nidQ.eq_2)) (Qa @plO.eq_1 (Qa @plO.eq_2 @plQ.eq_1)))) (Qa (Qa (Qa @plQ.eq_2 @plB.eq_1) (Qa @plB.eq_2 (Qa @Qow.eq_1 @Qow.eq_2))) (Qa (Qa @Qfp.eq_1 (Qa @Qfp.eq_2 @Qox.eq_1)) (Qa @Qox.eq_2 (Qa @Qmu.eq_1 @Qmu.eq_2))))) (Qa (Qa (Qa (Qa @Qbf.eq_1 @Qbf.eq_2) (Qa @optL.eq_1 (Qa @optL.eq_2 @upTo.eq_1))) (Qa (Qa @upTo.eq_2 (Qa @rids.eq_1 @rids.eq_2)) (Qa @rids.eq_3 (Qa @rids.eq_4 @rids.eq_5)))) (Qa (Qa (Qa @rids.eq_6 @rids.eq_7) (Qa @rids.eq_8 (Qa @Qe4.eq_1 @Qe4.eq_2))) (Qa (Qa @Qid.eq_1 (Qa @Qh2.eq_1 @Qjm.eq_1)) (Qa @Qjm.eq_2 (Qa @Qjm.eq_3 (@List.foldl_cons.{0,0})))))))) (Qa (Qa (Qa (Qa (Qa (Qa (@List.foldl_nil.{0,0}) @Qcr.eq_1) (Qa @Qcr.eq_2 (Qa @Qcr.eq_3 @Qcr.eq_4))) (Qa (Qa @Qcr.eq_5 (Qa @Qcr.eq_6 @Qcr.eq_7)) (Qa @Qcr.eq_8 (Qa @Qcr.eq_9 @Qcr.eq_10)))) (Qa (Qa (Qa @Qcr.eq_11 @Qcr.eq_12) (Qa @Qim.eq_1 (Qa @Qim.eq_2 @Qft.eq_1))) (Qa (Qa @Qft.eq_2 (Qa @Qft.eq_3 @shV.eq_1)) (Qa @shV.eq_2 (Qa @shV.eq_3 @shV.eq_4))))) (Qa (Qa (Qa (Qa @shV.eq_5 @shV.eq_6) (Qa @shV.eq_7 (Qa @shV.eq_8 @shV.eq_9))) (Qa (Qa @shL.eq_1 (Qa @shL.eq_2 @shB.eq_1)) (Qa @shB.eq_2 (Qa @shB.eq_3 @shB.eq_4)))) (Qa (Qa (Qa @Qb2 @Zce) (Qa @swH.eq_1 (Qa @sw.eq_1 @renV.eq_1))) (Qa (Qa @renV.eq_2 (Qa @renV.eq_3 @renV.eq_4)) (Qa @renV.eq_5 (Qa @renV.eq_6 @renV.eq_7)))))) (Qa (Qa (Qa (Qa (Qa @renV.eq_8 @renV.eq_9) (Qa @renL.eq_1 (Qa @renL.eq_2 @renB.eq_1))) (Qa (Qa @renB.eq_2 (Qa @renB.eq_3 @renB.eq_4)) (Qa @Zeh (Qa @Zei @keyL.eq_1)))) (Qa (Qa (Qa @keyL.eq_2 @keyL.eq_3) (Qa @entV.eq_1 (Qa @entV.eq_2 @Qwk.eq_1))) (Qa (Qa @Qwk.eq_2 (Qa @keyV.eq_1 @Qg7.eq_1)) (Qa @endO.eq_1 (Qa @endO.eq_2 @endO.eq_3))))) (Qa (Qa (Qa (Qa @endK.eq_1 @endK.eq_2) (Qa @endK.eq_3 (Qa @endI.eq_1 @endI.eq_2))) (Qa (Qa @endI.eq_3 (Qa @Qbe @Zlo)) (Qa @runX.eq_1 (Qa @runX.eq_2 @Zpj)))) (Qa (Qa (Qa @fpQ.eq_1 @fpQ.eq_2) (Qa @fpQ.eq_3 (Qa @fpQ.eq_4 @fpQ.eq_5))) (Qa (Qa @fpQ.eq_6 (Qa @fpQ.eq_7 @fpQ.eq_8)) (Qa @fpQ.eq_9 (Qa @fpQ.eq_10 @fpQ.eq_11)))))))) (Qa (Qa (Qa (Qa (Qa (Qa (Qa @fpQ.eq_12 @fpQ.eq_13) (Qa @fpQ.eq_14 (Qa @fpV.eq_1 @fpV.eq_2))) (Qa (Qa @fpV.eq_3 (Qa @fpV.eq_4 @Qcb.eq_1)) (Qa @Qcb.eq_2 (Qa @Qcb.eq_3 @Qcb.eq_4)))) (Qa (Qa (Qa @Qrd @Qrc) (Qa @binW.eq_1 (Qa @binW.eq_2 @binW.eq_3))) (Qa (Qa @binW.eq_4 (Qa @binW.eq_5 @binW.eq_6)) (Qa @binW.eq_7 (Qa @binW.eq_8 @binW.eq_9))))) (Qa (Qa (Qa (Qa @binW.eq_10 @binW.eq_11) (Qa @binW.eq_12 (Qa @binW.eq_13 @binW.eq_14))) (Qa (Qa @slcV.eq_1 (Qa @slcV.eq_2 @slcV.eq_3)) (Qa @slxV.eq_1 (Qa @slxV.eq_2 @slxV.eq_3)))) (Qa (Qa (Qa @Qg6.eq_1 @Qg6.eq_2) (Qa @Qg6.eq_3 (Qa @Qbg.eq_1 @Qbg.eq_2))) (Qa (Qa @Qck.eq_1 (Qa @Qck.eq_2 @Qc8.eq_1)) (Qa @Qc8.eq_2 (Qa @Qcg.eq_1 @Qcg.eq_2)))))) (Qa (Qa (Qa (Qa (Qa @Qcg.eq_3 @Qcg.eq_4) (Qa @Qcg.eq_5 (Qa @Qdv.eq_1 @Qdv.eq_2))) (Qa (Qa @Qdv.eq_3 (Qa @Qan.eq_1 @Qan.eq_2)) (Qa @Qan.eq_3 (Qa @Qan.eq_4 @Qan.eq_5)))) (Qa (Qa (Qa @Qan.eq_6 @Qan.eq_7) (Qa @Qan.eq_8 (Qa @Qan.eq_9 @Qa8.eq_1))) (Qa (Qa @Qa8.eq_2 (Qa @flat.eq_1 @flat.eq_2)) (Qa @flat.eq_3 (Qa @flat.eq_4 @flat.eq_5))))) (Qa (Qa (Qa (Qa @flat.eq_6 @flat.eq_7) (Qa @flat.eq_8 (Qa @Qmt.eq_1 @Qmt.eq_2))) (Qa (Qa @cutV.eq_1 (Qa @cutV.eq_2 @cutV.eq_3)) (Qa @cutV.eq_4 (Qa @cutV.eq_5 @cutV.eq_6)))) (Qa (Qa (Qa @cutV.eq_7 @cutV.eq_8) (Qa @cutV.eq_9 (Qa @cutL.eq_1 @cutL.eq_2))) (Qa (Qa @cutB.eq_1 (Qa @cutB.eq_2 @cutB.eq_3)) (Qa @cutB.eq_4 (Qa @Int.add_sub_cancel @Int.toNat_zero))))))) (Qa (Qa (Qa (Qa (Qa (Qa (@List.map_cons.{0,0}) (@List.map_nil.{0,0})) (Qa @List.all_cons.{0} (Qa @List.all_nil.{0} @List.length_cons.{0}))) (Qa (Qa @List.length_nil.{0} (Qa @List.drop_succ_cons.{0} @List.drop_zero.{0})) (Qa @List.drop_nil.{0} (Qa @List.take_succ_cons.{0} @List.take_zero.{0})))) (Qa (Qa (Qa @List.take_nil.{0} @List.headD_cons.{0}) (Qa @List.headD_nil.{0} (Qa @List.cons_append.{0} @List.nil_append.{0}))) (Qa (Qa @List.append_nil.{0} (Qa @List.getElem?_cons_zero.{0} @List.getElem?_cons_succ.{0})) (Qa @List.getElem?_nil.{0} (Qa @Option.getD_some.{0} @Option.getD_none.{0}))))) (Qa (Qa (Qa (Qa @List.set_cons_zero.{0} @List.set_cons_succ.{0}) (Qa @List.set_nil.{0} (Qa @List.replicate_zero.{0} @List.replicate_succ.{0}))) (Qa (Qa @List.getD_cons_zero.{0} (Qa @List.getD_cons_succ.{0} @List.isEmpty_nil.{0})) (Qa @List.isEmpty_cons.{0} (Qa @rvs.eq_1 @rvs.eq_2)))) (Qa (Qa (Qa @vw_u @Zqi) (Qa @vw_z (Qa @Zqk @Zqf))) (Qa (Qa @Qql (Qa @zipA.eq_1 @zipA.eq_2)) (Qa @Int.lt_irrefl (Qa @beq_self_eq_true.{0} @Option.some.injEq.{0})))))) (Qa (Qa (Qa (Qa (Qa @V.i.injEq @V.b.injEq) (Qa @Bool.true_and (Qa @Bool.and_false @Bool.false_or))) (Qa (Qa @Bool.or_true (Qa @Bool.true_or @Bool.false_eq_true)) (Qa @Bool.true_eq_false (Qa @decide_eq_true_eq @decide_eq_false_iff_not)))) (Qa (Qa (Qa @and_false @forall_const.{0}) (Qa @forall_const.{1} (Qa @true_implies @implies_true.{0}))) (Qa (Qa @implies_true.{1} (Qa @ite_true.{1} @ite_false.{1})) (Qa @not_true_eq_false (Qa @not_false_eq_true @ne_eq.{1}))))) (Qa (Qa (Qa (Qa (@Option.map_some.{0,0}) (@Option.map_none.{0,0})) (Qa @List.any_cons.{0} (Qa @List.any_nil.{0} @List.contains_cons.{0}))) (Qa (Qa @List.contains_nil.{0} (Qa @Bool.not_not @Bool.not_eq_false')) (Qa @Bool.not_eq_true' (Qa @Zpt @Zpu)))) (Qa (Qa (Qa @Bool.decide_eq_true @Bool.decide_eq_false) (Qa @Bool.xor_self (Qa @imp_self (@List.length_map.{0,0})))) (Qa (Qa @List.getD_eq_getElem?_getD.{0} (Qa (@List.getElem?_map.{0,0}) @Bool.not_eq_true)) (Qa @Bool.not_eq_false (Qa @Classical.not_not @List.length_replicate.{0})))))))))
def BU3 := Qa @Qch @Qrg
end Go.Fam
namespace Go.FamR
open Go.Fam
open Go.ChangeShapes Go.WideShapes Go.ChangeAt Go.RowKit
variable {P : Program} {W : World} {H : Type} {enc : TypeId × Value → H} {α β : Type}
def Wt (P : Program) (t : TypeId) (d : DataW H) : Prop := ∀ n ∈ d.weights P t,n ≤ reachBytes
def WtE (P : Program) (ts : List TypeId) (ds : List (DataW H)) : Prop := ∀ n ∈ DataW.weightsEach P ts ds,n ≤ reachBytes
def WtE.head {t : TypeId} {ts : List TypeId} {d : DataW H} {ds : List (DataW H)} (h : WtE P (t :: ts) (d :: ds)) : Wt P t d := fun n hn => h n (by simp only [DataW.weightsEach,Qd]; exact .inl hn)
def WtE.tail {t : TypeId} {ts : List TypeId} {d : DataW H} {ds : List (DataW H)} (h : WtE P (t :: ts) (d :: ds)) : WtE P ts ds := fun n hn => h n (by simp only [DataW.weightsEach,Qd]; exact .inr hn)
def wtE_app {us : List TypeId} {gs : List (DataW H)} : ∀ {ts : List TypeId} {ds : List (DataW H)},(DataW.weightsEach P (ts ++ us) (ds ++ gs)).all (· ≤ reachBytes) = true → WtE P ts ds
 | [],_,_ => by intro n hn; simp [DataW.weightsEach] at hn
 | _ :: _,[],_ => by intro n hn; simp [DataW.weightsEach] at hn
 | t :: ts,d :: ds,h => by
  simp only [Q9,DataW.weightsEach,List.all_append,Qx] at h
  intro n hn
  simp only [DataW.weightsEach,Qd] at hn
  rcases hn with hn | hn
  ·simpa using List.all_eq_true.1 h.1 n hn
  ·exact wtE_app h.2 n hn
def Zql {e : TypeId} {d : DataW H} {l : List (DataW H)} (h : d ∈ l) : ∀ n ∈ d.weights P e,n ∈ DataW.weightsAll P e l := by
 induction l with
 | nil => cases h
 | cons x r ih =>
  intro n hn
  simp only [DataW.weightsAll,Qd]
  rcases Qg.1 h with e | e
  ·subst e; exact .inl hn
  ·exact .inr (ih e n hn)
def Rd (enc : TypeId × Value → H) (P : Program) (W : World) (t : TypeId) (e : α → List V) (ok : α → Prop) : Prop :=
 ∀ fuel (cs : List Value) d ps,DataW.trod enc P W 0 (fun _ => true) true fuel t cs = some (d,ps) → Wt P t d → ∃ a,ok a ∧ (e a).length = cs.length ∧ RepL (Qmy W) W noO (e a) cs ∧ ∀ c ∈ cs,c.oneCell' = true
def Rd.map {t : TypeId} {e : α → List V} {ok : α → Prop} (h : Rd enc P W t e ok) {e' : β → List V} {ok' : β → Prop} (g : α → β) (he : ∀ a,e' (g a) = e a) (jA : ∀ a,ok a → ok' (g a)) : Rd enc P W t e' ok' := by
 intro fuel cs d ps hd hN
 obtain ⟨a,h1,h2,h3,h4⟩ := h fuel cs d ps hd hN
 exact ⟨g a,jA a h1,by rw [he]; exact h2,by rw [he]; exact h3,h4⟩
def rd_int {t : TypeId} (hu : P.underlying t = some (.int .i64)) : Rd enc P W t (fun n : Int => [.i n]) inI := by
 intro fuel cs d ps h hN
 cases fuel with
 | zero => simp [DataW.trod] at h
 | succ fuel =>
  unfold DataW.trod at h
  split at h <;> rename_i x6 <;> (try rw [hu] at x6) <;> first | (cases x6; done) | skip
  ·cases x6
   rename_i k' n
   split at h
   ·rename_i hk
    obtain ⟨rfl,hw⟩ := hk
    refine ⟨n,?_,rfl,by simp [RepL,Rep],by simp [Value.oneCell']⟩
    simp [Lit.wf,IntKind.min,IntKind.max,IntKind.signed,IntKind.bits] at hw
    unfold inI
    omega
   ·cases h
  ·cases h
def Qx3 {t : TypeId} {fs : Array Field} (hu : P.underlying t = some (.struct fs)) {e : α → List V} {ok : α → Prop}
  (hf : ∀ fuel (cs : List Value) xs,cs.length = P.cellsOf t → (fs.toList.mapM fun f => DataW.trod enc P W 0 (fun _ => true) true fuel f.type ((cs.drop f.offset).take (P.cellsOf f.type))) = some xs → WtE P (fs.toList.map (·.type)) (xs.map (·.1)) →
   ∃ a,ok a ∧ (e a).length = cs.length ∧ RepL (Qmy W) W noO (e a) cs ∧ ∀ c ∈ cs,c.oneCell' = true) : Rd enc P W t e ok := by
 intro fuel cs d ps h hN
 cases fuel with
 | zero => simp [DataW.trod] at h
 | succ fuel =>
  unfold DataW.trod at h
  split at h <;> rename_i x6 <;> (try rw [hu] at x6) <;> first | (cases x6; done) | skip
  ·cases x6
   split at h
   ·rename_i hl
    simp only [Qk] at h
    obtain ⟨xs,hx,hd⟩ := h
    simp only [Prod.mk.injEq] at hd
    refine hf fuel _ xs hl hx fun n hn => hN n ?_
    rw [← hd.1]
    simp only [DataW.weights,hu]
    exact hn
   ·cases h
  ·cases h
def RdF (enc : TypeId × Value → H) (P : Program) (W : World) (n : Nat) (fs : List Field) (off : Nat) (e : α → List V) (ok : α → Prop) : Prop :=
 ∀ fuel (cs : List Value) xs,cs.length = n → (fs.mapM fun f => DataW.trod enc P W 0 (fun _ => true) true fuel f.type ((cs.drop f.offset).take (P.cellsOf f.type))) = some xs → WtE P (fs.map (·.type)) (xs.map (·.1)) →
  ∃ a,ok a ∧ (e a).length = (cs.drop off).length ∧ RepL (Qmy W) W noO (e a) (cs.drop off) ∧ ∀ c ∈ cs.drop off,c.oneCell' = true
def Zf4 {n off : Nat} (h : n ≤ off) : RdF enc P W n [] off (fun _ : Unit => []) (fun _ => True) := by
 intro fuel cs xs hl _ _
 have : cs.drop off = [] := by rw [Qn]; omega
 exact ⟨(),trivial,by rw [this]; rfl,by simp [RepL],by rw [this]; simp⟩
def Qz9 {n off k : Nat} {f : Field} {fs : List Field} {e1 : α → List V} {ok1 : α → Prop} {e2 : β → List V} {ok2 : β → Prop} (h1 : f.offset = off) (h2 : P.cellsOf f.type = k) (hr : Rd enc P W f.type e1 ok1)
  (hs : RdF enc P W n fs (off + k) e2 ok2) : RdF enc P W n (f :: fs) off (fun p : α × β => e1 p.1 ++ e2 p.2) (fun p => ok1 p.1 ∧ ok2 p.2) := by
 intro fuel cs xs hl h hX
 rw [Q0] at h
 cases hx : DataW.trod enc P W 0 (fun _ => true) true fuel f.type ((cs.drop f.offset).take (P.cellsOf f.type)) with
 | none => simp [hx] at h
 | some x =>
  cases xJ : fs.mapM (fun f => DataW.trod enc P W 0 (fun _ => true) true fuel f.type ((cs.drop f.offset).take (P.cellsOf f.type))) with
  | none => simp [hx,xJ] at h
  | some ys =>
   rw [h1,h2] at hx
   have exs : xs = x :: ys := by
    rw [h1,h2] at h
    simp only [hx,xJ] at h
    simpa using h.symm
   obtain ⟨a,a1,a2,a3,a4⟩ := hr fuel _ x.1 x.2 hx (WtE.head (by rw [exs] at hX; exact hX))
   obtain ⟨b,b1,b2,b3,b4⟩ := hs fuel cs ys hl xJ (WtE.tail (by rw [exs] at hX; exact hX))
   have e : cs.drop off = (cs.drop off).take k ++ cs.drop (off + k) := by rw [← Q1,Qm]
   refine ⟨(a,b),⟨a1,b1⟩,?_,?_,?_⟩
   ·rw [e,Qt,Qt,a2,b2]
   ·rw [e]; exact RepL.append _ _ _ _ a3 a2.symm b3
   ·rw [e]
    intro c hc
    rcases Qd.1 hc with hc | hc
    ·exact a4 c hc
    ·exact b4 c hc
def RdF.rd {t : TypeId} {fs : Array Field} (hu : P.underlying t = some (.struct fs)) {e : α → List V} {ok : α → Prop} (h : RdF enc P W (P.cellsOf t) fs.toList 0 e ok) : Rd enc P W t e ok :=
 Qx3 hu fun fuel cs xs hl hx hX => by simpa using h fuel cs xs hl hx hX
def rd_slice {t el : TypeId} {es : Nat} {e : α → List V} {ok : α → Prop} (hu : P.underlying t = some (.slice el)) (hk : P.cellsOf el = es) (h0 : es ≠ 0) (he : Rd enc P W el e ok) :
  Rd enc P W t (fun l : List α => [.sl es (l.map e)]) (fun l => (∀ x ∈ l,ok x) ∧ l.length * P.bytesOf el ≤ reachBytes) := by
 intro fuel cs d ps h hN
 cases fuel with
 | zero => simp [DataW.trod] at h
 | succ fuel =>
  unfold DataW.trod at h
  split at h <;> rename_i x6 <;> (try rw [hu] at x6) <;> first | (cases x6; done) | skip
  ·exact ⟨[],by simp,rfl,by simp [RepL,Rep],by simp [Value.oneCell']⟩
  ·cases x6
   rename_i a len cap
   split at h
   ·rename_i hb
    obtain ⟨_,uJ,aX⟩ := hb
    rw [Qj] at h
    obtain ⟨elems,nH,kQ⟩ := h
    have fD : ∃ sp,d = .slice (elems.map (·.1)) sp := by
     rw [Qk] at kQ
     obtain ⟨sp,_,k7⟩ := kQ
     simp only [Prod.mk.injEq] at k7
     exact ⟨_,k7.1.symm⟩
    obtain ⟨spr,rfl⟩ := fD
    simp only [Wt,DataW.weights,hu] at hN
    have hNl : elems.length * P.bytesOf el ≤ reachBytes := Nat.le_trans (Nat.mul_le_mul_right _ (by rw [Qz]; omega)) (hN _ (List.mem_cons_self ..))
    have hlen := mapM_some_length nH
    simp only [List.length_range] at hlen
    have jO : ∀ i,i < len → ∃ row x,W.cells? 0 (a.add (i * es)) es = some row ∧ ok x ∧ (e x).length = es ∧ RepL (Qmy W) W noO (e x) row ∧ ∀ c ∈ row,c.oneCell' = true := by
     intro i hi
     have h1 := mapM_some_get nH i i (by simp [hi])
     rw [Qc (by omega),hk,Qj] at h1
     obtain ⟨row,hrow,hx⟩ := h1
     obtain ⟨x,x1,x2,x3,x4⟩ := he fuel row _ _ hx (fun n hn => hN n (List.mem_cons_of_mem _ (Qd.2 (.inl (Zql (Q7.2 ⟨_,Qy _,rfl⟩) n hn)))))
     exact ⟨row,x,hrow,x1,by rw [x2]; exact (World.cells?_some hrow).2.1,x3,x4⟩
    cases len with
    | zero => exact ⟨[],by simp,rfl,by simp [RepL,Rep],by simp [Value.oneCell']⟩
    | succ len =>
     obtain ⟨blk,off,spot⟩ := a
     obtain ⟨row0,_,aG,_⟩ := jO 0 (by omega)
     have hc0 := (World.cells?_some aG).2.2 0 (by omega)
     have hl0 := (World.cells?_some aG).2.1
     rw [Qc (by omega)] at hc0
     simp only [Nat.zero_mul,Addr.add,if_true,World.cell?] at hc0
     cases yX : W.heap[blk]? with
     | none => rw [yX] at hc0; cases hc0
     | some o =>
      rw [yX] at hc0
      cases o <;> first | (cases hc0; done) | skip
      rename_i cur elt fr
      cases spot with
      | some s => simp at hc0
      | none =>
       have fE : ∀ i,i < len + 1 → ∃ x,ok x ∧ (e x).length = es ∧ (∀ c ∈ (cur.toList.drop (off + i * es)).take es,c.oneCell' = true) ∧ RepL (Qmy W) W noO (e x) (cur.toList.drop (off + i * es)) := by
        intro i hi
        obtain ⟨row,x,hrow,x1,x2,x3,x4⟩ := jO i hi
        obtain ⟨_,r2,r3⟩ := World.cells?_some hrow
        have vI : ∀ m,(⟨blk,off,none⟩ : Addr).add m = ⟨blk,off + m,none⟩ := by
         intro m; unfold Addr.add; split
         ·subst m; rfl
         ·rfl
        have nI : row = (cur.toList.drop (off + i * es)).take es := by
         apply Q6
         intro j
         by_cases hj : j < es
         ·have := r3 j hj
          rw [vI,show (⟨blk,off + i * es,none⟩ : Addr).add j = ⟨blk,off + i * es + j,none⟩ from by unfold Addr.add; split <;> simp_all] at this
          simp only [World.cell?,yX,Option.isSome_none,Qe,if_false] at this
          rw [← this,List.getElem?_take,if_pos hj,List.getElem?_drop,Array.getElem?_toList]
         ·rw [Ql (by omega),Ql (by simp; omega)]
        refine ⟨x,x1,x2,by rw [← nI]; exact x4,?_⟩
        have := RepL.more (e x) row ((cur.toList.drop (off + i * es)).drop es) x3
        rwa [nI,Qm] at this
       obtain ⟨l,l1,l2,l3⟩ := Qxa (len + 1) off fE
       refine ⟨l,⟨l2,by rw [l1,← hlen]; exact hNl⟩,rfl,?_,by simp [Value.oneCell']⟩
       simp only [RepL,Rep,and_true]
       refine ⟨_,cap,by rw [Qz,l1],by simp; omega,.inr ⟨blk,off,cur,elt,fr,rfl,?_,yX,l3⟩⟩
       exact (Array.getElem?_eq_some_iff.1 yX).1
   ·cases h
  ·cases h
def RdP (enc : TypeId × Value → H) (P : Program) (W : World) (n : Nat) (ps : List (TypeId × Nat)) (off : Nat) (e : α → List V) (ok : α → Prop) : Prop :=
 ∀ fs : List Field,fs.map (fun f => (f.type,f.offset)) = ps → RdF enc P W n fs off e ok
def rdP_nil {n off : Nat} (h : n ≤ off) : RdP enc P W n [] off (fun _ : Unit => []) (fun _ => True) := by
 intro fs hf
 have : fs = [] := by simpa using hf
 subst this
 exact Zf4 h
def rdP_cons {n off k : Nat} {t : TypeId} {ps : List (TypeId × Nat)} {e1 : α → List V} {ok1 : α → Prop} {e2 : β → List V} {ok2 : β → Prop} (h2 : P.cellsOf t = k) (hr : Rd enc P W t e1 ok1)
  (hs : RdP enc P W n ps (off + k) e2 ok2) : RdP enc P W n ((t,off) :: ps) off (fun p : α × β => e1 p.1 ++ e2 p.2) (fun p => ok1 p.1 ∧ ok2 p.2) := by
 intro fs hf
 cases fs with
 | nil => cases hf
 | cons f fs =>
  simp only [Qb,List.cons.injEq,Prod.mk.injEq] at hf
  obtain ⟨⟨rfl,ho⟩,hf⟩ := hf
  exact Qz9 ho h2 hr (hs fs hf)
def RdP.rd {t : TypeId} {fs : Array Field} {n : Nat} {ps : List (TypeId × Nat)} (hu : P.underlying t = some (.struct fs)) (hn : P.cellsOf t = n) (hp : fs.toList.map (fun f => (f.type,f.offset)) = ps) {e : α → List V} {ok : α → Prop} (h : RdP enc P W n ps 0 e ok) : Rd enc P W t e ok := by
 subst hn
 exact RdF.rd hu (h _ hp)
def RdV (enc : TypeId × Value → H) (P : Program) (W : World) (t : TypeId) (e : α → V) (ok : α → Prop) : Prop :=
 ∀ v d ps base,DataW.Trod enc P W 0 (fun _ => true) true t v d ps → Wt P t d → Value.okWide P W .any base t v → ∃ a,ok a ∧ Rep (Qmy W) W noO (e a) v
def Rd.agg {t : TypeId} {fs : Array Field} (hu : P.underlying t = some (.struct fs)) {e : α → List V} {ok : α → Prop} (h : Rd enc P W t e ok) : RdV enc P W t (fun a => .ag (e a)) ok := by
 rintro v d ps base ⟨fuel,hf⟩ hN hw
 obtain ⟨cs,rfl,_⟩ := okWide_struct hu hw
 obtain ⟨a,h1,h2,h3,_⟩ := h fuel _ d ps hf hN
 exact ⟨a,h1,cs,rfl,by simpa [Value.cells] using h2.symm,by simpa [Value.cells] using h3⟩
def Rd.one {t : TypeId} {e : α → V} {ok : α → Prop} (hone : ∀ v base,Value.okWide P W .any base t v → v.oneCell' = true) (h : Rd enc P W t (fun a => [e a]) ok) : RdV enc P W t e ok := by
 rintro v d ps base ⟨fuel,hf⟩ hN hw
 have hc := hone v base hw
 have hcs : v.cells.toList = [v] := by cases v <;> simp [Value.oneCell'] at hc <;> rfl
 rw [hcs] at hf
 obtain ⟨a,h1,_,h3,_⟩ := h fuel _ d ps hf hN
 simp only [RepL,and_true] at h3
 exact ⟨a,h1,h3⟩
def RdA (enc : TypeId × Value → H) (P : Program) (W : World) (ts : List TypeId) (e : α → List V) (ok : α → Prop) : Prop :=
 ∀ vs ds ps base,DataW.TrodAll enc P W 0 (fun _ => true) true ts vs ds ps → WtE P ts ds → (∀ (j : Nat) t v,ts[j]? = some t → vs[j]? = some v → Value.okWide P W .any base t v) → ∃ a,ok a ∧ (e a).length = vs.length ∧ RepL (Qmy W) W noO (e a) vs
def rdA_nil : RdA enc P W [] (fun _ : Unit => []) (fun _ => True) := by
 intro vs ds ps base h _ _
 obtain ⟨rfl,_,_⟩ := trodAll_nil h
 exact ⟨(),trivial,rfl,by simp [RepL]⟩
def rdA_cons {t : TypeId} {ts : List TypeId} {e1 : α → V} {ok1 : α → Prop} {e2 : β → List V} {ok2 : β → Prop} (h1 : RdV enc P W t e1 ok1) (h2 : RdA enc P W ts e2 ok2) :
  RdA enc P W (t :: ts) (fun p : α × β => e1 p.1 :: e2 p.2) (fun p => ok1 p.1 ∧ ok2 p.2) := by
 intro vs ds ps base h hX hv
 obtain ⟨v,vs',d,ds',p,q,rfl,rfl,rfl,ha,hb⟩ := trodAll_cons h
 obtain ⟨a,a1,a2⟩ := h1 v d p base ha hX.head (hv 0 t v rfl rfl)
 obtain ⟨b,b1,b2,b3⟩ := h2 vs' ds' q base hb hX.tail fun j t v hj hv' => hv (j + 1) t v (by simpa using hj) (by simpa using hv')
 exact ⟨(a,b),⟨a1,b1⟩,by simp [b2],a2,b3⟩
def bridge {F : FuncId} {fn : Func} {s : ChangeSpec} {fresh : Bool} (hl : laidOutB P = true) {e : α → List V} {ok : α → Prop} {ts : List TypeId} (xG : fn.params.toList = ts) (pC : ∀ W,RdA enc P W ts e ok)
  (bU : (ts.all fun t => P.readableRec t && decide (t < P.types.size)) = true) (y9 : s.vars = []) (uI : ∀ ds : List (DataW H),ds.length = ts.length → s.fn H ds = { results := [.lit (.bool true)],args := ds })
  {tb : TypeId} (vN : fn.resultTypes = #[tb]) (hb : P.underlying tb = some .bool) (lV : ∀ a,ok a → Qa1 P F (e a) (.b true))
  {W : World} {base : Nat} {args : Array Value} {ds gs : List (DataW H)} {before : List MemPlace}
  (bE : ∀ (j : Nat) t v,fn.params[j]? = some t → args[j]? = some v → Value.okWide P W .any base t v) (hW : DataW.Whole enc P fn.params.toList s.vars false W args.toList ds gs before) (yX : WtE P fn.params.toList ds) :
  Calls P F args W fun e' W' => ∃ v,e' = .returned v ∧ s.post enc P fn false fresh false false W args v W' := by
 have hW' := hW
 obtain ⟨p,q,hA,hV,rfl,hfz,hnd⟩ := hW
 have hlt : ∀ x ∈ p ++ q,x.block < W.heap.size := hW'.lt
 rw [xG] at hA yX
 have hlen : ds.length = ts.length ∧ args.toList.length = ts.length := by
  have : ∀ (ts : List TypeId) (vs : List Value) (ds : List (DataW H)) (ps : List MemPlace),DataW.TrodAll enc P W 0 (fun _ => true) true ts vs ds ps → ds.length = ts.length ∧ vs.length = ts.length := by
   intro ts
   induction ts with
   | nil => intro vs ds ps h; obtain ⟨rfl,rfl,rfl⟩ := trodAll_nil h; exact ⟨rfl,rfl⟩
   | cons t ts ih =>
    intro vs ds ps h
    obtain ⟨v,vs',d,ds',p,q,rfl,rfl,rfl,_,hb⟩ := trodAll_cons h
    have := ih _ _ _ hb
    simp [this.1,this.2]
  exact this _ _ _ _ hA
 rw [y9] at hV
 obtain ⟨rfl,rfl⟩ : gs = [] ∧ q = [] := trodVars_none hV
 obtain ⟨a,h1,h2,h3⟩ := pC W _ _ _ base hA yX fun j t v hj hv => bE j t v (by rw [← xG] at hj; simpa using hj) (by simpa using hv)
 refine (lV a h1 (Qmy W) W args (fun _ h => h) (by simpa using h2.symm) h3).mono ?_
 rintro e' W' ⟨c,rfl,jD,hrep⟩
 simp only [Rep] at hrep
 subst hrep
 have hbl : Below W.heap.size W W' := ⟨jD.os,jD.tape,jD.output,jD.size,fun k hk => jD.old k hk (by rintro ⟨id,g,h⟩; cases h)⟩
 have lW : s.fn H (ds ++ []) = { results := [.lit (.bool true)],args := ds } := by rw [List.append_nil]; exact uI ds hlen.1
 refine ⟨_,rfl,Qwy (pa := p) (pv := []) hW' (fun b sp hd => ?_) (fun sp k7 => ?_) (fun sp k7 => ?_) rfl (Qod hbl _) jD.fz (ok_one vN rfl (okWide_bool_mk hb _))⟩
 ·rw [lW,vN]
  exact trodAll_mk1 (shut_bool hb true)
 ·rw [lW,xG]
  exact Qiv hl bU hA (fun x hx => hbl.same (hlt x (by simp [hx]))) fun x hx => k7 x (by simp [hx])
 ·rw [lW,y9]
  rfl
end Go.FamR
