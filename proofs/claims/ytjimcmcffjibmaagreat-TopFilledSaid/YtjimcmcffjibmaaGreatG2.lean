import Derived.Test.YtjimcmcffjibmaaGreatG1
set_option linter.all false
set_option maxHeartbeats 4000000
open List renaming range' → Qd,getElem?_zip_eq_some → Qe,getElem?_map → Qf,getElem?_eq_getElem → Qi,all_eq_true → Qj,take_of_length_le → Ql,mem_append → Qn,getElem?_append_left → Qo,range'_succ → Qp,mem_cons → Qq,range_eq_range' → Qr,getElem?_cons_zero → Qs,getElem?_append_right → Qt,getElem?_of_mem → Qv,eq_nil_of_length_eq_zero → Qw,length → Qx,getElem?_range' → Qz,mem_of_getElem? → Q0,replicate → Q1,range'_append_1 → Q2,length_cons → Q3,range → Q4,getElem?_set_self → Q6,eq_nil_iff_forall_not_mem → Q7,getElem_mem → Q8,getElem?_set_ne → Q9,getElem?_drop → Za,getElem?_take → Zb,rel_of_pairwise_cons → Ze,pairwise_iff_getElem → Zf,Sublist → Zg,sublist_cons_self → Zh,length_map → Zj,mem_filter → Zk,length_set → Zl,getElem?_eq_none → Zm,getElem?_toArray → Zn,getElem?_zipWith → Zo,pairwise_append → Zp,getElem?_append → Zq,map_cons → Zr,append_of_mem → Zt,pairwise_cons → Zu,ext_getElem? → Z0,cons_append → Z1,cons → Z3
open Nat renaming le_refl → Qk,zero_add → Q5,lt_of_lt_of_le → Zc,add_assoc → Zs,lt_or_eq_of_le → Zv,lt_or_ge → Zx,add_comm → Zy,le_trans → Zz,strongRecOn → Z2
open Bool renaming and_eq_true → Qb,false_or → Qy,false_eq_true → Zd,or_eq_true → Zi
open Option renaming map_eq_some_iff → Qa,some → Qc,map_some → Qg,bind_eq_some_iff → Qh,bind_eq_bind → Qm,pure_def → Qu,isNone_some → Zw
namespace Go.Fam
variable {S : Nat → Prop} {w : World} {O : OInfo} {hp : List Blk}
inductive Anc (ops : Array Oper) : Nat → Nat → Prop
 | base {i j : Nat} {o : Oper} {e : Edge} (ho : ops[j]? = some o) (he : e ∈ o.after) (hb : Region.binds .any e = true) (h : e.on = i) : Anc ops i j
 | step {i j : Nat} {o : Oper} {e : Edge} (ho : ops[j]? = some o) (he : e ∈ o.after) (hb : Region.binds .any e = true) (h : Anc ops i e.on) : Anc ops i j
def Qkm (S : Nat → Prop) (w : World) (O : OInfo) : Ext S S w { w with drawn := w.drawn + 1 } O O :=
 ⟨fun _ h => ⟨h,rfl⟩,fun _ g ob h => ⟨g,ob,h,Qk _,fun _ => ⟨rfl,fun _ cur _ _ hb => ⟨cur,hb,rfl⟩⟩⟩⟩
def Ql9 (S : Nat → Prop) (w : World) (O : OInfo) : Evol S S w { w with drawn := w.drawn + 1 } O O :=
 ⟨Qkm S w O,rfl,rfl,rfl,Qk _,fun _ _ => rfl,fun _ _ _ => rfl,fun _ h => .inl h,fun _ h => .inl h⟩
def Qoi (h : Mat S w O hp) : Mat S { w with drawn := w.drawn + 1 } O hp :=
 h.keep (Qkm S w O) (Qk _) (fun _ _ => rfl) h.lt fun k hk ⟨id,g,ho⟩ => (h.own id g k ho).2 hk
section
variable {P : Program} {F : Fence} {n : Nat} {Γ : Gam} {ops : Array Oper} {g : Bool} {base : Nat} {M : FrI} {N : Nat × Nat} {pu : List Nat}
def RunD.cons_split {x : Nat × RO × FP} {l : List (Nat × RO × FP)} {σ τ : St} (h : RunD Γ (Qar P) g base (x :: l) σ τ) :
  (eff Γ (Qar P) g base x.2.1 σ).1 ∧ RunD Γ (Qar P) g base l (Qaw Γ (Qar P) g base x.2.1 σ) τ := by
 obtain ⟨k,o,f⟩ := x
 exact ⟨h.1,h.2.2⟩
def Qp7 (hG : GOk P Γ) (hF : Qbz F) (hg : g = false → ∀ o ∈ ops,o.guard = none) {Q : Exit → Act → World → Prop} {τ : St} :
  ∀ (fuel : Nat) (rest : List (Nat × RO × FP)) (listed : Array Bool) (σ : St) (S : Nat → Prop) (w : World) (O : OInfo) (a : Act),
   rest.length ≤ fuel →
   (∀ i,listed.getD i true = false ↔ ∃ x ∈ rest,x.1 = i) →
   rest.Pairwise (fun x y => x.1 < y.1 ∧ (Anc ops x.1 y.1 ∨ Qp5 x y)) →
   (∀ x ∈ rest,∃ o,ops[x.1]? = some o ∧ resO P pu M.nm ops o = some { x.2.1 with nid := none } ∧ ∀ e ∈ o.after,Region.binds .any e = true → e.on < x.1) →
   (∀ i j,Anc ops i j → listed.getD j false = true → listed.getD i false = true) →
   (∀ i,i < ops.size → i < listed.size) →
   RunD Γ (Qar P) g base rest σ τ → SR M S w O σ a →
   (∀ S' w' O' a',Evol S S' w w' O O' → SR M S' w' O' τ a' → a'.defers = a.defers → Q .normal a' w') →
   wpAnyIn F n P .any ops Q fuel listed a w := by
 intro fuel
 induction fuel with
 | zero =>
  intro rest listed σ S w O a hf hl _ _ _ _ jB jL hK
  have hnil : rest = [] := Qw (by omega)
  subst hnil
  simp only [RunD] at jB
  subst jB
  refine ⟨?_,hK S w O a (Evol.refl _ _ _) jL rfl⟩
  rw [Q7]
  intro i hi
  rw [mem_ready] at hi
  obtain ⟨x,hx,_⟩ := (hl i).1 hi.1
  simp at hx
 | succ fuel ih =>
  intro rest listed σ S w O a hf hl hp hr hc hsz jB jL hK
  refine ⟨fun hnil => ?_,fun i hi => ?_⟩
  ·cases rest with
   | nil =>
    simp only [RunD] at jB
    subst jB
    exact hK S w O a (Evol.refl _ _ _) jL rfl
   | cons x rest =>
    exfalso
    obtain ⟨o,ho,_,hlt⟩ := hr x (by simp)
    have : x.1 ∈ Region.ready .any ops listed := by
     rw [mem_ready]
     refine ⟨(hl x.1).2 ⟨x,by simp,rfl⟩,o,ho,fun e he hb => ?_⟩
     have h1 := hlt e he hb
     have h2 : ¬ listed.getD e.on true = false := by
      rw [hl]
      rintro ⟨y,hy,mZ⟩
      rcases Qq.1 hy with rfl | hy
      ·omega
      ·have := (Ze hp hy).1; omega
     have h3 : x.1 < ops.size := (Array.getElem?_eq_some_iff.1 ho).1
     have h4 := hsz e.on (by omega)
     simp [h4] at h2 ⊢
     exact h2
    rw [hnil] at this
    simp at this
  ·have zP := hi
   rw [mem_ready] at hi
   obtain ⟨h0,o,ho,jR⟩ := hi
   obtain ⟨x,hx,cP⟩ := (hl i).1 h0
   subst cP
   obtain ⟨A,B,rfl⟩ := Zt hx
   obtain ⟨o',ho',hro,hlt⟩ := hr x (by simp)
   rw [ho] at ho'
   cases ho'
   have wI := Zp.1 hp
   have i9 := Zu.1 wI.2.1
   have bI : ∀ y ∈ A,Qp5 y x := by
    intro y hy
    rcases (wI.2.2 y hy x (by simp)).2 with h | h
    ·exfalso
     have m7 : listed.getD y.1 true = false := (hl y.1).2 ⟨y,by simp [hy],rfl⟩
     have i7 : listed.getD y.1 false = true := by
      cases h with
      | base ho' he hb h =>
       rw [ho] at ho'; cases ho'
       rw [← h]
       exact jR _ he hb
      | step ho' he hb h =>
       rw [ho] at ho'; cases ho'
       exact hc _ _ h (jR _ he hb)
     cases kA : listed[y.1]? with
     | none => simp [kA] at m7
     | some b => simp [kA] at m7 i7; simp_all
    ·exact h
   have lA := RunD.move A σ jB bI
   obtain ⟨jA,kQ⟩ := lA.cons_split
   obtain ⟨dX,hs2⟩ := Qo4 jA
   refine Qm6 hG hF ho hro (fun bJ => hg bJ o (Array.mem_of_getElem? ho)) jL dX ?_
   intro S' w' O' a' jD vQ xH
   rw [hs2] at vQ
   refine ih (A ++ B) (listed.setIfInBounds x.1 true) _ S' w' O' a' ?_ ?_ ?_ ?_ ?_ ?_ kQ vQ ?_
   ·simp at hf ⊢; omega
   ·intro i
    by_cases qC : i = x.1
    ·subst qC
     have yE : x.1 < listed.size := hsz _ (Array.getElem?_eq_some_iff.1 ho).1
     simp [yE]
     intro k r
     refine ⟨fun hm => ?_,fun hm => ?_⟩
     ·have := (wI.2.2 _ hm x (by simp)).1; simp at this
     ·have := (i9.1 _ hm).1; simp at this
    ·rw [getD_set_ne true (Ne.symm qC),hl]
     constructor
     ·rintro ⟨y,hy,rfl⟩
      refine ⟨y,?_,rfl⟩
      simp only [Qn,Qq] at hy ⊢
      rcases hy with h | h | h
      ·exact .inl h
      ·subst h; exact absurd rfl qC
      ·exact .inr h
     ·rintro ⟨y,hy,rfl⟩
      exact ⟨y,by simp only [Qn,Qq] at hy ⊢; rcases hy with h | h <;> simp [h],rfl⟩
   ·refine List.Pairwise.sublist ?_ hp
    exact Zg.append (Zg.refl _) (Zh _ _)
   ·intro y hy
    refine hr y ?_
    simp only [Qn,Qq] at hy ⊢
    rcases hy with h | h <;> simp [h]
   ·intro i j yL hj
    by_cases d7 : j = x.1
    ·subst d7
     refine getD_set_true ?_
     cases yL with
     | base ho' he hb h =>
      rw [ho] at ho'; cases ho'
      rw [← h]
      exact jR _ he hb
     | step ho' he hb h =>
      rw [ho] at ho'; cases ho'
      exact hc _ _ h (jR _ he hb)
    ·rw [getD_set_ne false (Ne.symm d7)] at hj
     exact getD_set_true (hc i j yL hj)
   ·intro i hi
    simpa using hsz i hi
   ·intro S'' w'' O'' a'' zQ hsr'' xV
    exact hK S'' w'' O'' a'' (jD.trans zQ) hsr'' (xV.trans xH)
def RunD.gh : ∀ (l : List (Nat × RO × FP)) (σ τ : St) {y : List V × Option (List (List V))},RunD Γ (Qar P) g base l σ τ → ghO σ.hp = some y → ghO τ.hp = some y
 | [],σ,τ,y,h,hy => by simp only [RunD] at h; subst h; exact hy
 | (k,o,f) :: l,σ,τ,y,h,hy => RunD.gh l _ _ h.2.2 (Zi6 h.1 hy)
structure AnyOp where
 o : RO
 js : List Nat
 an : List Nat
def runX (Γ : Gam) (E : TypeId → Nat → Prop) (g : Bool) (base : Nat) : List AnyOp → List FP → St → (St → Prop) → Prop
 | [],_,σ,K => K σ
 | x :: l,done,σ,K => (eff Γ E g base x.o σ).1 ∧ (x.js.all fun j => Qmr (done.getD j ⟨none,[]⟩) (fpR Γ g base x.o σ)) = true ∧ runX Γ E g base l (done ++ [fpR Γ g base x.o σ]) (Qaw Γ E g base x.o σ) K
def RX.quiet : RX → Bool | .q _ => true | .w _ => false | .o _ _ => false
def Qsw (l : List AnyOp) : Bool :=
 (Q4 l.length).all fun j => match l[j]? with
  | none => true
  | some y => (Q4 j).all fun i => match l[i]? with
   | none => true
   | some x => y.an.contains i || (Qn2 x.o y.o && (y.js.contains i || (x.o.x.quiet && y.o.x.quiet) || lkmB x.o y.o))
def ancB (ops : Array Oper) (l : List AnyOp) : Bool :=
 (Q4 ops.size).all fun j => match ops[j]?,l[j]? with
  | some o,some y => (o.after.all fun e => !(Region.binds .any e) || decide (e.on < j)) &&
    y.an.all fun i => o.after.any fun e => Region.binds .any e && (e.on == i || match l[e.on]? with | some z => z.an.contains i | none => false)
  | _,_ => false
def Qdq {l : List AnyOp} (h : ancB ops l = true) : ∀ (j : Nat) (y : AnyOp),l[j]? = some y → j < ops.size → (∀ i ∈ y.an,Anc ops i j) ∧ ∀ o,ops[j]? = some o → ∀ e ∈ o.after,Region.binds .any e = true → e.on < j := by
 intro j
 induction j using Z2 with
 | _ j ih =>
  intro y hy hj
  have h1 := Qj.1 h j (by simpa using hj)
  obtain ⟨o,ho⟩ : ∃ o,ops[j]? = some o := ⟨ops[j],by simp [hj]⟩
  simp only [ho,hy,Qb] at h1
  have hlt : ∀ e ∈ o.after,Region.binds .any e = true → e.on < j := by
   intro e he hb
   have := Array.all_eq_true_iff_forall_mem.1 h1.1 e he
   simpa [hb] using this
  refine ⟨fun i hi => ?_,fun o' ho' => by rw [ho] at ho'; cases ho'; exact hlt⟩
  have h2 := Qj.1 h1.2 i hi
  rw [Array.any_eq_true] at h2
  obtain ⟨k,hk,h3⟩ := h2
  simp only [Qb,Zi] at h3
  have kR : o.after[k] ∈ o.after := Array.getElem_mem hk
  rcases h3.2 with h4 | h4
  ·exact .base ho kR h3.1 (by simpa using h4)
  ·cases hz : l[(o.after[k]).on]? with
   | none => simp [hz] at h4
   | some z =>
    simp only [hz] at h4
    have hl := hlt _ kR h3.1
    exact .step ho kR h3.1 ((ih _ hl z hz (by omega)).1 i (by simpa using h4))
def Qqa {l : List AnyOp} : ∀ (k : Nat) (done : List FP) (σ : St) (K : St → Prop),runX Γ (Qar P) g base l done σ K → k = done.length →
  ∃ fs : List FP,∃ τ,fs.length = l.length ∧ RunD Γ (Qar P) g base ((Qd k l.length).zip ((l.map (·.o)).zip fs)) σ τ ∧ K τ ∧
   ∀ q y f,l[q]? = some y → fs[q]? = some f → ∀ j ∈ y.js,Qmr ((done ++ fs).getD j ⟨none,[]⟩) f = true ∨ k + q ≤ j := by
 induction l with
 | nil => intro k done σ K h _; exact ⟨[],σ,rfl,(by simp [RunD]),h,by simp⟩
 | cons x l ih =>
  intro k done σ K h hk
  obtain ⟨h1,h2,h3⟩ := h
  obtain ⟨fs,τ,hl,jB,hK,hd⟩ := ih (k + 1) _ _ _ h3 (by simp [hk])
  refine ⟨fpR Γ g base x.o σ :: fs,τ,by simp [hl],?_,hK,?_⟩
  ·simp only [Q3,Qp,Zr,List.zip_cons_cons,RunD]
   exact ⟨h1,trivial,jB⟩
  ·intro q y f hy hf j hj
   cases q with
   | zero =>
    simp at hy hf
    subst hy hf
    by_cases u6 : k ≤ j
    ·exact .inr (by omega)
    ·left
     have := Qj.1 h2 j hj
     have hlt : j < done.length := by omega
     simpa [Qo hlt] using this
   | succ q =>
    simp at hy hf
    have := hd q y f hy hf j hj
    rcases this with h | h
    ·left; simpa using h
    ·right; omega
def RunD.quiet : ∀ (l : List (Nat × RO × FP)) (σ τ : St),RunD Γ (Qar P) g base l σ τ → ∀ x ∈ l,x.2.1.x.quiet = true → x.2.2.wr = []
 | [],_,_,_ => by simp
 | (k,o,f) :: l,σ,τ,h => by
  intro x hx hq
  obtain ⟨_,h2,h3⟩ := h
  rcases Qq.1 hx with rfl | hx
  ·simp only at hq ⊢
   rw [← h2]
   unfold fpR
   cases ho : o.x with
   | q q => rfl
   | w q => rw [ho] at hq; cases hq
   | o f xs => rw [ho] at hq; cases hq
  ·exact RunD.quiet l _ _ h3 x hx hq
def Qup (P : Program) (pu : List Nat) (N : Nat × Nat) (ops : Array Oper) (l : List AnyOp) : Prop :=
 ops.toList.map (fun o => resO P pu N ops o) = l.map fun x => some { x.o with nid := none }
def Que (hG : GOk P Γ) (hF : Qbz F) (hm : P.follows .mixedOrders = true) {l : List AnyOp} (hl : Qup P pu M.nm ops l) (hp : Qsw l = true) (ha : ancB ops l = true)
  (hg : g = false → ∀ o ∈ ops,o.guard = none) {Q : Exit → Act → World → Prop} {σ : St} {S : Nat → Prop} {w : World} {O : OInfo} {a : Act} {K : St → Prop} {id : Nat}
  (jB : runX Γ (Qar P) g base l [] σ K) (jL : SR M S w O σ a)
  (hK : ∀ τ S' w' O' a',K τ → (∀ y,ghO σ.hp = some y → ghO τ.hp = some y) → Evol S S' w w' O O' → SR M S' w' O' τ a' → a'.defers = a.defers → Q .normal a' w') : (Code.region id ops true).wpIn F n P Q a w := by
 obtain ⟨fs,τ,uM,hr,hKτ,hd⟩ := Qqa 0 [] σ K jB rfl
 have hlen : l.length = ops.size := by
  have := congrArg Qx hl
  simpa using this.symm
 refine wpIn_region_any hm ?_
 have jO : ∀ x ∈ (Qd 0 l.length).zip ((l.map (·.o)).zip fs),∃ y,l[x.1]? = some y ∧ y.o = x.2.1 ∧ fs[x.1]? = some x.2.2 := by
  rintro ⟨i,o,f⟩ hx
  obtain ⟨q,hq⟩ := Qv hx
  rw [Qe] at hq
  obtain ⟨q1,q2⟩ := hq
  rw [Qe] at q2
  obtain ⟨q2,q3⟩ := q2
  have lB : i = q := by
   rw [Qz] at q1
   ·simpa using q1.symm
   ·have := Qag q1; simpa using this
  subst lB
  rw [Qf,Qa] at q2
  obtain ⟨y,hy,rfl⟩ := q2
  exact ⟨y,hy,rfl,q3⟩
 have wJ : ∀ (i : Nat) (y : AnyOp),l[i]? = some y → ∃ o,ops[i]? = some o ∧ resO P pu M.nm ops o = some { y.o with nid := none } := by
  intro i y hy
  have hlt : i < ops.size := by rw [← hlen]; exact Qag hy
  refine ⟨ops[i],by simp [hlt],?_⟩
  have := congrArg (fun l => l[i]?) hl
  simpa [hy,hlt] using this
 have hz : ∀ i x f,l[i]? = some x → fs[i]? = some f → (i,x.o,f) ∈ (Qd 0 l.length).zip ((l.map (·.o)).zip fs) := by
  intro i x f hx hf
  refine Q0 (i := i) ?_
  rw [Qe]
  have := Qag hx
  refine ⟨by rw [Qz this]; simp,?_⟩
  rw [Qe]
  exact ⟨by simp [hx],hf⟩
 have zR : ∀ i j x y,l[i]? = some x → l[j]? = some y → i < j → Anc ops i j ∨ ∀ fx fy,fs[i]? = some fx → fs[j]? = some fy → Qp5 (i,x.o,fx) (j,y.o,fy) := by
  intro i j x y hx hy yL
  have vY := Qag hy
  have h1 := Qj.1 hp j (by simpa using vY)
  simp only [hy] at h1
  have h2 := Qj.1 h1 i (by simpa using yL)
  simp only [hx,Zi,Qb] at h2
  rcases h2 with h2 | ⟨h2,h3⟩
  ·exact .inl ((Qdq ha j y hy (by omega)).1 i (by simpa using h2))
  ·right
   intro fx fy qD d8
   refine ⟨h2,?_⟩
   rcases h3 with (h3 | h3) | h3
   rotate_right
   ·exact .inr h3
   all_goals refine .inl ?_
   ·have := hd j y fy hy d8 i (by simpa using h3)
    rcases this with h4 | h4
    ·simpa [qD] using h4
    ·omega
   ·have e1 := RunD.quiet _ _ _ hr _ (hz i x fx hx qD) h3.1
    have e2 := RunD.quiet _ _ _ hr _ (hz j y fy hy d8) h3.2
    simp only at e1 e2
    simp [Qmr,hits,e1,e2]
 refine Qp7 hG hF hg (pu := pu) (M := M) ops.size _ _ σ S _ O a ?_ ?_ ?_ ?_ ?_ ?_ hr ?_ ?_
 ·simp [hlen,uM]
 ·intro i
  constructor
  ·intro h
   have hi : i < ops.size := by
    rcases Zx i ops.size with h' | h'
    ·exact h'
    ·simp [Nat.not_lt.2 h'] at h
   have h1 : i < l.length := by omega
   have h2 : i < fs.length := by omega
   exact ⟨_,hz i l[i] fs[i] (by simp [h1]) (by simp [h2]),rfl⟩
  ·rintro ⟨x,hx,rfl⟩
   obtain ⟨y,hy,_⟩ := jO x hx
   have := Qag hy
   have h2 : x.1 < ops.size := by omega
   simp [h2]
 ·rw [Zf]
  intro i j hi hj yL
  obtain ⟨x,hx,lC,uE⟩ := jO _ (Q8 hi)
  obtain ⟨y,hy,bK,iC⟩ := jO _ (Q8 hj)
  have ei : (((Qd 0 l.length).zip ((l.map (·.o)).zip fs))[i]).1 = i := by simp
  have ej : (((Qd 0 l.length).zip ((l.map (·.o)).zip fs))[j]).1 = j := by simp
  rw [ei] at hx uE
  rw [ej] at hy iC
  rw [ei,ej]
  refine ⟨yL,(zR i j x y hx hy yL).imp (fun h => h) fun h => ?_⟩
  have := h _ _ uE iC
  rw [lC,bK] at this
  exact this
 ·intro x hx
  obtain ⟨y,hy,bK,_⟩ := jO x hx
  obtain ⟨o,ho,hr'⟩ := wJ _ _ hy
  refine ⟨o,ho,by rw [← bK]; exact hr',fun e he hb => ?_⟩
  exact (Qdq ha _ y hy (Array.getElem?_eq_some_iff.1 ho).1).2 o ho e he hb
 ·intro i j _ hj
  exfalso
  by_cases h : j < ops.size <;> simp [h] at hj
 ·intro i hi
  simpa using hi
 ·exact ⟨jL.size,jL.kept,jL.fr.ext (Qkm _ _ _),Qoi jL.mat⟩
 ·intro S' w' O' a' jD vQ xH
  exact hK τ S' w' O' a' hKτ (fun y hy => RunD.gh _ _ _ hr hy) ((Ql9 S w O).trans jD) vQ xH
def Zfe (hG : GOk P Γ) (hF : Qbz F) (hg : g = false → ∀ o ∈ ops,o.guard = none) {Q : Exit → Act → World → Prop} {K : St → Prop} :
  ∀ (l : List RO) (k : Nat) (σ : St) (S : Nat → Prop) (w : World) (O : OInfo) (a : Act),(∀ q r,l[q]? = some r → ∃ o,ops[k + q]? = some o ∧ resO P pu M.nm ops o = some { r with nid := none }) →
   runR Γ (Qar P) g base l σ K → SR M S w O σ a →
   (∀ τ S' w' O' a',K τ → (∀ y,ghO σ.hp = some y → ghO τ.hp = some y) → Evol S S' w w' O O' → SR M S' w' O' τ a' → a'.defers = a.defers → Q .normal a' w') →
   wpOpsIn F n P ops Q (Qd k l.length) a w := by
 intro l
 induction l with
 | nil => intro k σ S w O a _ jB jL hK; exact hK σ S w O a jB (fun _ h => h) (Evol.refl _ _ _) jL rfl
 | cons r l ih =>
  intro k σ S w O a xP jB jL hK
  obtain ⟨jA,jB⟩ := jB
  rw [Q3,Qp,wpOpsIn_cons]
  obtain ⟨o,ho,hro⟩ := xP 0 r rfl
  refine Qm6 hG hF ho hro (fun bJ => hg bJ o (Array.mem_of_getElem? ho)) jL jA ?_
  intro S' w' O' a' jD vQ xH
  refine ih (k + 1) _ S' w' O' a' ?_ jB vQ fun τ S'' w'' O'' a'' hKτ hgh zQ hsr'' xV => hK τ S'' w'' O'' a'' hKτ (fun y hy => hgh y (Qmm jA hy)) (jD.trans zQ) hsr'' (xV.trans xH)
  intro q r' hr'
  have := xP (q + 1) r' (by simpa using hr')
  rwa [Zy q 1,← Zs] at this
def Quu (P : Program) (pu : List Nat) (N : Nat × Nat) (ops : Array Oper) (l : List RO) : Prop :=
 ops.toList.map (fun o => resO P pu N ops o) = l.map fun x => some { x with nid := none }
def Qrf (hG : GOk P Γ) (hF : Qbz F) {l : List RO} (hl : Quu P pu M.nm ops l)
  (hg : g = false → ∀ o ∈ ops,o.guard = none) {Q : Exit → Act → World → Prop} {σ : St} {S : Nat → Prop} {w : World} {O : OInfo} {a : Act} {K : St → Prop} {id : Nat}
  (jB : runR Γ (Qar P) g base l σ K) (jL : SR M S w O σ a)
  (hK : ∀ τ S' w' O' a',K τ → (∀ y,ghO σ.hp = some y → ghO τ.hp = some y) → Evol S S' w w' O O' → SR M S' w' O' τ a' → a'.defers = a.defers → Q .normal a' w') : (Code.region id ops false).wpIn F n P Q a w := by
 have hlen : l.length = ops.size := by
  have := congrArg Qx hl
  simpa using this.symm
 refine wpIn_region ?_
 rw [Qr,← hlen]
 refine Zfe hG hF hg (pu := pu) (g := g) l 0 σ S w O a ?_ jB jL hK
 intro q r hq
 have hlt : q < ops.size := by rw [← hlen]; exact Qag hq
 refine ⟨ops[q],by simp [hlt],?_⟩
 have := congrArg (fun l => l[q]?) hl
 simpa [hq,hlt] using this
end
end Go.Fam
namespace Go.Fam
variable {S : Nat → Prop} {w : World} {O : OInfo} {hp : List Blk}
def lkp : List (Nat × V) → Nat → V
 | [],_ => .u
 | (k,v) :: l,t => if t = k then v else lkp l t
mutual
def upV (n : Nat) : V → V
 | .ad id g off => if id < n then .u else .ad id g off
 | .rf id g off len es => if id < n then .u else .rf id g off len es
 | .mp id g => if id < n then .u else .mp id g
 | .it id g => if id < n then .u else .it id g
 | .ag cs => .ag (upL n cs)
 | .tp cs => .tp (upL n cs)
 | .fn f cs => .fn f (upL n cs)
 | .gv q v => .gv q (upV n v)
 | v => v
def upL (n : Nat) : List V → List V
 | [] => []
 | v :: vs => upV n v :: upL n vs
end
def upB (n : Nat) : Blk → Blk
 | .cells g vs => .cells g (upL n vs)
 | .map st ks vs => .map st ks (upL n vs)
 | .iter mid k l c => if mid < n then .dead 0 else .iter mid k l c
 | b => b
def Qf4 (n : Nat) : ∀ vs : List V,(upL n vs).length = vs.length
 | [] => rfl
 | _ :: vs => by simp [upL,Qf4 n vs]
mutual
theorem Qxl {S : Nat → Prop} {w : World} {O : OInfo} {n : Nat} : ∀ (v : V) (c : Value),Rep S w O v c → Rep S w (Qh1 O n) (upV n v) c
 | .u,_,_ => by simp [upV,Rep]
 | .b x,c,h => by simpa [upV,Rep] using h
 | .i x,c,h => by simpa [upV,Rep] using h
 | .z es,c,h => by simpa [upV,Rep] using h
 | .sl es rows,c,h => by simpa only [upV,Rep] using h
 | .sx es rows,c,h => by simpa only [upV,Rep] using h
 | .pa cs,c,h => by simpa only [upV,Rep] using h
 | .pn,c,h => by simpa [upV,Rep] using h
 | .yl l,c,h => by simpa [upV,Rep] using h
 | .w k n,c,h => by simpa [upV,Rep] using h
 | .pm st ks vs,c,h => by simpa only [upV,Rep] using h
 | .fb f bs,c,h => by simpa only [upV,Rep] using h
 | .ag cs,c,h => by
  simp only [upV,Rep] at h ⊢
  obtain ⟨ccs,hc,hn,hr⟩ := h
  exact ⟨ccs,hc,by rw [Qf4]; exact hn,Qjv cs _ hr⟩
 | .tp cs,c,h => by
  simp only [upV,Rep] at h ⊢
  obtain ⟨ccs,hc,hn,hr⟩ := h
  exact ⟨ccs,hc,by rw [Qf4]; exact hn,Qjv cs _ hr⟩
 | .fn f cs,c,h => by
  simp only [upV,Rep] at h ⊢
  obtain ⟨ccs,hc,hn,hr⟩ := h
  exact ⟨ccs,hc,by rw [Qf4]; exact hn,Qjv cs _ hr⟩
 | .gv q v,c,h => by
  simp only [upV,Rep] at h ⊢
  exact ⟨fun hq => Qxl v c (h.1 hq),h.2⟩
 | .ad id g off,c,h => by
  simp only [upV]
  split
  ·simp [Rep]
  ·rename_i hl; simpa only [Rep,Qh1,if_neg hl] using h
 | .rf id g off len es,c,h => by
  simp only [upV]
  split
  ·simp [Rep]
  ·rename_i hl; simpa only [Rep,Qh1,if_neg hl] using h
 | .mp id g,c,h => by
  simp only [upV]
  split
  ·simp [Rep]
  ·rename_i hl; simpa only [Rep,Qh1,if_neg hl] using h
 | .it id g,c,h => by
  simp only [upV]
  split
  ·simp [Rep]
  ·rename_i hl; simpa only [Rep,Qh1,if_neg hl] using h
theorem Qjv {S : Nat → Prop} {w : World} {O : OInfo} {n : Nat} : ∀ (vs : List V) (cs : List Value),RepL S w O vs cs → RepL S w (Qh1 O n) (upL n vs) cs
 | [],_,_ => by simp [upL,RepL]
 | _ :: _,[],h => by simp [RepL] at h
 | v :: vs,c :: cs,h => by
  simp only [upL,RepL] at h ⊢
  exact ⟨Qxl v c h.1,Qjv vs cs h.2⟩
end
def hpF (n : Nat) (hp : List Blk) : List Blk := (hp.take n).map (fun _ => .hole) ++ (hp.drop n).map (upB n)
mutual
def cutV (hp : List Blk) (n : Nat) : V → V
 | .ad id g off => if id < n then .ad id g off else vw (hpF n hp) 8 (.ad id g off)
 | .rf id g off len es => if id < n then .rf id g off len es else vw (hpF n hp) 8 (.rf id g off len es)
 | .mp id g => if id < n then .mp id g else vw (hpF n hp) 8 (.mp id g)
 | .it id g => if id < n then .it id g else .u
 | .ag cs => .ag (cutL hp n cs)
 | .tp cs => .tp (cutL hp n cs)
 | .fn f cs => .fn f (cutL hp n cs)
 | .gv q v => .gv q (cutV hp n v)
 | v => v
def cutL (hp : List Blk) (n : Nat) : List V → List V
 | [] => []
 | v :: vs => cutV hp n v :: cutL hp n vs
end
def cutB (hp : List Blk) (n : Nat) : Blk → Blk
 | .cells g vs => .cells g (cutL hp n vs)
 | .map st ks vs => .map st ks (cutL hp n vs)
 | .iter mid k l c => if mid < n then .iter mid k l c else .dead 0
 | b => b
def Qe1 (hp : List Blk) (n : Nat) : ∀ vs : List V,(cutL hp n vs).length = vs.length
 | [] => rfl
 | _ :: vs => by simp [cutL,Qe1 hp n vs]
def Qbj {n id : Nat} {x : Nat × Option Nat} (h : Qh1 O n id = some x) : n ≤ id ∧ O id = some x := by
 unfold Qh1 at h
 split at h
 ·cases h
 ·rename_i hl; exact ⟨by omega,h⟩
def Qbk {n id : Nat} {x : Nat × Option Nat} (h : Qby O n id = some x) : id < n ∧ O id = some x := by
 unfold Qby at h
 split at h
 ·rename_i hl; exact ⟨hl,h⟩
 ·cases h
def Qoa (h : Mat S w O hp) (n : Nat) : Mat S w (Qh1 O n) (hpF n hp) := by
 have hx : Ext S S w w O O := Ext.refl S w O
 refine ⟨h.lt,fun id g b ho => h.own id g b (Qbj ho).2,fun id id' g g' b h1 h2 => h.inj id id' g g' b (Qbj h1).2 (Qbj h2).2,fun id g ob ho => ?_⟩
 obtain ⟨hl,ho⟩ := Qbj ho
 have hb := h.blk id g ob ho
 have hlt : id < hp.length := by
  rcases Zx id hp.length with h' | h'
  ·exact h'
  ·rw [Zm h'] at hb; exact hb.elim
 have hg : (hpF n hp)[id]? = (hp[id]?).map (upB n) := by
  unfold hpF
  rw [Qt (by simp; omega)]
  simp only [Zj,List.length_take,Qf,Za]
  congr 2
  omega
 rw [hg]
 cases jF : hp[id]? with
 | none => rw [jF] at hb; exact hb.elim
 | some b =>
  rw [jF] at hb
  cases b with
  | hole => exact hb.elim
  | gh c y => exact hb.elim
  | dead g' => exact hb
  | map st ks vs =>
   simp only [Qb6,Qg,upB] at hb ⊢
   obtain ⟨h0,b,es,vT,hh,h1,h3,h4,h5⟩ := hb
   exact ⟨h0,b,es,vT,hh,h1,Qjv _ _ h3,by rw [Qf4]; exact h4,h5⟩
  | iter mid k l c =>
   simp only [Qb6,Qg,upB] at hb ⊢
   obtain ⟨h0,b,m,seen,vT,hh,h1,h2⟩ := hb
   by_cases vK : mid < n
   ·rw [if_pos vK]; exact h0.symm
   ·rw [if_neg vK]
    refine ⟨h0,b,m,seen,vT,hh,?_,h2⟩
    have := Qxl (n := n) (.mp mid 0) _ h1
    simpa only [upV,if_neg vK] using this
  | cells g' vs =>
   simp only [Qb6,Qg,upB] at hb ⊢
   refine ⟨hb.1,?_⟩
   cases ob with
   | none => simp only at hb ⊢; rw [hb.2]; rfl
   | some b =>
    obtain ⟨cur,e,hh,kH,h1⟩ := hb.2
    exact ⟨cur,e,hh,Qjv _ _ kH,h1⟩
mutual
theorem Qj8 {S : Nat → Prop} {w : World} {O : OInfo} {hp : List Blk} (hm : Mat S w O hp) (n : Nat) : ∀ (v : V) (c : Value),Rep S w O v c → Rep (cutS S O n) w (Qby O n) (cutV hp n v) c
 | .u,_,_ => by simp [cutV,Rep]
 | .b x,c,h => by simpa [cutV,Rep] using h
 | .i x,c,h => by simpa [cutV,Rep] using h
 | .z es,c,h => by simpa [cutV,Rep] using h
 | .sl es rows,c,h => by
  have h' : Rep S w noO (.sl es rows) c := by simpa only [Rep] using h
  simpa only [cutV] using Rep.ext ⟨fun k hk => ⟨.inl hk,rfl⟩,fun _ _ _ h => by cases h⟩ _ _ h'
 | .sx es rows,c,h => by
  have h' : Rep S w noO (.sx es rows) c := by simpa only [Rep] using h
  simpa only [cutV] using Rep.ext ⟨fun k hk => ⟨.inl hk,rfl⟩,fun _ _ _ h => by cases h⟩ _ _ h'
 | .pa cs,c,h => by
  have h' : Rep S w noO (.pa cs) c := by simpa only [Rep] using h
  simpa only [cutV] using Rep.ext ⟨fun k hk => ⟨.inl hk,rfl⟩,fun _ _ _ h => by cases h⟩ _ _ h'
 | .pn,c,h => by simpa [cutV,Rep] using h
 | .yl l,c,h => by simpa [cutV,Rep] using h
 | .w k n,c,h => by simpa [cutV,Rep] using h
 | .fb f bs,c,h => by
  have h' : Rep S w noO (.fb f bs) c := by simpa only [Rep] using h
  simpa only [cutV] using Rep.ext ⟨fun k hk => ⟨.inl hk,rfl⟩,fun _ _ _ h => by cases h⟩ _ _ h'
 | .pm st ks vs,c,h => by
  have h' : Rep S w noO (.pm st ks vs) c := by simpa only [Rep] using h
  simpa only [cutV] using Rep.ext ⟨fun k hk => ⟨.inl hk,rfl⟩,fun _ _ _ h => by cases h⟩ _ _ h'
 | .ag cs,c,h => by
  simp only [cutV,Rep] at h ⊢
  obtain ⟨ccs,hc,hn,hr⟩ := h
  exact ⟨ccs,hc,by rw [Qe1]; exact hn,Qgm hm n cs _ hr⟩
 | .tp cs,c,h => by
  simp only [cutV,Rep] at h ⊢
  obtain ⟨ccs,hc,hn,hr⟩ := h
  exact ⟨ccs,hc,by rw [Qe1]; exact hn,Qgm hm n cs _ hr⟩
 | .fn f cs,c,h => by
  simp only [cutV,Rep] at h ⊢
  obtain ⟨ccs,hc,hn,hr⟩ := h
  exact ⟨ccs,hc,by rw [Qe1]; exact hn,Qgm hm n cs _ hr⟩
 | .gv q v,c,h => by
  simp only [cutV,Rep] at h ⊢
  exact ⟨fun hq => Qj8 hm n v c (h.1 hq),h.2⟩
 | .ad id g off,c,h => by
  simp only [cutV]
  split
  ·rename_i hl; simpa only [Rep,Qby,if_pos hl] using h
  ·rename_i hl
   have h' : Rep S w (Qh1 O n) (.ad id g off) c := by simpa only [Rep,Qh1,if_neg hl] using h
   exact Qmc (Qmp (Qoa hm n) 8 _ _ h')
 | .rf id g off len es,c,h => by
  simp only [cutV]
  split
  ·rename_i hl; simpa only [Rep,Qby,if_pos hl] using h
  ·rename_i hl
   have h' : Rep S w (Qh1 O n) (.rf id g off len es) c := by simpa only [Rep,Qh1,if_neg hl] using h
   exact Qmc (Qmp (Qoa hm n) 8 _ _ h')
 | .mp id g,c,h => by
  simp only [cutV]
  split
  ·rename_i hl; simpa only [Rep,Qby,if_pos hl] using h
  ·rename_i hl
   have h' : Rep S w (Qh1 O n) (.mp id g) c := by simpa only [Rep,Qh1,if_neg hl] using h
   exact Qmc (Qmp (Qoa hm n) 8 _ _ h')
 | .it id g,c,h => by
  simp only [cutV]
  split
  ·rename_i hl; simpa only [Rep,Qby,if_pos hl] using h
  ·simp [Rep]
theorem Qgm {S : Nat → Prop} {w : World} {O : OInfo} {hp : List Blk} (hm : Mat S w O hp) (n : Nat) : ∀ (vs : List V) (cs : List Value),RepL S w O vs cs → RepL (cutS S O n) w (Qby O n) (cutL hp n vs) cs
 | [],_,_ => by simp [cutL,RepL]
 | _ :: _,[],h => by simp [RepL] at h
 | v :: vs,c :: cs,h => by
  simp only [cutL,RepL] at h ⊢
  exact ⟨Qj8 hm n v c h.1,Qgm hm n vs cs h.2⟩
end
def Qo0 (h : Mat S w O hp) (n : Nat) : Mat (cutS S O n) w (Qby O n) ((hp.take n).map (cutB hp n)) := by
 refine ⟨fun k hk => ?_,fun id g b ho => ?_,fun id id' g g' b h1 h2 => h.inj id id' g g' b (Qbk h1).2 (Qbk h2).2,fun id g ob ho => ?_⟩
 ·rcases hk with hk | ⟨id,g,ho⟩
  ·exact h.lt k hk
  ·exact (h.own id g k (Qbj ho).2).1
 ·obtain ⟨hl,ho⟩ := Qbk ho
  refine ⟨(h.own id g b ho).1,?_⟩
  rintro (hS | ⟨id',g',ho'⟩)
  ·exact (h.own id g b ho).2 hS
  ·have := h.inj id id' g g' b ho (Qbj ho').2
   have := (Qbj ho').1
   omega
 obtain ⟨hl,ho⟩ := Qbk ho
 have hb := h.blk id g ob ho
 rw [Qf,Zb,if_pos hl]
 cases jF : hp[id]? with
 | none => rw [jF] at hb; exact hb.elim
 | some b =>
  rw [jF] at hb
  cases b with
  | hole => exact hb.elim
  | gh c y => exact hb.elim
  | dead g' => exact hb
  | map st ks vs =>
   simp only [Qg,cutB,Qb6] at hb ⊢
   obtain ⟨h0,b,es,vT,hh,h1,h3,h4,h5⟩ := hb
   exact ⟨h0,b,es,vT,hh,h1,Qgm h n _ _ h3,by rw [Qe1]; exact h4,h5⟩
  | iter mid k l c =>
   simp only [Qg,cutB,Qb6] at hb ⊢
   obtain ⟨h0,b,m,seen,vT,hh,h1,h2⟩ := hb
   by_cases vK : mid < n
   ·rw [if_pos vK]
    refine ⟨h0,b,m,seen,vT,hh,?_,h2⟩
    have := Qj8 h n (.mp mid 0) _ h1
    simpa only [cutV,if_pos vK] using this
   ·rw [if_neg vK]; exact h0.symm
  | cells g' vs =>
   simp only [Qg,cutB,Qb6] at hb ⊢
   refine ⟨hb.1,?_⟩
   cases ob with
   | none => simp only at hb ⊢; rw [hb.2]; rfl
   | some b =>
    obtain ⟨cur,e,hh,kH,h1⟩ := hb.2
    exact ⟨cur,e,hh,Qgm h n _ _ kH,h1⟩
def Evol.cut {S S' : Nat → Prop} {w w' : World} (h : Evol S S' w w' noO O) (n : Nat) : Evol S (cutS S' O n) w w' noO (Qby O n) := by
 refine ⟨⟨fun k hk => ⟨.inl (h.ext.keep k hk).1,(h.ext.keep k hk).2⟩,fun _ _ _ h => (by cases h)⟩,h.os,h.tape,h.output,h.size,h.fz,h.old,fun k ⟨id,g,ho⟩ => h.fresh k ⟨id,g,(Qbk ho).2⟩,?_⟩
 rintro k (hk | ⟨id,g,ho⟩)
 ·exact h.grow k hk
 ·exact .inr (h.fresh k ⟨id,g,(Qbj ho).2⟩)
def Evol.less {S S' : Nat → Prop} {w w' : World} {O O' : OInfo} (h : Evol S S' w w' noO O) (ho : ∀ n,Own O' n → Own O n) : Evol S S' w w' noO O' :=
 ⟨⟨h.ext.keep,fun _ _ _ h => by cases h⟩,h.os,h.tape,h.output,h.size,h.fz,h.old,fun n hn => h.fresh n (ho n hn),h.grow⟩
def cutH (n : Nat) (hp : List Blk) : List Blk := (hp.take n).map (cutB hp n)
def sw (i j : Nat) (k : Nat) : Nat := if k = i then j else if k = j then i else k
mutual
def renV (f : Nat → Nat) : V → V
 | .ad id g off => .ad (f id) g off
 | .rf id g off len es => .rf (f id) g off len es
 | .mp id g => .mp (f id) g
 | .it id g => .it (f id) g
 | .ag cs => .ag (renL f cs)
 | .tp cs => .tp (renL f cs)
 | .fn g cs => .fn g (renL f cs)
 | .gv q v => .gv q (renV f v)
 | v => v
def renL (f : Nat → Nat) : List V → List V
 | [] => []
 | v :: vs => renV f v :: renL f vs
end
def renB (f : Nat → Nat) : Blk → Blk
 | .cells g vs => .cells g (renL f vs)
 | .map st ks vs => .map st ks (renL f vs)
 | .iter mid n l c => .iter (f mid) n l c
 | b => b
def swH (i j : Nat) (hp : List Blk) : List Blk := match hp[i]?,hp[j]? with
 | some a,some b => ((hp.set i b).set j a).map (renB (sw i j))
 | _,_ => []
inductive It where | r (o : RO) | w (o : RO) | h (o : RO) | y (lo d : Nat) (o : RO)
inductive RC where
 | itm (l : List It)
 | skip | reg (g : Bool) (l : List RO) | any (g : Bool) (m : Nat) (l : List AnyOp) | seq (a b : RC) | cond (c : Od) (a b : RC)
 | block (id : Nat) (a : RC) | loop (l : List Nat) (d : Option Nat) (a : RC) | exit (id : Nat) | ret
 | keep (l : List Nat) (a : RC) | drp (n : Nat) (a : RC) | own (t es : Nat) (a : RC) | ownc (t off es : Nat) (a : RC) | nxt (d m it : Nat) | swp (i j : Nat) (a : RC) | crl (g : Bool) (l1 : List RO) (y : RO) (l2 : List RO) | hcl (g : Bool) (l1 : List RO) (y : RO) (l2 : List RO) | no
 | yrx (g : Bool) (m1 : Nat) (l1 : List AnyOp) (y : AnyOp) (m2 : Nat) (l2 : List AnyOp)
 | rnl (g : Bool) (l1 : List RO) (y : RO) (l2 : List RO) | scp (a : RC) | dum (a : RC) | yrh (g : Bool) (l1 : List RO) (y : RO) (l2 : List RO) | rfh (f : Od) (ps : List Nat) (lo zl : Nat) (b a : RC)
instance : Inhabited RC := ⟨.skip⟩
def kp (l : List Nat) (d : Option Nat) (σ : St) : St := match d with
 | none => ⟨lkp (l.map fun t => (t,σ.fr t)),σ.hp⟩
 | some n => ⟨lkp (l.map fun t => (t,cutV σ.hp n (σ.fr t))),cutH n σ.hp⟩
def Qfw (K : St → Prop) (Q : Exit → St → Prop) : Exit → St → Prop
 | .normal,σ => K σ
 | e,σ => Q e σ
def Qhx (id : Nat) (Q : Exit → St → Prop) : Exit → St → Prop
 | .exit id',σ => if id' = id then Q .normal σ else Q (.exit id') σ
 | e,σ => Q e σ
def rnQ (K : St → Prop) : Exit → St → Prop
 | .normal,σ => K σ
 | _,_ => False
def rndQ (Q : Exit → St → Prop) (lo : Nat) (fr0 : Nat → V) (I : List Blk → Prop) : Exit → St → Prop
 | .normal,σ => I (cutH lo σ.hp)
 | .exit id,σ => Q (.exit id) ⟨fr0,cutH lo σ.hp⟩
 | .ret,σ => Q .ret ⟨fr0,cutH lo σ.hp⟩
 | _,_ => False
def exOf : Option Nat → Exit | some id => .exit id | none => .ret
def cdOf : Option Nat → Code | some id => .exit id | none => .ret
def updL (fr : Nat → V) : List Nat → List V → Nat → V
 | p :: ps,v :: vs => updL (upd fr (some p) v) ps vs
 | _,_ => fr
def rndH (Q : Exit → St → Prop) (lo zl : Nat) (fr0 : Nat → V) (z : List V) (al I : List V → Prop) : Exit → St → Prop
 | .normal,σ => ∃ bv,cutH (lo + zl) σ.hp = .hole :: (bv ++ z).map vB ∧ bv.length + 1 = lo ∧ al bv ∧ I bv
 | .exit id,σ => ∃ bv,cutH (lo + zl) σ.hp = .hole :: (bv ++ z).map vB ∧ bv.length + 1 = lo ∧ al bv ∧ Q (.exit id) ⟨fr0,.hole :: bv.map vB⟩
 | .ret,σ => ∃ bv,cutH (lo + zl) σ.hp = .hole :: (bv ++ z).map vB ∧ bv.length + 1 = lo ∧ al bv ∧ Q .ret ⟨fr0,.hole :: bv.map vB⟩
 | _,_ => False
def noGo (Q : Exit → St → Prop) : Exit → St → Prop
 | .goto _,_ => False
 | e,σ => Q e σ
def Zll : V → Bool
 | .yl _ => true
 | v => flat v
def yres (gd : Option (Nat × Bool)) (b : Bool) : V := match gd with | none => .b b | some _ => .gv true (.b b)
def slots (l : List Nat) (fr : Nat → V) : List (Nat × V) := l.map fun t => (t,fr t)
def drpS (d : Nat) (σ : St) : St := ⟨fun t => cutV σ.hp d (σ.fr t),cutH d σ.hp⟩
def rfA : V → Option (Nat × List V × Bool) | .fn gf caps => some (gf,caps,false) | .fb gf bs => some (gf,bs,true) | _ => none
def rfG (caps : List V) (sd : Bool) (l : Nat) : List V := if sd then caps ++ [.yl l] else .yl l :: caps
def runI (Γ : Gam) (E : TypeId → Nat → Prop) : List It → St → (St → Prop) → Prop
 | [],σ,K => K σ
 | .r o :: l,σ,K => (step Γ E true 0 o σ).1 ∧ runI Γ E l (step Γ E true 0 o σ).2 K
 | .w o :: l,σ,K => match Qdf σ.fr o.gd with
  | none => False
  | some false => runI Γ E l ⟨upd σ.fr o.dst (.gv false .u),σ.hp⟩ K
  | some true => (step Γ E true 0 o σ).1 ∧ runI Γ E l (step Γ E true 0 o σ).2 K
 | .h o :: l,σ,K => match Qdf σ.fr o.gd with
  | none => False
  | some false => runI Γ E l ⟨upd σ.fr o.dst (.gv false .u),σ.hp⟩ K
  | some true => match o.x with
   | .o f args => match opv true σ.fr f with
    | .fn gf caps => Qbp true o σ.fr ∧ (Γ.h gf (args.map (opv true σ.fr) ++ caps) σ.hp).1 ∧
      ∀ r hp',(Γ.h gf (args.map (opv true σ.fr) ++ caps) σ.hp).2 r hp' → runI Γ E l ⟨upd σ.fr o.dst r,hp'⟩ K
    | _ => False
   | _ => False
 | .y lo d o :: l,σ,K => match Qdf σ.fr o.gd with
  | none => False
  | some false => runI Γ E l ⟨upd σ.fr o.dst (.gv false .u),σ.hp⟩ K
  | some true => match o.x with
   | .o f args => match opv true (drpS d σ).fr f with
    | .fn gf caps => Qbp true o (drpS d σ).fr ∧ lo ≤ (drpS d σ).hp.length ∧ (Γ.y gf Γ.al (args.map (opv true (drpS d σ).fr) ++ caps) (drpS d σ).hp).1 ∧
      ∀ r hp',(Γ.y gf Γ.al (args.map (opv true (drpS d σ).fr) ++ caps) (drpS d σ).hp).2 r hp' → runI Γ E l ⟨upd (drpS d σ).fr o.dst r,hp'⟩ K
    | _ => False
   | _ => False
def wpR (Γ : Gam) (E : TypeId → Nat → Prop) : RC → (Exit → St → Prop) → St → Prop
 | .skip,Q,σ => Q .normal σ
 | .no,_,_ => False
 | .reg g l,Q,σ => runR Γ E g 0 l σ (Q .normal)
 | .any g m l,Q,σ => runX Γ E g σ.hp.length l [] ⟨σ.fr,σ.hp ++ Q1 m .hole⟩ (Q .normal)
 | .seq a b,Q,σ => wpR Γ E a (Qfw (wpR Γ E b Q) Q) σ
 | .cond c a b,Q,σ => match evO σ.fr c with
  | .b t => (t = true → wpR Γ E a Q σ) ∧ (t = false → wpR Γ E b Q σ)
  | _ => False
 | .block id a,Q,σ => wpR Γ E a (Qhx id Q) σ
 | .loop l d a,Q,σ => ∃ I : Nat → St → Prop,(∃ k,I k (kp l d σ)) ∧ ∀ k σ',I k σ' → wpR Γ E a (Qfw (fun σ'' => ∃ j,j < k ∧ I j (kp l d σ'')) Q) σ'
 | .exit id,Q,σ => Q (.exit id) σ
 | .ret,Q,σ => Q .ret σ
 | .keep l a,Q,σ => wpR Γ E a Q ⟨lkp (l.map fun t => (t,σ.fr t)),σ.hp⟩
 | .drp n a,Q,σ => wpR Γ E a Q ⟨fun t => cutV σ.hp n (σ.fr t),cutH n σ.hp⟩
 | .own t es a,Q,σ => match σ.fr t with
  | .z _ => wpR Γ E a Q ⟨upd σ.fr (some t) (.rf σ.hp.length 0 0 0 es),σ.hp ++ [.cells 0 []]⟩
  | _ => False
 | .ownc t off es a,Q,σ => match σ.fr t with
  | .ad id g o => match σ.hp[id]? with
   | some (.cells g' vs) => match vs[o + off]? with
    | some (.z _) => g' = g ∧ wpR Γ E a Q ⟨σ.fr,σ.hp.set id (.cells g (vs.set (o + off) (.rf σ.hp.length 0 0 0 es))) ++ [.cells 0 []]⟩
    | _ => False
   | _ => False
  | _ => False
 | .nxt d m it,Q,σ => match σ.fr it with
  | .it id g => match σ.hp[id]? with
   | some (.iter mid n left _) => match σ.hp[mid]? with
    | some (.map _ ks _) => g = 0 ∧ ks.length = n ∧ (left = [] → Q .normal ⟨upd (upd σ.fr (some d) .u) (some m) (.b false),σ.hp⟩) ∧
      ∀ j ∈ left,Q .normal ⟨upd (upd σ.fr (some d) .u) (some m) (.b true),σ.hp.set id (.iter mid n (left.erase j) (some j))⟩
    | _ => False
   | _ => False
  | _ => False
 | .itm l,Q,σ => runI Γ E l σ (Q .normal)
 | .rnl g l1 y l2,Q,σ => runR Γ E g 0 l1 σ fun σ1 => match y.x with
  | .q (.len a) => match opv g σ1.fr a with
   | .sl _ rows => Qbp g y σ1.fr ∧ ∀ b,(rows ≠ [] → b = false) → runR Γ E g 0 l2 ⟨upd σ1.fr y.dst (.b b),σ1.hp⟩ (Q .normal)
   | .z _ => Qbp g y σ1.fr ∧ ∀ b,runR Γ E g 0 l2 ⟨upd σ1.fr y.dst (.b b),σ1.hp⟩ (Q .normal)
   | _ => False
  | _ => False
 | .scp a,Q,σ => wpR Γ E a (noGo Q) σ
 | .dum a,Q,σ => wpR Γ E a Q ⟨σ.fr,σ.hp ++ [.hole]⟩
 | .yrh g l1 y l2,Q,σ => runR Γ E g 0 l1 σ fun σ1 => match Qdf σ1.fr y.gd with
  | none => False
  | some false => runR Γ E g 0 l2 ⟨upd σ1.fr y.dst (.gv false .u),σ1.hp⟩ (Q .normal)
  | some true => match y.x with
   | .o f args => match opv g σ1.fr f,σ1.hp with
    | .yl l,.gh caps (some ((.b true :: bv) :: [.tp x,.tp z] :: rest)) :: tl => Qbp g y σ1.fr ∧ caps[0]? = some (.yl l) ∧ args.map (opv g σ1.fr) = x ∧ tl = (bv ++ z).map vB ∧
      ∀ b bv',Γ.al bv' → runR Γ E g 0 l2 ⟨upd σ1.fr y.dst (yres y.gd b),.gh caps (some ((.b b :: bv') :: if b then rest else [])) :: (bv' ++ z).map vB⟩ (Q .normal)
    | _,_ => False
   | _ => False
 | .rfh f ps lo zl b a,Q,σ => match rfA (cutV σ.hp lo (evO σ.fr f)) with
  | some (gf,caps,sd) => ∃ (al : List V → Prop) (ys : Nat → List (List V × List V)) (bv0 : List V) (I : Nat → List V → Prop),cutH lo σ.hp = .hole :: bv0.map vB ∧ I 0 bv0 ∧
    (∀ k bv,I k bv → al bv) ∧ (∀ bv,al bv → bv.length + 1 = lo ∧ ∀ hp,(bv.map vB).map (cutB hp lo) = bv.map vB) ∧
    (∀ l,(Γ.y gf al (rfG caps sd l) (.gh (.yl l :: caps) (some ((.b true :: bv0) :: (ys l).map fun y => gyE y.1 y.2)) :: bv0.map vB)).1 ∧
     ∀ r hp',(Γ.y gf al (rfG caps sd l) (.gh (.yl l :: caps) (some ((.b true :: bv0) :: (ys l).map fun y => gyE y.1 y.2)) :: bv0.map vB)).2 r hp' →
      ∃ (b : Bool) (bv' : List V) (rest : List (List V)) (tl : List Blk),hp' = .gh (.yl l :: caps) (some ((.b b :: bv') :: rest)) :: (bv'.map vB ++ tl) ∧ (b = true → rest = []) ∧ al bv') ∧
    (∀ l k x z bv,(ys l)[k]? = some (x,z) → I k bv → x.length = ps.length ∧ z.length ≤ zl ∧
     wpR Γ E b (rnQ (wpR Γ E a (rndH Q lo zl (fun t => cutV σ.hp lo (σ.fr t)) z al (I (k + 1))))) ⟨updL (fun t => cutV σ.hp lo (σ.fr t)) ps x,.hole :: (bv ++ z).map vB⟩) ∧
    ∀ l bv,I (ys l).length bv → Q .normal ⟨fun t => cutV σ.hp lo (σ.fr t),.hole :: bv.map vB⟩
  | none => False
 | .swp i j a,Q,σ => i < σ.hp.length ∧ j < σ.hp.length ∧ wpR Γ E a Q ⟨fun t => renV (sw i j) (σ.fr t),swH i j σ.hp⟩
 | .crl g l1 y l2,Q,σ => runR Γ E g 0 l1 σ fun σ1 => match y.x with
  | .o f args => match opv g σ1.fr f with
   | .fn gf caps => Qbp g y σ1.fr ∧ gf < 1000000 ∧ Qa8 (args.map (opv g σ1.fr) ++ caps) = false ∧ (Γ (3000000 + gf) ((args.map (opv g σ1.fr) ++ caps).map (vw σ1.hp 8))).1 ∧
     ∀ r bs,(Γ (4000000 + gf) (.tp (r :: bs) :: (args.map (opv g σ1.fr) ++ caps).map (vw σ1.hp 8))).1 →
      runR Γ E g 0 l2 ⟨upd σ1.fr y.dst (shV σ1.hp.length r),σ1.hp ++ (bs.map vB).map (shB σ1.hp.length)⟩ (Q .normal)
   | _ => False
  | _ => False
 | .hcl g l1 y l2,Q,σ => runR Γ E g 0 l1 σ fun σ1 => match y.x with
  | .o f args => match opv g σ1.fr f with
   | .fn gf caps => Qbp g y σ1.fr ∧ (Γ.h gf (args.map (opv g σ1.fr) ++ caps) σ1.hp).1 ∧
     ∀ r hp',(Γ.h gf (args.map (opv g σ1.fr) ++ caps) σ1.hp).2 r hp' → runR Γ E g 0 l2 ⟨upd σ1.fr y.dst r,hp'⟩ (Q .normal)
   | _ => False
  | _ => False
 | .yrx g m1 l1 y m2 l2,Q,σ => runX Γ E g σ.hp.length l1 [] ⟨σ.fr,σ.hp ++ Q1 m1 .hole⟩ fun σ1 => match y.o.x with
  | .o f args => match opv g σ1.fr f,σ1.hp with
   | .yl l,.gh caps (some ((.b true :: bv) :: [.tp x,.tp z] :: rest)) :: tl => Qbp g y.o σ1.fr ∧ caps[0]? = some (.yl l) ∧ args.map (opv g σ1.fr) = x ∧ tl = (bv ++ z).map vB ∧
     ∀ b bv',Γ.al bv' → runX Γ E g (Blk.gh caps (some ((.b b :: bv') :: if b then rest else [])) :: (bv' ++ z).map vB).length l2 (Q1 (l1.length + 1) ⟨none,[]⟩) ⟨upd σ1.fr y.o.dst (.b b),(Blk.gh caps (some ((.b b :: bv') :: if b then rest else [])) :: (bv' ++ z).map vB) ++ Q1 m2 .hole⟩ (Q .normal)
   | _,_ => False
  | _ => False
def Qc5 (ops : Array Oper) : Bool := ops.all fun o => o.guard.isNone
def Ze4 (N : Nat × Nat) (o1 o2 : Oper) (d m it : Nat) : Bool :=
 (match o1.dst,o1.op,o1.guard with
  | some d',.next (.tmp it') false,none => d' == d && it' == it && Qjb N (some d)
  | _,_,_ => false) &&
 (match o2.dst,o2.op,o2.guard with
  | some m',.extract (.tmp d') 0,none => m' == m && d' == d && Qjb N (some m)
  | _,_,_ => false)
def resY (P : Program) (N : Nat × Nat) (ops : Array Oper) (o : Oper) : Option RO :=
 if Qjb N o.dst && o.dst.isSome then
  match gdOf ops o.guard,Qh4 P o with
  | some gd,some x => some ⟨o.dst,gd,o.op.operands.toList.filterMap Qfh,none,.o x.1 x.2⟩
  | _,_ => none
 else none
def resC (P : Program) (N : Nat × Nat) (o : Oper) : Option RO :=
 if Qjb N o.dst && o.guard.isNone then (Qh4 P o).map fun x => ⟨o.dst,none,o.op.operands.toList.filterMap Qfh,none,.o x.1 x.2⟩ else none
def resN (P : Program) (N : Nat × Nat) (o : Oper) : Option RO :=
 if Qjb N o.dst && o.guard.isNone then match o.op with
  | .binOp .eql t x (.const (.slice none 0 0)) _ => (elB P t).bind fun _ => (rOd P t x).map fun a => ⟨o.dst,none,o.op.operands.toList.filterMap Qfh,none,.q (.len a)⟩
  | _ => none
 else none
def dOk (lo : Nat) : Option Nat → Bool | some n => decide (lo ≤ n) | none => true
def zipX (rs : List RO) (l : List AnyOp) : List AnyOp := rs.zipWith (fun r (x : AnyOp) => (⟨{ r with nid := x.o.nid },x.js,x.an⟩ : AnyOp)) l
def Zd8 (ops : Array Oper) (r1 : List RO) (l1 : List AnyOp) (y1 : RO) (y : AnyOp) (r2 : List RO) (l2 : List AnyOp) : Bool :=
 Qsw (zipX r1 l1 ++ ⟨y1,[],y.an⟩ :: zipX r2 l2) && ancB ops (zipX r1 l1 ++ ⟨y1,[],y.an⟩ :: zipX r2 l2) && decide (r1.length = l1.length) && decide (r2.length = l2.length) &&
  (Q4 l1.length).all (fun i => y.an.contains i) && (zipX r2 l2).all fun z => z.an.contains l1.length
def resI (P : Program) (pu : List Nat) (N : Nat × Nat) (ops : Array Oper) : It → Oper → Option It
 | .r _,o => (resO P pu N ops o).map .r
 | .w _,o => if Qjb N o.dst then match gdOf ops o.guard with
  | some gd => (resW P o).map fun q => .w ⟨o.dst,gd,o.op.operands.toList.filterMap Qfh,none,.w q⟩
  | none => none
  else none
 | .h _,o => if Qjb N o.dst then match gdOf ops o.guard with
  | some gd => (Qh4 P o).map fun x => .h ⟨o.dst,gd,o.op.operands.toList.filterMap Qfh,none,.o x.1 x.2⟩
  | none => none
  else none
 | .y lo d _,o => if Qjb N o.dst then match gdOf ops o.guard with
  | some gd => (Qh4 P o).map fun x => .y lo d ⟨o.dst,gd,o.op.operands.toList.filterMap Qfh,none,.o x.1 x.2⟩
  | none => none
  else none
def itOk (lo top : Nat) : It → Bool
 | .y lo' d _ => lo' == lo && (top == 3 && decide (lo ≤ d))
 | _ => true
def comp (P : Program) (pu : List Nat) (N : Nat × Nat) : Nat → Nat → RC → Code → Option RC
 | lo,top,.keep l a,c => (comp P pu N lo top a c).map (.keep l)
 | lo,top,.drp n a,c => if lo ≤ n then (comp P pu N lo top a c).map (.drp n) else none
 | lo,top,.own t es a,c => (comp P pu N lo top a c).map (.own t es)
 | lo,top,.ownc t off es a,c => (comp P pu N lo top a c).map (.ownc t off es)
 | _,_,.no,_ => some .no
 | _,_,.skip,.skip => some .skip
 | _,_,.skip,.label _ => some .skip
 | _,_,.rnl g l1 _ l2,.region _ ops false => if g || Qc5 ops then
   match ops[l1.length]? with
   | some o => match (ops.toList.take l1.length).mapM (fun o => resO P pu N ops o),resN P N o,(ops.toList.drop (l1.length + 1)).mapM (fun o => resO P pu N ops o) with
    | some r1,some y,some r2 => if r1.length == l1.length then some (.rnl g r1 y r2) else none
    | _,_,_ => none
   | none => none
  else none
 | lo,top,.scp a,.scope c => (comp P pu N lo top a c).map .scp
 | lo,top,.dum a,c => (comp P pu N lo top a c).map .dum
 | _,top,.yrh g l1 _ l2,.region _ ops false => if top == 3 && (g || Qc5 ops) then
   match ops[l1.length]? with
   | some o => match (ops.toList.take l1.length).mapM (fun o => resO P pu N ops o),resY P N ops o,(ops.toList.drop (l1.length + 1)).mapM (fun o => resO P pu N ops o) with
    | some r1,some y,some r2 => if r1.length == l1.length then some (.yrh g r1 y r2) else none
    | _,_,_ => none
   | none => none
  else none
 | lo,top,.itm l,.region _ ops false => if l.length == ops.size && l.all (itOk lo top) then ((l.zip ops.toList).mapM fun p => resI P pu N ops p.1 p.2).map .itm else none
 | _,_,.reg g _,.region _ ops false => if g || Qc5 ops then (ops.toList.mapM fun o => resO P pu N ops o).map (.reg g) else none
 | _,_,.nxt d m it,.region _ ops false => match ops.toList with
  | [o1,o2] => if Ze4 N o1 o2 d m it then some (.nxt d m it) else none
  | _ => none
 | lo,top,.swp i j a,c => if top == 1 && lo == 0 then (comp P pu N lo top a c).map (.swp i j) else none
 | _,_,.crl g l1 _ l2,.region _ ops false => if g || Qc5 ops then
   match ops[l1.length]? with
   | some o => match (ops.toList.take l1.length).mapM (fun o => resO P pu N ops o),resC P N o,(ops.toList.drop (l1.length + 1)).mapM (fun o => resO P pu N ops o) with
    | some r1,some y,some r2 => if r1.length == l1.length then some (.crl g r1 y r2) else none
    | _,_,_ => none
   | none => none
  else none
 | _,_,.hcl g l1 _ l2,.region _ ops false => if g || Qc5 ops then
   match ops[l1.length]? with
   | some o => match (ops.toList.take l1.length).mapM (fun o => resO P pu N ops o),resC P N o,(ops.toList.drop (l1.length + 1)).mapM (fun o => resO P pu N ops o) with
    | some r1,some y,some r2 => if r1.length == l1.length then some (.hcl g r1 y r2) else none
    | _,_,_ => none
   | none => none
  else none
 | _,top,.yrx g m1 l1 y m2 l2,.region _ ops true => if top == 3 && (g || Qc5 ops) then
   match ops[l1.length]? with
   | some o => match (ops.toList.take l1.length).mapM (fun o => resO P pu N ops o),resC P N o,(ops.toList.drop (l1.length + 1)).mapM (fun o => resO P pu N ops o) with
    | some r1,some y1,some r2 =>
     if Zd8 ops r1 l1 y1 y r2 l2 then some (.yrx g m1 (zipX r1 l1) ⟨y1,[],y.an⟩ m2 (zipX r2 l2)) else none
    | _,_,_ => none
   | none => none
  else none
 | _,_,.any g m l,.region _ ops true =>
  if (g || Qc5 ops) then
   match ops.toList.mapM fun o => resO P pu N ops o with
   | some rs =>
    let l' := rs.zipWith (fun r (x : AnyOp) => (⟨{ r with nid := x.o.nid },x.js,x.an⟩ : AnyOp)) l
    if Qsw l' && ancB ops l' && decide (l'.length = rs.length) then some (.any g m l') else none
   | none => none
  else none
 | lo,top,.seq a b,.seq x y => match comp P pu N lo top a x,comp P pu N lo top b y with
  | some a',some b' => some (.seq a' b')
  | _,_ => none
 | lo,top,.cond _ a b,.cond c x y => match rOd P 0 c,comp P pu N lo top a x,comp P pu N lo top b y with
  | some c',some a',some b' => some (.cond c' a' b')
  | _,_,_ => none
 | lo,top,.block _ a,.block id x => (comp P pu N lo top a x).map (.block id)
 | lo,top,.loop l d a,.loop x => if dOk lo d then (comp P pu N lo top a x).map (.loop l d) else none
 | lo,top,.rfh _ _ lo' zl b a,.rangeFunc f ps x y => if top == 1 && decide (lo ≤ lo') && ps.all (fun p => Qjb N (some p)) then
   match rOd P 0 f,comp P pu N (lo' + zl) 0 b x,comp P pu N (lo' + zl) 0 a y with
   | some f',some b',some a' => some (.rfh f' ps.toList lo' zl b' a')
   | _,_,_ => none
  else none
 | _,_,.exit _,.exit id => some (.exit id)
 | _,_,.ret,.ret => some .ret
 | _,_,_,_ => none
end Go.Fam
namespace Go.Fam
section
variable {P : Program} {F : Fence} {n : Nat} {Γ : Gam} {ops : Array Oper} {g : Bool} {base : Nat} {M : FrI} {pu : List Nat}
def Qxu (hG : GOk P Γ) (hF : Qbz F) (hg : g = false → ∀ o ∈ ops,o.guard = none) {Q : Exit → Act → World → Prop} {τ : St} {U : Nat → Prop} {extra : Nat} :
  ∀ (fuel : Nat) (rest : List (Nat × RO × FP)) (listed : Array Bool) (σ : St) (S : Nat → Prop) (w : World) (O : OInfo) (a : Act),
   rest.length + extra ≤ fuel →
   (∀ i,listed.getD i true = false ↔ (∃ x ∈ rest,x.1 = i) ∨ U i) →
   rest.Pairwise (fun x y => x.1 < y.1 ∧ (Anc ops x.1 y.1 ∨ Qp5 x y)) →
   (∀ x ∈ rest,∃ o,ops[x.1]? = some o ∧ resO P pu M.nm ops o = some { x.2.1 with nid := none } ∧ ∀ e ∈ o.after,Region.binds .any e = true → e.on < x.1) →
   (∀ x ∈ rest,∀ u,U u → Anc ops x.1 u ∧ x.1 < u) →
   (∀ i j,Anc ops i j → listed.getD j false = true → listed.getD i false = true) →
   (∀ i,i < ops.size → i < listed.size) →
   RunD Γ (Qar P) g base rest σ τ → SR M S w O σ a →
   (∀ fuel' listed' S' w' O' a',extra ≤ fuel' → (∀ i,listed'.getD i true = false ↔ U i) → (∀ i j,Anc ops i j → listed'.getD j false = true → listed'.getD i false = true) → (∀ i,i < ops.size → i < listed'.size) →
    Evol S S' w w' O O' → SR M S' w' O' τ a' → a'.defers = a.defers → wpAnyIn F n P .any ops Q fuel' listed' a' w') →
   wpAnyIn F n P .any ops Q fuel listed a w := by
 intro fuel
 induction fuel with
 | zero =>
  intro rest listed σ S w O a hf hl _ _ _ hc hsz jB jL hK
  have hnil : rest = [] := Qw (by omega)
  subst hnil
  simp only [RunD] at jB
  subst jB
  exact hK 0 listed S w O a (by omega) (fun i => by rw [hl]; simp) hc hsz (Evol.refl _ _ _) jL rfl
 | succ fuel ih =>
  intro rest listed σ S w O a hf hl hp hr hU hc hsz jB jL hK
  by_cases hnil : rest = []
  ·subst hnil
   simp only [RunD] at jB
   subst jB
   exact hK _ listed S w O a (by simpa using hf) (fun i => by rw [hl]; simp) hc hsz (Evol.refl _ _ _) jL rfl
  refine ⟨fun qE => ?_,fun i hi => ?_⟩
  ·cases rest with
   | nil => exact absurd rfl hnil
   | cons x rest =>
    exfalso
    obtain ⟨o,ho,_,hlt⟩ := hr x (by simp)
    have : x.1 ∈ Region.ready .any ops listed := by
     rw [mem_ready]
     refine ⟨(hl x.1).2 (.inl ⟨x,by simp,rfl⟩),o,ho,fun e he hb => ?_⟩
     have h1 := hlt e he hb
     have h2 : ¬ listed.getD e.on true = false := by
      rw [hl]
      rintro (⟨y,hy,mZ⟩ | hu)
      ·rcases Qq.1 hy with rfl | hy
       ·omega
       ·have := (Ze hp hy).1; omega
      ·have := (hU x (by simp) _ hu).2; omega
     have h3 : x.1 < ops.size := (Array.getElem?_eq_some_iff.1 ho).1
     have h4 := hsz e.on (by omega)
     simp [h4] at h2 ⊢
     exact h2
    rw [qE] at this
    simp at this
  ·rw [mem_ready] at hi
   obtain ⟨h0,o,ho,jR⟩ := hi
   have qG : ∀ y j,y = i → Anc ops j y → listed.getD j false = true := by
    rintro y j rfl h
    cases h with
    | base ho' he hb h =>
     rw [ho] at ho'; cases ho'
     rw [← h]
     exact jR _ he hb
    | step ho' he hb h =>
     rw [ho] at ho'; cases ho'
     exact hc _ _ h (jR _ he hb)
   have uF : ∀ j,listed.getD j true = false → listed.getD j false = true → False := by
    intro j h1 h2
    cases kA : listed[j]? with
    | none => simp [kA] at h1
    | some b => simp [kA] at h1 h2; simp_all
   obtain ⟨x,hx,cP⟩ : ∃ x ∈ rest,x.1 = i := ((hl i).1 h0).resolve_right fun hu => by
    obtain ⟨y,ys,rfl⟩ := List.exists_cons_of_ne_nil hnil
    exact uF y.1 ((hl y.1).2 (.inl ⟨y,by simp,rfl⟩)) (qG i y.1 rfl (hU y (by simp) i hu).1)
   subst cP
   obtain ⟨A,B,rfl⟩ := Zt hx
   obtain ⟨o',ho',hro,hlt⟩ := hr x (by simp)
   rw [ho] at ho'
   cases ho'
   have wI := Zp.1 hp
   have i9 := Zu.1 wI.2.1
   have bI : ∀ y ∈ A,Qp5 y x := by
    intro y hy
    rcases (wI.2.2 y hy x (by simp)).2 with h | h
    ·exact (uF y.1 ((hl y.1).2 (.inl ⟨y,by simp [hy],rfl⟩)) (qG x.1 y.1 rfl h)).elim
    ·exact h
   have lA := RunD.move A σ jB bI
   obtain ⟨jA,kQ⟩ := lA.cons_split
   obtain ⟨dX,hs2⟩ := Qo4 jA
   refine Qm6 hG hF ho hro (fun bJ => hg bJ o (Array.mem_of_getElem? ho)) jL dX ?_
   intro S' w' O' a' jD vQ xH
   rw [hs2] at vQ
   have hnotU : ∀ u,U u → u ≠ x.1 := fun u hu => by have := (hU x hx u hu).2; omega
   refine ih (A ++ B) (listed.setIfInBounds x.1 true) _ S' w' O' a' ?_ ?_ ?_ ?_ ?_ ?_ ?_ kQ vQ ?_
   ·simp at hf ⊢; omega
   ·intro i
    by_cases qC : i = x.1
    ·subst qC
     have yE : x.1 < listed.size := hsz _ (Array.getElem?_eq_some_iff.1 ho).1
     have y0 : ¬ ((∃ y ∈ A ++ B,y.1 = x.1) ∨ U x.1) := by
      rintro (⟨y,hy,mZ⟩ | hu)
      ·rcases Qn.1 hy with hm | hm
       ·have := (wI.2.2 _ hm x (by simp)).1; omega
       ·have := (i9.1 _ hm).1; omega
      ·exact hnotU _ hu rfl
     rw [iff_false_right y0]
     simp [yE]
    ·rw [getD_set_ne true (Ne.symm qC),hl]
     refine or_congr ?_ Iff.rfl
     constructor
     ·rintro ⟨y,hy,rfl⟩
      refine ⟨y,?_,rfl⟩
      simp only [Qn,Qq] at hy ⊢
      rcases hy with h | h | h
      ·exact .inl h
      ·subst h; exact absurd rfl qC
      ·exact .inr h
     ·rintro ⟨y,hy,rfl⟩
      exact ⟨y,by simp only [Qn,Qq] at hy ⊢; rcases hy with h | h <;> simp [h],rfl⟩
   ·refine List.Pairwise.sublist ?_ hp
    exact Zg.append (Zg.refl _) (Zh _ _)
   ·intro y hy
    refine hr y ?_
    simp only [Qn,Qq] at hy ⊢
    rcases hy with h | h <;> simp [h]
   ·intro y hy
    refine hU y ?_
    simp only [Qn,Qq] at hy ⊢
    rcases hy with h | h <;> simp [h]
   ·intro i j yL hj
    by_cases d7 : j = x.1
    ·exact getD_set_true (qG j i d7 yL)
    ·rw [getD_set_ne false (Ne.symm d7)] at hj
     exact getD_set_true (hc i j yL hj)
   ·intro i hi
    simpa using hsz i hi
   ·intro fuel' listed' S'' w'' O'' a'' h1 h2 h3 h4 zQ hsr'' xV
    exact hK fuel' listed' S'' w'' O'' a'' h1 h2 h3 h4 (jD.trans zQ) hsr'' (xV.trans xH)
def Qq1 {lall l : List AnyOp} {k : Nat} (gA : ∀ q y,l[q]? = some y → lall[k + q]? = some y) (hp : Qsw lall = true) (ha : ancB ops lall = true)
  (wJ : ∀ q y,l[q]? = some y → ∃ o,ops[k + q]? = some o ∧ resO P pu M.nm ops o = some { y.o with nid := none }) {done : List FP} (hk : k = done.length) {σ : St} {K : St → Prop} (jB : runX Γ (Qar P) g base l done σ K) :
  ∃ rest τ,rest.length = l.length ∧ (∀ i,(∃ x ∈ rest,x.1 = i) ↔ k ≤ i ∧ i < k + l.length) ∧ rest.Pairwise (fun x y => x.1 < y.1 ∧ (Anc ops x.1 y.1 ∨ Qp5 x y)) ∧
   (∀ x ∈ rest,∃ o,ops[x.1]? = some o ∧ resO P pu M.nm ops o = some { x.2.1 with nid := none } ∧ ∀ e ∈ o.after,Region.binds .any e = true → e.on < x.1) ∧
   RunD Γ (Qar P) g base rest σ τ ∧ K τ := by
 obtain ⟨fs,τ,uM,hr,hKτ,hd⟩ := Qqa k done σ K jB hk
 have jO : ∀ x ∈ (Qd k l.length).zip ((l.map (·.o)).zip fs),∃ q y,x.1 = k + q ∧ l[q]? = some y ∧ y.o = x.2.1 ∧ fs[q]? = some x.2.2 := by
  rintro ⟨i,o,f⟩ hx
  obtain ⟨q,hq⟩ := Qv hx
  rw [Qe] at hq
  obtain ⟨q1,q2⟩ := hq
  rw [Qe] at q2
  obtain ⟨q2,q3⟩ := q2
  have lB : i = k + q := by
   rw [Qz] at q1
   ·simpa using q1.symm
   ·have := Qag q1; simpa using this
  subst lB
  rw [Qf,Qa] at q2
  obtain ⟨y,hy,rfl⟩ := q2
  exact ⟨q,y,rfl,hy,rfl,q3⟩
 have hz : ∀ q x f,l[q]? = some x → fs[q]? = some f → (k + q,x.o,f) ∈ (Qd k l.length).zip ((l.map (·.o)).zip fs) := by
  intro q x f hx hf
  refine Q0 (i := q) ?_
  rw [Qe]
  have := Qag hx
  refine ⟨by rw [Qz this]; simp,?_⟩
  rw [Qe]
  exact ⟨by simp [hx],hf⟩
 have zR : ∀ i j x y,l[i]? = some x → l[j]? = some y → i < j → Anc ops (k + i) (k + j) ∨ ∀ fx fy,fs[i]? = some fx → fs[j]? = some fy → Qp5 (k + i,x.o,fx) (k + j,y.o,fy) := by
  intro i j x y hx hy yL
  have hy' := gA j y hy
  have hx' := gA i x hx
  have vY := Qag hy'
  have h1 := Qj.1 hp (k + j) (by simpa using vY)
  simp only [hy'] at h1
  have h2 := Qj.1 h1 (k + i) (by simp; omega)
  simp only [hx',Zi,Qb] at h2
  rcases h2 with h2 | ⟨h2,h3⟩
  ·obtain ⟨o,ho,_⟩ := wJ j y hy
   exact .inl ((Qdq ha (k + j) y hy' (Array.getElem?_eq_some_iff.1 ho).1).1 (k + i) (by simpa using h2))
  ·right
   intro fx fy qD d8
   refine ⟨h2,?_⟩
   rcases h3 with (h3 | h3) | h3
   rotate_right
   ·exact .inr h3
   all_goals refine .inl ?_
   ·have := hd j y fy hy d8 (k + i) (by simpa using h3)
    rcases this with h4 | h4
    ·rw [List.getD_eq_getElem?_getD,Qt (by omega)] at h4
     rw [show k + i - done.length = i by omega,qD] at h4
     exact h4
    ·omega
   ·have e1 := RunD.quiet _ _ _ hr _ (hz i x fx hx qD) h3.1
    have e2 := RunD.quiet _ _ _ hr _ (hz j y fy hy d8) h3.2
    simp only at e1 e2
    simp [Qmr,hits,e1,e2]
 refine ⟨_,τ,?_,?_,?_,?_,hr,hKτ⟩
 ·simp [uM]
 ·intro i
  constructor
  ·rintro ⟨x,hx,rfl⟩
   obtain ⟨q,y,e,hy,_⟩ := jO x hx
   have := Qag hy
   omega
  ·rintro ⟨h1,h2⟩
   have h3 : i - k < l.length := by omega
   refine ⟨_,hz (i - k) l[i - k] fs[i - k] (by simp [h3]) (by simp [uM,h3]),?_⟩
   show k + (i - k) = i
   omega
 ·rw [Zf]
  intro i j hi hj yL
  obtain ⟨qi,x,ex,hx,lC,uE⟩ := jO _ (Q8 hi)
  obtain ⟨qj,y,ey,hy,bK,iC⟩ := jO _ (Q8 hj)
  have ei : (((Qd k l.length).zip ((l.map (·.o)).zip fs))[i]).1 = k + i := by simp
  have ej : (((Qd k l.length).zip ((l.map (·.o)).zip fs))[j]).1 = k + j := by simp
  have e1 : qi = i := by omega
  have e2 : qj = j := by omega
  subst e1 e2
  rw [ei,ej]
  refine ⟨by omega,(zR qi qj x y hx hy yL).imp (fun h => h) fun h => ?_⟩
  have := h _ _ uE iC
  rw [lC,bK,← ex,← ey] at this
  exact this
 ·intro x hx
  obtain ⟨q,y,ex,hy,bK,_⟩ := jO x hx
  obtain ⟨o,ho,hr'⟩ := wJ _ _ hy
  rw [← ex] at ho
  refine ⟨o,ho,by rw [← bK]; exact hr',fun e he hb => ?_⟩
  have := (Qdq ha _ y (gA q y hy) (by rw [← ex]; exact (Array.getElem?_eq_some_iff.1 ho).1)).2 o (by rw [← ex]; exact ho) e he hb
  omega
end
end Go.Fam
namespace Go.Fam
variable {S : Nat → Prop} {w : World} {O : OInfo} {hp : List Blk}
def Qkw {P : Program} {pu : List Nat} {N : Nat × Nat} {ops : Array Oper} {o : Oper} {r : RO} (h : resO P pu N ops o = some r) : r.nid = none := by
 unfold resO at h
 split at h
 ·split at h
  ·cases h
  ·split at h
   ·split at h
    ·rw [Qa] at h
     obtain ⟨_,_,rfl⟩ := h
     rfl
    ·cases h
   ·split at h
    ·cases h; rfl
    ·split at h
     ·rw [Qa] at h
      obtain ⟨_,_,rfl⟩ := h
      rfl
     ·cases h
 ·cases h
def Qcp {α β : Type} {f : α → Option β} : ∀ {l : List α} {r : List β},l.mapM f = some r → l.map f = r.map some
 | [],r,h => by simp at h; subst h; rfl
 | x :: l,r,h => by
  rw [List.mapM_cons] at h
  simp only [Qm,Qh,Qu,Qc.injEq] at h
  obtain ⟨y,hy,ys,zM,rfl⟩ := h
  simp [hy,Qcp zM]
def Qsi {p : Nat → Prop} (h : ∃ k,p k) : ∃ k,p k ∧ ∀ j,p j → k ≤ j := by
 obtain ⟨k,hk⟩ := h
 induction k using Z2 with
 | _ k ih =>
  by_cases hj : ∃ j,j < k ∧ p j
  ·obtain ⟨j,hj,hp⟩ := hj
   exact ih j hj hp
  ·exact ⟨k,hk,fun j uO => Nat.le_of_not_lt fun hlt => hj ⟨j,hlt,uO⟩⟩
open Classical in
noncomputable def Qsh (p : Nat → Prop) : Nat := if h : ∃ k,p k then (Qsi h).choose else 0
def Qls {p : Nat → Prop} (h : ∃ k,p k) : p (Qsh p) ∧ ∀ j,p j → Qsh p ≤ j := by
 unfold Qsh
 rw [dif_pos h]
 exact (Qsi h).choose_spec
def Qum {F : Fence} {n : Nat} {P : Program} {c : Code} {Q : Exit → Act → World → Prop} {a : Act} (I : Nat → Act → World → Prop) (h0 : ∃ k,I k a w)
  (round : ∀ k a w,I k a w → c.wpIn F n P (Exit.then (fun a' w' => ∃ j,j < k ∧ I j a' w') Q) a w) : (Code.loop c).wpIn F n P Q a w := by
 refine wpIn_loop (fun a w => ∃ k,I k a w) (fun a w => Qsh fun k => I k a w) h0 fun a w h => ?_
 refine wpIn_mono (round _ a w (Qls h).1) fun e a' w' he => ?_
 cases e <;> first | exact he | skip
 obtain ⟨j,hj,hI⟩ := he
 exact ⟨⟨j,hI⟩,Nat.lt_of_le_of_lt ((Qls ⟨j,hI⟩).2 j hI) hj⟩
def Qdj {b : Frame} {a : Act} {k : List Item} {cs : List Frame} {P : Program} {c : Code} : Go.step P (lone (b.atR a (.code (.scope c) :: k)) cs w) = .next (lone (b.atR a (.code c :: .inScope c :: k)) cs w) :=
 step_lone_go (by simp [stepG,stepG.exec,Frame.atR])
def Qoz {b : Frame} {a : Act} {k : List Item} {cs : List Frame} {P : Program} {c : Code} : Go.step P (lone (b.atR a (.inScope c :: k)) cs w) = .next (lone (b.atR a k) cs w) :=
 step_lone_go (by simp [stepG,stepG.exec,Frame.atR])
def Ziz (Q : Exit → Act → World → Prop) : Exit → Act → World → Prop
 | .goto _,_,_ => False
 | e,a,w => Q e a w
def Qhv {F : Fence} {n : Nat} {P : Program} {Q : Exit → Act → World → Prop} {a : Act} {c : Code} (h : c.wpIn F n P (Ziz Q) a w) : (Code.scope c).wpIn F n P Q a w := by
 intro b k cs hro hb hr
 have h0 : (lone (b.atR a (.code (.scope c) :: k)) cs w).fenced P F := fenced_calm hb hr rfl
 obtain ⟨e,a₁,w₁,hq,uP⟩ := h b (.inScope c :: k) cs hro hb hr
 cases e with
 | normal => exact ⟨.normal,a₁,w₁,hq,.head h0 Qdj (StepsIn.trans uP (.one (fenced_calm hb hr rfl) Qoz))⟩
 | exit id =>
  have hx : exitTo id (.inScope c :: k) = exitTo id k := by simp [exitTo]
  exact ⟨.exit id,a₁,w₁,hq,fun k' hk => .head h0 Qdj (uP.1 k' (by rw [hx]; exact hk)),
   fun hr' hk => let ⟨k₁,h1,h2⟩ := uP.2 hr' (by rw [hx]; exact hk); ⟨k₁,h1,.head h0 Qdj h2⟩⟩
 | goto l => exact hq.elim
 | ret => exact ⟨_,a₁,w₁,hq,.of_steps (.one h0 Qdj) uP⟩
 | panic ch => exact ⟨_,a₁,w₁,hq,.of_steps (.one h0 Qdj) uP⟩
 | outgrown => exact ⟨_,a₁,w₁,hq,.of_steps (.one h0 Qdj) uP⟩
abbrev Ctx := (Nat → Prop) → World → OInfo → List Deferred → Option (List V × Option (List (List V))) → Prop
abbrev col (D : Nat) : Deferred := { target := .collected D,args := #[] }
abbrev Gh := Option (List V × Option (List (List V)))
structure CtxOk (P : Program) (F : Fence) (n : Nat) (M : FrI) (C : Ctx) (lo : Nat) (top : Nat) (base : Nat) : Prop where
 evol : ∀ {S S' : Nat → Prop} {w w' : World} {O O' : OInfo} {ds : List Deferred} {h h' : Gh},C S w O ds h → (∀ k,S k → k < w.heap.size) → Evol S S' w w' O O' → (∀ y,h = some y → h' = some y) → C S' w' O' ds h'
 cut : ∀ {S : Nat → Prop} {w : World} {O : OInfo} {ds : List Deferred} {h h' : Gh} {k : Nat},C S w O ds h → lo ≤ k → (1 ≤ lo → ∀ y,h = some y → h' = some y) → C (cutS S O k) w (Qby O k) ds h'
 rnd : top = 1 → F.round = none
 big : top = 1 → ∀ {S : Nat → Prop} {w : World} {O : OInfo} {ds : List Deferred} {h : Gh},C S w O ds h → base ≤ w.heap.size
 turn : top = 1 → ∀ {S : Nat → Prop} {w : World} {O : OInfo} {ds : List Deferred} {h : Gh} {L : Nat} {r r' : Loop},C S w O ds h → w.heap[L]? = some (.loop r) → ¬ S L → ¬ Own O L → base ≤ L → C S (w.putObj L (.loop r')) O ds h
 enter : top = 1 → ∀ {S : Nat → Prop} {w : World} {O : OInfo} {ds : List Deferred} {h : Gh} {r : Loop},C S w O ds h → (∀ k,S k → k < w.heap.size) → (∀ k,Own O k → k < w.heap.size) →
  C S ((w.alloc (.deferred (some []))).alloc (.loop r)) O (col w.heap.size :: ds) h
 ren : top = 1 → lo = 0 → ∀ {S : Nat → Prop} {w : World} {O O' : OInfo} {ds : List Deferred} {h h' : Gh},C S w O ds h → (∀ k,Own O' k → Own O k) → C S w O' ds h'
 yld : top = 2 → ∀ {S : Nat → Prop} {w : World} {O : OInfo} {ds : List Deferred} {caps x : List V} {rest : List (List V)} {cx : Array Value} {l : Nat},C S w O ds (some (caps,some (x :: rest))) → (∀ k,S k → k < w.heap.size) → (∀ id,O id = none) → caps[0]? = some (.yl l) →
  RepL (fun _ => False) w noO x cx.toList → cx.size = x.length → YieldAt F (n - 1) P l cx w fun e W' => ∃ b S',e = .returned (.bool b) ∧ C S' W' noO ds (some (caps,if b then some rest else none)) ∧
   (∀ k,S' k → k < W'.heap.size) ∧ ∀ t v,caps[t]? = some v → t < M.md ∧ Rep S' W' noO v (M.T t)
 yldh : top = 3 → ∀ {S : Nat → Prop} {w : World} {O : OInfo} {ds : List Deferred} {caps bv x z : List V} {rest : List (List V)} {cx : Array Value} {l m : Nat},C S w O ds (some (caps,some (gyA true bv :: gyE x z :: rest))) → Mat S w O (.hole :: (bv ++ z).map vB) →
  caps[0]? = some (.yl l) → RepL S w O x cx.toList → cx.size = x.length → YieldAt F m P l cx w fun e W' => ∃ b S' O' bv',e = .returned (.bool b) ∧ M.al bv' ∧ C S' W' O' ds (some (caps,some (gyA b bv' :: if b then rest else []))) ∧
   Ext S S' w W' O O' ∧ Mat S' W' O' (.hole :: (bv' ++ z).map vB)
 rnd3 : top = 3 → F.round = none
structure At (C : Ctx) (M : FrI) (S : Nat → Prop) (w : World) (O : OInfo) (σ : St) (a : Act) : Prop where
 ctx : C S w O a.defers (ghO σ.hp)
 sr : SR M S w O σ a
section
variable {P : Program} {F : Fence} {n : Nat} {Γ : Gam} {pu : List Nat} {M : FrI} {C : Ctx} {lo base : Nat} {top : Nat}
def Ze1 {y : List V × Option (List (List V))} (h : ghO hp = some y) {k : Nat} (hk : 1 ≤ k) : ghO (cutH k hp) = some y := by
 refine Qpm ?_
 have := Qpl h
 unfold cutH
 rw [Qf,Zb,if_pos (by omega),this]
 rfl
def Zej (l : List Nat) (fr : Nat → V) (t : Nat) : lkp (l.map fun t => (t,fr t)) t = fr t ∨ lkp (l.map fun t => (t,fr t)) t = .u := by
 induction l with
 | nil => exact .inr rfl
 | cons k l ih =>
  simp only [Zr,lkp]
  split
  ·rename_i e; subst e; exact .inl rfl
  ·exact ih
def Qyn {fr : Nat → V} {a : Act} (h : FrM S w O fr a) (l : List Nat) : FrM S w O (lkp (l.map fun t => (t,fr t))) a := by
 intro t
 rcases Zej l fr t with e | e
 ·rw [e]; exact h t
 ·rw [e]; simp [Rep]
def At.keep {σ : St} {a : Act} (h : At C M S w O σ a) (l : List Nat) : At C M S w O ⟨lkp (l.map fun t => (t,σ.fr t)),σ.hp⟩ a :=
 ⟨h.ctx,⟨h.sr.size,h.sr.kept,Qyn h.sr.fr l,h.sr.mat⟩⟩
def At.drp (hC : CtxOk P F n M C lo top base) {σ : St} {a : Act} (h : At C M S w O σ a) {k : Nat} (hk : lo ≤ k) :
  At C M (cutS S O k) w (Qby O k) ⟨fun t => cutV σ.hp k (σ.fr t),cutH k σ.hp⟩ a :=
 ⟨hC.cut h.ctx hk fun hl y hy => Ze1 hy (by omega),⟨h.sr.size,h.sr.kept,fun t => Qj8 h.sr.mat k _ _ (h.sr.fr t),Qo0 h.sr.mat k⟩⟩
def At.kp (hC : CtxOk P F n M C lo top base) {σ : St} {a : Act} (h : At C M S w O σ a) (l : List Nat) (d : Option Nat) (hd : ∀ k,d = some k → lo ≤ k) :
  ∃ S' O',At C M S' w O' (Fam.kp l d σ) a := by
 cases d with
 | none => exact ⟨S,O,h.keep l⟩
 | some k => exact ⟨_,_,(h.drp hC (hd k rfl)).keep l⟩
def Later.evol {w w' : World} (h : Later w w') (hS : ∀ k,S k → k < w.heap.size) (hO : ∀ k,Own O k → k < w.heap.size) : Evol S S w w' O O :=
 ⟨⟨fun k hk => ⟨hk,h.old k (hS k hk)⟩,fun id g ob ho => ⟨g,ob,ho,Qk _,fun _ => ⟨rfl,fun b cur e hb hh => ⟨cur,(h.old b (hO b ⟨id,g,by rw [ho,hb]⟩)).trans hh,rfl⟩⟩⟩⟩,
  h.os,h.tape,h.output,h.size,h.fz,fun k hk _ => h.old k hk,fun _ h => .inl h,fun _ h => .inl h⟩
def Qed (hG : GOk P Γ) (hF : Qbz F) {ops : Array Oper} {g : Bool} {b0 : Nat} (hg : g = false → ∀ o ∈ ops,o.guard = none) {Q : Exit → Act → World → Prop} {K : St → Prop} (rest : List Nat) :
  ∀ (l : List RO) (k : Nat) (σ : St) (S : Nat → Prop) (w : World) (O : OInfo) (a : Act),(∀ q r,l[q]? = some r → ∃ o,ops[k + q]? = some o ∧ resO P pu M.nm ops o = some { r with nid := none }) →
   runR Γ (Qar P) g b0 l σ K → SR M S w O σ a →
   (∀ τ S' w' O' a',K τ → (∀ y,ghO σ.hp = some y → ghO τ.hp = some y) → Evol S S' w w' O O' → SR M S' w' O' τ a' → a'.defers = a.defers → wpOpsIn F n P ops Q rest a' w') →
   wpOpsIn F n P ops Q (Qd k l.length ++ rest) a w := by
 intro l
 induction l with
 | nil => intro k σ S w O a _ jB jL hK; exact hK σ S w O a jB (fun _ h => h) (Evol.refl _ _ _) jL rfl
 | cons r l ih =>
  intro k σ S w O a xP jB jL hK
  obtain ⟨jA,jB⟩ := jB
  rw [Q3,Qp,Z1,wpOpsIn_cons]
  obtain ⟨o,ho,hro⟩ := xP 0 r rfl
  refine Qm6 hG hF ho hro (fun bJ => hg bJ o (Array.mem_of_getElem? ho)) jL jA ?_
  intro S' w' O' a' jD vQ xH
  refine ih (k + 1) _ S' w' O' a' ?_ jB vQ fun τ S'' w'' O'' a'' hKτ hgh zQ hsr'' xV => hK τ S'' w'' O'' a'' hKτ (fun y hy => hgh y (Qmm jA hy)) (jD.trans zQ) hsr'' (xV.trans xH)
  intro q r' hr'
  have := xP (q + 1) r' (by simpa using hr')
  rwa [Zy q 1,← Zs] at this
def Qy7 {fr : Nat → V} {a : Act} (h : FrM S w O fr a) {k' : Operand} {k1 : Od} {t : Bool} (h0 : rOd P 0 k' = some k1) (hk : evO fr k1 = .b t) : a.eval k' = .bool t := by
 have hrep : Rep S w O (evO fr k1) (a.eval k') := by
  cases k' with
  | tmp t' => simp only [rOd,Qc.injEq] at h0; subst h0; exact h t'
  | const v =>
   simp only [rOd,Qa] at h0
   obtain ⟨v',hv,rfl⟩ := h0
   exact Qxw hv S w O
  | func f => simp only [rOd,Qc.injEq] at h0; subst h0; simp [evO] at hk
  | global g => simp [rOd] at h0
 rw [hk] at hrep
 simpa [Rep] using hrep
def Zdu {fr : Nat → V} {a : Act} (h : FrM S w O fr a) {k' : Operand} {k1 : Od} (h0 : rOd P 0 k' = some k1) : Rep S w O (evO fr k1) (a.eval k') := by
 cases k' with
 | tmp t' => simp only [rOd,Qc.injEq] at h0; subst h0; exact h t'
 | const v =>
  simp only [rOd,Qa] at h0
  obtain ⟨v',hv,rfl⟩ := h0
  exact Qxw hv S w O
 | func f =>
  simp only [rOd,Qc.injEq] at h0
  subst h0
  simp only [evO,Act.eval,Rep]
  exact ⟨#[],rfl,rfl,by simp [RepL]⟩
 | global g => simp [rOd] at h0
def Qc1 {d : Nat} (h : Qjb M.nm (some d) = true) : d < M.n ∧ M.md ≤ d := by
 simp only [Qjb,Qb] at h
 exact ⟨of_decide_eq_true h.1,of_decide_eq_true h.2⟩
def Qwm (hF : Qbz F) {N : Nat × Nat} {id' : Nat} {o1 o2 : Oper} {d m it : Nat} {ops : Array Oper} (xP : ops.toList = [o1,o2]) (hx : Ze4 M.nm o1 o2 d m it = true)
  {Q : Exit → St → Prop} {Q' : Exit → Act → World → Prop} {σ : St} {S : Nat → Prop} {w : World} {O : OInfo} {a : Act} (hw : wpR Γ (Qar P) (.nxt d m it) Q σ) (jL : SR M S w O σ a)
  (hQ : ∀ σ' w' a',Q .normal σ' → Evol S S w w' O O → (∀ y,ghO σ.hp = some y → ghO σ'.hp = some y) → SR M S w' O σ' a' → a'.defers = a.defers → Q' .normal a' w') : (Code.region id' ops false).wpIn F n P Q' a w := by
 have xW : ops = #[o1,o2] := by rw [← xP]
 subst xW
 unfold Ze4 at hx
 simp only [Qb] at hx
 obtain ⟨y5,cR⟩ := hx
 split at y5
 ·rename_i d' it' uQ qH oZ
  split at cR
  ·rename_i m' d'' m8 yF hg2
   simp only [Qb,beq_iff_eq] at y5 cR
   obtain ⟨⟨rfl,rfl⟩,vC⟩ := y5
   obtain ⟨⟨rfl,rfl⟩,xR⟩ := cR
   have vC : d'' < M.n ∧ M.md ≤ d'' := Qc1 vC
   have xR : m' < M.n ∧ M.md ≤ m' := Qc1 xR
   simp only [wpR] at hw
   have r1 := jL.fr it'
   cases y7 : σ.fr it' <;> simp only [y7] at hw <;> try exact hw.elim
   case it id g =>
    rw [y7] at r1
    cases jF : σ.hp[id]? with
    | none => simp [jF] at hw
    | some bk =>
     cases bk <;> simp only [jF] at hw <;> try exact hw.elim
     case iter mid nn left cur =>
      cases vK : σ.hp[mid]? with
      | none => simp [vK] at hw
      | some bk2 =>
       cases bk2 <;> simp only [vK] at hw <;> try exact hw.elim
       case map st ks vs =>
        obtain ⟨rfl,hn,lD,kJ⟩ := hw
        simp only [Rep] at r1
        obtain ⟨_,g',ob,hO,_,h1⟩ := r1
        have yX := jL.mat.blk id g' ob hO
        rw [jF] at yX
        simp only [Qb6] at yX
        obtain ⟨rfl,b,mm,seen,rfl,aU,iN,hnd,uA,dL⟩ := yX
        obtain ⟨b',hb',hc⟩ := h1 rfl
        cases hb'
        have wD : Rep S w O (.mp mid 0) (.map (some mm)) := by simp only [Rep]; exact iN
        obtain ⟨b2,es,hO2,vO,vW,jP,yO,xN,iO,xD⟩ := Qe6 jL.mat wD vK rfl
        cases vO
        have y2 := Qcj jP
        have gU : ∀ x ∈ es.toList,x.born < nn := by
         intro x hx
         obtain ⟨i,hi⟩ := Qv hx
         rw [Array.getElem?_toList] at hi
         have h1 := jP.2 i x hi
         have h2 := (Array.getElem?_eq_some_iff.1 hi).1
         omega
        have kR : ∀ j e,es[j]? = some e → j ∉ seen.toList → e ∈ (leftOf es seen).toList := by
         intro j e he hj
         have := jP.2 j e he
         simp only [leftOf,Array.toList_filter,Zk]
         refine ⟨by have := Array.mem_of_getElem? he; simpa using this,?_⟩
         rw [this]; simpa using hj
        have bL : ∀ (c : Value) (bb : Bool) (w' : World),Evol S S w w' O O → Rep S w' O (.b bb) (.bool bb) := fun _ _ _ _ => by simp [Rep]
        have fin : ∀ (tv : Array Value) (bb : Bool) (w' : World) (hp' : List Blk),(execOp a.eval o1).run P w = .ok (.value (.tuple tv)) w' → tv[0]? = some (.bool bb) → Evol S S w w' O O → Mat S w' O hp' →
          (∀ y,ghO σ.hp = some y → ghO hp' = some y) → Q .normal ⟨upd (upd σ.fr (some d'') .u) (some m') (.b bb),hp'⟩ → (Code.region id' #[o1,o2] false).wpIn F n P Q' a w := by
         intro tv bb w' hp' jB d9 jD jC hgh hQn
         refine wpIn_region ?_
         show wpOpsIn F n P #[o1,o2] Q' [0,1] a w
         rw [wpOpsIn_cons]
         simp only [wpOpIn,Zn,Qs]
         have kJ : Region.wanted o1 (yielded #[o1,o2] a.tmps) = true := by simp [Region.wanted,oZ]
         rw [if_pos kJ]
         refine Qb9 hF (by simp [qH]) jB ?_
         rw [wpOpsIn_cons]
         simp only [wpOpIn,Zn,List.getElem?_cons_succ,Qs]
         have qI : Region.wanted o2 (yielded #[o1,o2] (a.put o1.dst (.tuple tv)).tmps) = true := by simp [Region.wanted,hg2]
         rw [if_pos qI]
         have hlt : d'' < a.tmps.size := by rw [jL.size]; exact vC.1
         have eB : (a.put o1.dst (.tuple tv)).tmps.getD d'' undef = .tuple tv := by simp [uQ,Act.put,hlt]
         refine Qb9 (w' := w') (c := .bool bb) hF (by simp [yF]) ?_ ?_
         ·have : (a.put o1.dst (.tuple tv)).eval (.tmp d'') = .tuple tv := eB
          simp [execOp,yF,this,Instr.extract,d9]
         ·rw [wpOpsIn]
          refine hQ _ w' _ hQn jD hgh ⟨by rw [Qbm,Qbm]; exact jL.size,?_,?_,jC⟩ (by rw [Qb8,Qb8])
          ·intro t ht
           rw [Qfs _ _ _ _ (by intro d0 h0; rw [m8] at h0; cases h0; omega),Qfs _ _ _ _ (by intro d0 h0; rw [uQ] at h0; cases h0; omega)]
           exact jL.kept t ht
          ·have f1 : FrM S w' O (upd σ.fr (some d'') .u) (a.put o1.dst (.tuple tv)) := by
            rw [uQ]
            exact FrM.put jL.fr jD.ext (fun d0 h0 => by cases h0; exact hlt) (by simp [Rep])
           rw [m8]
           exact FrM.put (dst := some m') f1 (Ext.refl _ _ _) (fun d0 h0 => by cases h0; rw [Qbm,jL.size]; exact xR.1) (by simp [Rep])
        rcases run_next_at (P := P) w o1.type b mm nn nn seen es es.size aU vW gU (Qk _) with ⟨h0,jB⟩ | ⟨e,he,w1,eC,jB⟩
        ·have hl0 : left = [] := by
          rw [Q7]
          intro j hj
          obtain ⟨iD,eD⟩ := (uA j).1 hj
          obtain ⟨e,he⟩ : ∃ e : MapEntry,es[j]? = some e := ⟨_,Array.getElem?_eq_getElem (by omega)⟩
          have := kR j e he eD
          have hz : leftOf es seen = #[] := Array.eq_empty_of_size_eq_zero h0
          rw [hz] at this
          simp at this
         refine fin #[.bool false] false w σ.hp ?_ rfl (Evol.refl _ _ _) jL.mat (fun _ h => h) (lD hl0)
         have bM : a.eval (.tmp it') = .pointer (some ⟨b,0,none⟩) := hc
         simp only [execOp,qH,bM,jB,Sem.run_bind,Result.andThen_ok,Sem.run_pure]
        ·obtain ⟨j,hj⟩ : ∃ j,es[j]? = some e := by
          simp only [leftOf,Array.toList_filter,Zk] at he
          obtain ⟨j,hj⟩ := Qv he.1
          exact ⟨j,by rwa [Array.getElem?_toList] at hj⟩
         have lE := jP.2 j e hj
         have o0 := (Array.getElem?_eq_some_iff.1 hj).1
         have lF : j ∉ seen.toList := by
          simp only [leftOf,Array.toList_filter,Zk] at he
          have := he.2
          rw [lE] at this
          simpa using this
         have vY : j ∈ left := (uA j).2 ⟨by omega,lF⟩
         have vX := Qag jF
         obtain ⟨ho,hheap⟩ : (∃ ev : Evol S S w w1 O O,True) ∧ w1.heap = w.heap := by
          rcases eC with rfl | rfl
          ·exact ⟨⟨Evol.refl _ _ _,trivial⟩,rfl⟩
          ·exact ⟨⟨Ql9 S w O,trivial⟩,rfl⟩
         obtain ⟨ev,_⟩ := ho
         have yC : Mat S w1 O σ.hp := by
          rcases eC with rfl | rfl
          ·exact jL.mat
          ·exact Qoi jL.mat
         obtain ⟨jD,jC⟩ := Qos yC hO (o' := .mapIter (some mm) nn (seen.push e.born) nn) (by rw [hheap]; exact aU) rfl rfl vX (x := .iter mid nn (left.erase j) (some j)) fun hx jQ => by
          refine ⟨rfl,b,mm,seen.push e.born,rfl,jQ,?_,hnd.erase _,fun k => ?_,fun k hk => ?_⟩
          ·exact Rep.ext (ev.ext.trans hx) _ _ wD
          ·rw [hnd.mem_erase_iff,uA k,lE]
           simp only [Array.toList_push,Qn,List.mem_singleton]
           constructor
           ·rintro ⟨h1,h2,h3⟩; exact ⟨h2,fun h => h.elim h3 h1⟩
           ·rintro ⟨h1,h2⟩; exact ⟨fun h => h2 (.inr h),h1,fun h => h2 (.inl h)⟩
          ·cases hk
           exact ⟨by rw [lE]; simp,by omega⟩
         refine fin #[.bool true,e.key,e.val] true _ _ ?_ rfl (ev.trans jD) jC (fun y hy => Qob hy jF (fun _ _ h => by cases h)) (kJ j vY)
         have bM : a.eval (.tmp it') = .pointer (some ⟨b,0,none⟩) := hc
         simp only [execOp,qH,bM,jB,Sem.run_bind,Result.andThen_ok,Sem.run_pure]
         rw [y2,hn]
         rfl
  ·cases cR
 ·cases y5
def Qej {ops : Array Oper} {off cnt : Nat} {r1 : List RO} (h : ((ops.toList.drop off).take cnt).mapM (fun o => resO P pu M.nm ops o) = some r1) : ∀ q r,r1[q]? = some r → ∃ o,ops[off + q]? = some o ∧ resO P pu M.nm ops o = some { r with nid := none } := by
 intro q r hq
 have hm := Qcp h
 have h1 := congrArg (fun l => l[q]?) hm
 simp only [Qf,hq,Qg,Zb,Za] at h1
 split at h1
 ·rw [Qa] at h1
  obtain ⟨o,ho,hr⟩ := h1
  refine ⟨o,by simpa using ho,?_⟩
  have := Qkw hr
  rw [hr]
  cases r; simp_all
 ·cases h1
def Qnk {a : Blk} {tl : List Blk} (h : Mat S w O (a :: tl)) (ha : ∀ g ob,¬ Qb6 S w O g ob (some a)) (b : Blk) : Mat S w O (b :: tl) := by
 refine ⟨h.lt,h.own,h.inj,fun id g ob ho => ?_⟩
 have := h.blk id g ob ho
 cases id with
 | zero => exact absurd this (ha g ob)
 | succ id => exact this
def Qxq (hG : GOk P Γ) (hF : Qbz F) (vL : ∀ bv,M.al bv → Γ.al bv) (hC : CtxOk P F n M C lo 3 base) {g : Bool} {r1 r2 : List RO} {y : RO} {id : Nat} {ops : Array Oper} {o : Oper} (jW : (g || Qc5 ops) = true)
  (ho : ops[r1.length]? = some o) (h1 : (ops.toList.take r1.length).mapM (fun o => resO P pu M.nm ops o) = some r1) (hy : resY P M.nm ops o = some y) (h2 : (ops.toList.drop (r1.length + 1)).mapM (fun o => resO P pu M.nm ops o) = some r2)
  {Q : Exit → St → Prop} {Q' : Exit → Act → World → Prop} {σ : St} {S : Nat → Prop} {w : World} {O : OInfo} {a : Act} (hw : wpR Γ (Qar P) (.yrh g r1 y r2) Q σ) (hat : At C M S w O σ a)
  (hQ : ∀ σ' S' w' O' a',Q .normal σ' → At C M S' w' O' σ' a' → Q' .normal a' w') : (Code.region id ops false).wpIn F n P Q' a w := by
 have xC : g = false → ∀ o ∈ ops,o.guard = none := by
  intro hg o ho
  subst hg
  simp only [Qy,Qc5] at jW
  have := Array.all_eq_true_iff_forall_mem.1 jW o ho
  simpa using this
 have hlt := (Array.getElem?_eq_some_iff.1 ho).1
 have qX : r2.length = ops.size - (r1.length + 1) := by
  have := congrArg Qx (Qcp h2)
  simpa using this.symm
 refine wpIn_region ?_
 have j8 : Q4 ops.size = Qd 0 r1.length ++ (r1.length :: Qd (r1.length + 1) r2.length) := by
  rw [Qr,← Qp]
  have := Q2 (s := 0) (m := r1.length) (n := r2.length + 1)
  rw [Q5] at this
  rw [this]
  congr 1
  omega
 rw [j8]
 refine Qed hG hF (pu := pu) xC _ r1 0 σ S w O a (Qej (off := 0) (cnt := r1.length) (by simpa using h1)) hw hat.sr ?_
 intro σ1 S1 w1 O1 a1 kJ zS yT jH uQ
 have jY : At C M S1 w1 O1 σ1 a1 := ⟨by rw [uQ]; exact hC.evol hat.ctx hat.sr.mat.lt yT zS,jH⟩
 have rest : ∀ (σ2 : St) S2 w2 O2 a2,At C M S2 w2 O2 σ2 a2 → runR Γ (Qar P) g 0 r2 σ2 (Q .normal) → wpOpsIn F n P ops Q' (Qd (r1.length + 1) r2.length) a2 w2 := by
  intro σ2 S2 w2 O2 a2 kD jB
  have := Qed hG hF (pu := pu) (n := n) (Q := Q') xC [] r2 (r1.length + 1) σ2 S2 w2 O2 a2 (Qej (off := r1.length + 1) (cnt := ops.size) (by
   rw [Ql (by simp)]; exact h2)) jB kD.sr (fun τ S' w' O' a' hK hgh jD jL hd => by
    rw [wpOpsIn]
    exact hQ τ S' w' O' a' hK ⟨by rw [hd]; exact hC.evol kD.ctx kD.sr.mat.lt jD hgh,jL⟩)
  simpa using this
 have hrO : ∀ (q : Nat) (r : RO),r2[q]? = some r → True := fun _ _ _ => trivial
 rw [wpOpsIn_cons]
 simp only [wpOpIn,ho]
 unfold resY at hy
 split at hy
 ·rename_i xT
  simp only [Qb] at xT
  obtain ⟨d,hd⟩ : ∃ d,o.dst = some d := by
   cases h : o.dst with
   | none => simp [h] at xT
   | some d => exact ⟨d,rfl⟩
  have vC : d < M.n ∧ M.md ≤ d := by have := xT.1; rw [hd] at this; exact Qc1 this
  have eE : d < a1.tmps.size := by rw [jH.size]; exact vC.1
  split at hy
  ·rename_i gd fx uR jM
   obtain ⟨f,xs⟩ := fx
   simp only [Qc.injEq] at hy
   subst hy
   simp only [hd] at kJ
   have jU : ∀ (c : Value) t,t < M.md → (a1.put o.dst c).tmps.getD t undef = M.T t := fun c t ht => (Qfs a1 o.dst c t fun d' hd' => by rw [hd] at hd'; cases hd'; omega).trans (jH.kept t ht)
   have wantc : ∀ c,Qdf σ1.fr gd = some c → Region.wanted o (yielded ops a1.tmps) = c := by
    intro c hc
    cases vS : o.guard with
    | none =>
     rw [vS] at uR
     simp only [gdOf,Qc.injEq] at uR
     subst uR
     simp only [Qdf,Qc.injEq] at hc
     simp [Region.wanted,vS,← hc]
    | some jw =>
     obtain ⟨j,want⟩ := jw
     rw [vS] at uR
     simp only [gdOf,Qa] at uR
     obtain ⟨s,hs,rfl⟩ := uR
     exact Qjz jH.fr vS hs hc
   cases hc : Qdf σ1.fr gd with
   | none => simp [hc] at kJ
   | some c =>
    have j9 := wantc c hc
    rw [j9]
    cases c with
    | false =>
     rw [if_neg (by simp)]
     simp only [hc] at kJ
     refine ⟨fun f _ => hF.1 f,?_⟩
     refine rest ⟨upd σ1.fr (some d) (.gv false .u),σ1.hp⟩ S1 w1 O1 _ ⟨by rw [Qb8]; exact jY.ctx,⟨by rw [Qbm]; exact jH.size,jU _,?_,jH.mat⟩⟩ kJ
     rw [hd]
     exact FrM.put (dst := some d) jH.fr (Ext.refl _ _ _) (fun d0 h0 => by cases h0; exact eE) (by simp only [Rep]; exact ⟨fun h => (by cases h),fun _ => trivial⟩)
    | true =>
     rw [if_pos rfl]
     simp only [hc] at kJ
     split at kJ
     ·rename_i l caps bv x z rs tl xX zG
      obtain ⟨jK,hc0,j0,xY,hK⟩ := kJ
      have hgh : ghO σ1.hp = some (caps,some (gyA true bv :: gyE x z :: rs)) := by rw [zG]; rfl
      have jC : Mat S1 w1 O1 (.hole :: (bv ++ z).map vB) := by
       have := jH.mat
       rw [zG,xY] at this
       exact Qnk this (fun _ _ h => h) _
      have jJ : Qdp P S1 w1 O1 (opv g σ1.fr) a1.eval o := by
       cases g with
       | false => exact Qc6 jH.fr o
       | true => exact Qbq jH.fr o jK
      unfold Qh4 at jM
      unfold Qdp at jJ
      cases jE : o.op <;> rw [jE] at jM jJ <;> simp only [Op.operands] at jJ <;> first | (simp at jM; done) | (try dsimp only at jM)
      case call cl =>
       split at jM
       ·rename_i f0 jS
        simp only [Qm,Qh,Qu,Qc.injEq,Prod.mk.injEq] at jM
        obtain ⟨f',hf,ods,vF,rfl,rfl⟩ := jM
        have q1 := jJ f0 (by simp [Call.operands,jS]) _ _ hf
        have qs := Qct _ _ _ vF (fun x hx => jJ x (by simp only [Call.operands,Array.mem_append]; exact .inr (by simpa using hx)))
        rw [xX] at q1
        have yU : a1.eval f0 = .func (.yield l) #[] #[] := by simpa only [Rep] using q1
        have qJ : RepL S1 w1 O1 x (cl.args.map a1.eval).toList := by
         rw [← j0]; simpa using qs.1
        have v8 : (cl.args.map a1.eval).size = x.length := by rw [← j0]; simp [qs.2]
        have eF := hC.yldh rfl (m := n - 1) (by have := jY.ctx; rw [hgh] at this; exact this) jC hc0 qJ v8
        obtain ⟨fn,tm,as0,bd,bN,kE⟩ := eF
        refine ⟨fun f _ => hF.1 f,?_⟩
        rw [Oper.semAt_eq _ _ _ (by simp [jE])]
        have bD : (execOp a1.eval o).run P w1 = .ok (.round l fn tm as0 bd) w1 := by
         have eB : (resolve a1.eval cl o.type).run P w1 = .ok { target := .fn (.yield l) #[],args := cl.args.map a1.eval } w1 := by
          simp [resolve,jS,yU,Deferred.ofValue]
         simp only [execOp,jE,Sem.run_bind,eB,Result.andThen_ok,invoke]
         exact bN
        rw [bD,Oper.uponIn_round]
        refine ⟨fun hh => by simp [hF.2.1] at hh,kE.mono ?_⟩
        rintro e w2 ⟨b,S2,O2,bv',rfl,bO,zT,y8,yR⟩
        have := hK b bv' (vL bv' bO)
        refine rest _ S2 w2 O2 _ ⟨by rw [Qb8]; exact zT,⟨by rw [Qbm]; exact jH.size,jU _,?_,Qnk yR (fun _ _ h => h) _⟩⟩ this
        rw [hd]
        refine FrM.put (dst := some d) jH.fr y8 (fun d0 h0 => by cases h0; exact eE) ?_
        unfold yres
        cases gd <;> simp [Rep]
       ·cases jM
     ·exact kJ.elim
  ·cases hy
 ·cases hy
def Qzo (i j k : Nat) : sw i j (sw i j k) = k := by
 unfold sw
 split
 ·rename_i h
  split
  ·rename_i h2; omega
  ·rw [if_pos rfl]; exact h.symm
 ·rename_i h
  split
  ·rename_i h2; rw [if_pos rfl]; exact h2.symm
  ·rename_i h2; simp [h,h2]
def Qe3 (f : Nat → Nat) : ∀ vs : List V,(renL f vs).length = vs.length
 | [] => rfl
 | _ :: vs => by simp [renL,Qe3 f vs]
mutual
theorem Qot {S : Nat → Prop} {w : World} {O O2 : OInfo} {f : Nat → Nat} (h : ∀ id,O2 (f id) = O id) : ∀ (v : V) (c : Value),Rep S w O v c → Rep S w O2 (renV f v) c
 | .u,_,_ => by simp [renV,Rep]
 | .b x,c,hr => by simpa [renV,Rep] using hr
 | .i x,c,hr => by simpa [renV,Rep] using hr
 | .z es,c,hr => by simpa [renV,Rep] using hr
 | .sl es rows,c,hr => by simpa only [renV,Rep] using hr
 | .sx es rows,c,hr => by simpa only [renV,Rep] using hr
 | .pa cs,c,hr => by simpa only [renV,Rep] using hr
 | .pn,c,hr => by simpa [renV,Rep] using hr
 | .yl l,c,hr => by simpa [renV,Rep] using hr
 | .pm _ _ _,c,hr => by simpa only [renV,Rep] using hr
 | .fb _ _,c,hr => by simpa only [renV,Rep] using hr
 | .w k n,c,hr => by simpa [renV,Rep] using hr
 | .ag cs,c,hr => by
  simp only [renV,Rep] at hr ⊢
  obtain ⟨ccs,hc,hn,hr⟩ := hr
  exact ⟨ccs,hc,by rw [Qe3]; exact hn,Qgx h cs _ hr⟩
 | .tp cs,c,hr => by
  simp only [renV,Rep] at hr ⊢
  obtain ⟨ccs,hc,hn,hr⟩ := hr
  exact ⟨ccs,hc,by rw [Qe3]; exact hn,Qgx h cs _ hr⟩
 | .fn g cs,c,hr => by
  simp only [renV,Rep] at hr ⊢
  obtain ⟨ccs,hc,hn,hr⟩ := hr
  exact ⟨ccs,hc,by rw [Qe3]; exact hn,Qgx h cs _ hr⟩
 | .gv q v,c,hr => by
  simp only [renV,Rep] at hr ⊢
  exact ⟨fun hq => Qot h v c (hr.1 hq),hr.2⟩
 | .ad id g off,c,hr => by simpa only [renV,Rep,h id] using hr
 | .rf id g off len es,c,hr => by simpa only [renV,Rep,h id] using hr
 | .mp id g,c,hr => by simpa only [renV,Rep,h id] using hr
 | .it id g,c,hr => by simpa only [renV,Rep,h id] using hr
theorem Qgx {S : Nat → Prop} {w : World} {O O2 : OInfo} {f : Nat → Nat} (h : ∀ id,O2 (f id) = O id) : ∀ (vs : List V) (cs : List Value),RepL S w O vs cs → RepL S w O2 (renL f vs) cs
 | [],_,_ => by simp [renL,RepL]
 | _ :: _,[],hr => by simp [RepL] at hr
 | v :: vs,c :: cs,hr => by
  simp only [renL,RepL] at hr ⊢
  exact ⟨Qot h v c hr.1,Qgx h vs cs hr.2⟩
end
def Zfa {O O2 : OInfo} {f : Nat → Nat} {g : Nat} {ob : Option Nat} (h : ∀ id,O2 (f id) = O id) {x : Option Blk} (hx : Qb6 S w O g ob x) : Qb6 S w O2 g ob (x.map (renB f)) := by
 unfold Qb6 at hx
 split at hx
 ·rename_i g' vs
  simp only [Qg,renB,Qb6]
  refine ⟨hx.1,?_⟩
  cases ob with
  | none => have := hx.2; simp only at this ⊢; rw [this]; rfl
  | some b =>
   obtain ⟨cur,e,hb,hr,h1⟩ := hx.2
   exact ⟨cur,e,hb,Qgx h _ _ hr,h1⟩
 ·simp only [Qg,renB,Qb6]
  obtain ⟨h0,b,es,vT,hb,h1,h3,h4,h5⟩ := hx
  exact ⟨h0,b,es,vT,hb,h1,Qgx h _ _ h3,by rw [Qe3]; exact h4,h5⟩
 ·rename_i mid n left cur
  simp only [Qg,renB,Qb6]
  obtain ⟨h0,b,m,seen,vT,hb,h1,h2⟩ := hx
  exact ⟨h0,b,m,seen,vT,hb,Qot h (.mp mid 0) _ h1,h2⟩
 ·exact hx.elim
 ·simpa only [Qg,renB,Qb6] using hx
 ·exact hx.elim
 ·exact hx.elim
def Zfm {i j : Nat} (hi : i < hp.length) (hj : j < hp.length) (k : Nat) : (swH i j hp)[k]? = (hp[sw i j k]?).map (renB (sw i j)) := by
 unfold swH
 rw [Qi hi,Qi hj]
 simp only [Qf]
 congr 1
 unfold sw
 by_cases h2 : k = j
 ·subst h2
  rw [Q6 (by rw [Zl]; exact hj)]
  split
  ·rename_i h; subst h; rw [Qi hi]
  ·rw [if_pos rfl,Qi hi]
 ·rw [Q9 (Ne.symm h2)]
  by_cases h1 : k = i
  ·subst h1
   rw [Q6 hi,if_pos rfl,Qi hj]
  ·rw [Q9 (Ne.symm h1),if_neg h1,if_neg h2]
def Zlp (h : Mat S w O hp) {i j : Nat} (hi : i < hp.length) (hj : j < hp.length) : Mat S w (fun id => O (sw i j id)) (swH i j hp) := by
 refine ⟨h.lt,fun id g b ho => h.own _ g b ho,fun id id' g g' b h1 h2 => ?_,fun id g ob ho => ?_⟩
 ·have := h.inj _ _ g g' b h1 h2
  rw [← Qzo i j id,this,Qzo]
 ·rw [Zfm hi hj]
  exact Zfa (fun id => by rw [Qzo]) (h.blk _ g ob ho)
def Qv6 (hG : GOk P Γ) (hF : Qbz F) (hC : CtxOk P F n M C lo top base) {g : Bool} {r1 r2 : List RO} {y : RO} {id : Nat} {ops : Array Oper} {o : Oper} (jW : (g || Qc5 ops) = true)
  (ho : ops[r1.length]? = some o) (h1 : (ops.toList.take r1.length).mapM (fun o => resO P pu M.nm ops o) = some r1) (hy : resC P M.nm o = some y) (h2 : (ops.toList.drop (r1.length + 1)).mapM (fun o => resO P pu M.nm ops o) = some r2)
  {Q : Exit → St → Prop} {Q' : Exit → Act → World → Prop} {σ : St} {S : Nat → Prop} {w : World} {O : OInfo} {a : Act} (hw : wpR Γ (Qar P) (.crl g r1 y r2) Q σ) (hat : At C M S w O σ a)
  (hQ : ∀ σ' S' w' O' a',Q .normal σ' → At C M S' w' O' σ' a' → Q' .normal a' w') : (Code.region id ops false).wpIn F n P Q' a w := by
 have xC : g = false → ∀ o ∈ ops,o.guard = none := by
  intro hg o ho
  subst hg
  simp only [Qy,Qc5] at jW
  have := Array.all_eq_true_iff_forall_mem.1 jW o ho
  simpa using this
 have hlt := (Array.getElem?_eq_some_iff.1 ho).1
 have qX : r2.length = ops.size - (r1.length + 1) := by
  have := congrArg Qx (Qcp h2)
  simpa using this.symm
 refine wpIn_region ?_
 have j8 : Q4 ops.size = Qd 0 r1.length ++ (r1.length :: Qd (r1.length + 1) r2.length) := by
  rw [Qr,← Qp]
  have := Q2 (s := 0) (m := r1.length) (n := r2.length + 1)
  rw [Q5] at this
  rw [this]
  congr 1
  omega
 rw [j8]
 refine Qed hG hF (pu := pu) xC _ r1 0 σ S w O a (Qej (off := 0) (cnt := r1.length) (by simpa using h1)) hw hat.sr ?_
 intro σ1 S1 w1 O1 a1 kJ zS yT jH uQ
 have jY : At C M S1 w1 O1 σ1 a1 := ⟨by rw [uQ]; exact hC.evol hat.ctx hat.sr.mat.lt yT zS,jH⟩
 have rest : ∀ (σ2 : St) S2 w2 O2 a2,At C M S2 w2 O2 σ2 a2 → runR Γ (Qar P) g 0 r2 σ2 (Q .normal) → wpOpsIn F n P ops Q' (Qd (r1.length + 1) r2.length) a2 w2 := by
  intro σ2 S2 w2 O2 a2 kD jB
  have := Qed hG hF (pu := pu) (n := n) (Q := Q') xC [] r2 (r1.length + 1) σ2 S2 w2 O2 a2 (Qej (off := r1.length + 1) (cnt := ops.size) (by
   rw [Ql (by simp)]; exact h2)) jB kD.sr (fun τ S' w' O' a' hK hgh jD jL hd => by
    rw [wpOpsIn]
    exact hQ τ S' w' O' a' hK ⟨by rw [hd]; exact hC.evol kD.ctx kD.sr.mat.lt jD hgh,jL⟩)
  simpa using this
 rw [wpOpsIn_cons]
 simp only [wpOpIn,ho]
 unfold resC at hy
 split at hy
 ·rename_i xT
  simp only [Qb] at xT
  obtain ⟨yV,vS⟩ := xT
  have zU : o.guard = none := by simpa using vS
  rw [Qa] at hy
  obtain ⟨⟨f,xs⟩,jM,rfl⟩ := hy
  simp only at kJ
  have vC : ∀ d,o.dst = some d → d < M.n ∧ M.md ≤ d := fun d hd => by rw [hd] at yV; exact Qc1 yV
  have jU : ∀ (c : Value) t,t < M.md → (a1.put o.dst c).tmps.getD t undef = M.T t := fun c t ht => (Qfs a1 o.dst c t fun d' hd' => by have := (vC d' hd').2; omega).trans (jH.kept t ht)
  have j9 : Region.wanted o (yielded ops a1.tmps) = true := by simp [Region.wanted,zU]
  rw [if_pos j9]
  split at kJ
  ·rename_i gf caps xX
   obtain ⟨jK,vP,gD,yG,hK⟩ := kJ
   obtain ⟨hen,hrel⟩ := hG.rel gf _ vP yG
   have jJ : Qdp P S1 w1 O1 (opv g σ1.fr) a1.eval o := by
    cases g with
    | false => exact Qc6 jH.fr o
    | true => exact Qbq jH.fr o jK
   unfold Qh4 at jM
   unfold Qdp at jJ
   cases jE : o.op <;> rw [jE] at jM jJ <;> simp only [Op.operands] at jJ <;> first | (simp at jM; done) | (try dsimp only at jM)
   case call cl =>
    split at jM
    ·rename_i f0 jS
     simp only [Qm,Qh,Qu,Qc.injEq,Prod.mk.injEq] at jM
     obtain ⟨f',hf,ods,vF,rfl,rfl⟩ := jM
     have q1 := jJ f0 (by simp [Call.operands,jS]) _ _ hf
     have qs := Qct _ _ _ vF (fun x hx => jJ x (by simp only [Call.operands,Array.mem_append]; exact .inr (by simpa using hx)))
     rw [xX] at q1
     simp only [Rep] at q1
     obtain ⟨ccs,hc,hn,kH⟩ := q1
     have jR := RepL.append _ _ _ _ qs.1 (by simp [qs.2]) kH
     have k9 := Qzf hrel jH.mat (cargs := cl.args.map a1.eval ++ ccs) (by simp [qs.2,hn]) (Qmo _ _ gD (by simpa using jR))
     refine Qf5 (w' := w1) (f := gf) (args := cl.args.map a1.eval ++ ccs) hF (by simp [jE]) ?_ (k9.mono ?_)
     ·have hd : (resolve a1.eval cl o.type).run P w1 = .ok { target := .fn (.func gf) ccs,args := cl.args.map a1.eval } w1 := by
       simp [resolve,jS,hc,Deferred.ofValue]
      simp only [execOp,jE,Sem.run_bind,hd,Result.andThen_ok,invoke]
      exact hen _ _
     ·rintro e w2 ⟨v,S2,O2,r,bs0,rfl,⟨bs,rfl,hR⟩,jD,jC,hrep⟩
      refine ⟨v,rfl,rest _ S2 w2 O2 _ ⟨?_,⟨by rw [Qbm]; exact jH.size,jU _,?_,jC⟩⟩ (hK r bs hR)⟩
      ·rw [Qb8]
       exact hC.evol jY.ctx jH.mat.lt jD fun y hy => Qg2 hy
      ·exact FrM.put jH.fr jD.ext (fun d hd => by rw [jH.size]; exact (vC d hd).1) hrep
    ·cases jM
  ·exact kJ.elim
 ·cases hy
def Qvr (hG : GOk P Γ) (hF : Qbz F) (hC : CtxOk P F n M C lo top base) {g : Bool} {r1 r2 : List RO} {y : RO} {id : Nat} {ops : Array Oper} {o : Oper} (jW : (g || Qc5 ops) = true)
  (ho : ops[r1.length]? = some o) (h1 : (ops.toList.take r1.length).mapM (fun o => resO P pu M.nm ops o) = some r1) (hy : resC P M.nm o = some y) (h2 : (ops.toList.drop (r1.length + 1)).mapM (fun o => resO P pu M.nm ops o) = some r2)
  {Q : Exit → St → Prop} {Q' : Exit → Act → World → Prop} {σ : St} {S : Nat → Prop} {w : World} {O : OInfo} {a : Act} (hw : wpR Γ (Qar P) (.hcl g r1 y r2) Q σ) (hat : At C M S w O σ a)
  (hQ : ∀ σ' S' w' O' a',Q .normal σ' → At C M S' w' O' σ' a' → Q' .normal a' w') : (Code.region id ops false).wpIn F n P Q' a w := by
 have xC : g = false → ∀ o ∈ ops,o.guard = none := by
  intro hg o ho
  subst hg
  simp only [Qy,Qc5] at jW
  have := Array.all_eq_true_iff_forall_mem.1 jW o ho
  simpa using this
 have hlt := (Array.getElem?_eq_some_iff.1 ho).1
 have qX : r2.length = ops.size - (r1.length + 1) := by
  have := congrArg Qx (Qcp h2)
  simpa using this.symm
 refine wpIn_region ?_
 have j8 : Q4 ops.size = Qd 0 r1.length ++ (r1.length :: Qd (r1.length + 1) r2.length) := by
  rw [Qr,← Qp]
  have := Q2 (s := 0) (m := r1.length) (n := r2.length + 1)
  rw [Q5] at this
  rw [this]
  congr 1
  omega
 rw [j8]
 refine Qed hG hF (pu := pu) xC _ r1 0 σ S w O a (Qej (off := 0) (cnt := r1.length) (by simpa using h1)) hw hat.sr ?_
 intro σ1 S1 w1 O1 a1 kJ zS yT jH uQ
 have jY : At C M S1 w1 O1 σ1 a1 := ⟨by rw [uQ]; exact hC.evol hat.ctx hat.sr.mat.lt yT zS,jH⟩
 have rest : ∀ (σ2 : St) S2 w2 O2 a2,At C M S2 w2 O2 σ2 a2 → runR Γ (Qar P) g 0 r2 σ2 (Q .normal) → wpOpsIn F n P ops Q' (Qd (r1.length + 1) r2.length) a2 w2 := by
  intro σ2 S2 w2 O2 a2 kD jB
  have := Qed hG hF (pu := pu) (n := n) (Q := Q') xC [] r2 (r1.length + 1) σ2 S2 w2 O2 a2 (Qej (off := r1.length + 1) (cnt := ops.size) (by
   rw [Ql (by simp)]; exact h2)) jB kD.sr (fun τ S' w' O' a' hK hgh jD jL hd => by
    rw [wpOpsIn]
    exact hQ τ S' w' O' a' hK ⟨by rw [hd]; exact hC.evol kD.ctx kD.sr.mat.lt jD hgh,jL⟩)
  simpa using this
 rw [wpOpsIn_cons]
 simp only [wpOpIn,ho]
 unfold resC at hy
 split at hy
 ·rename_i xT
  simp only [Qb] at xT
  obtain ⟨yV,vS⟩ := xT
  have zU : o.guard = none := by simpa using vS
  rw [Qa] at hy
  obtain ⟨⟨f,xs⟩,jM,rfl⟩ := hy
  simp only at kJ
  have vC : ∀ d,o.dst = some d → d < M.n ∧ M.md ≤ d := fun d hd => by rw [hd] at yV; exact Qc1 yV
  have jU : ∀ (c : Value) t,t < M.md → (a1.put o.dst c).tmps.getD t undef = M.T t := fun c t ht => (Qfs a1 o.dst c t fun d' hd' => by have := (vC d' hd').2; omega).trans (jH.kept t ht)
  have j9 : Region.wanted o (yielded ops a1.tmps) = true := by simp [Region.wanted,zU]
  rw [if_pos j9]
  split at kJ
  ·rename_i gf caps xX
   obtain ⟨jK,yG,hK⟩ := kJ
   obtain ⟨hen,hgh,hheap⟩ := hG.heap gf _ _ yG
   have jJ : Qdp P S1 w1 O1 (opv g σ1.fr) a1.eval o := by
    cases g with
    | false => exact Qc6 jH.fr o
    | true => exact Qbq jH.fr o jK
   unfold Qh4 at jM
   unfold Qdp at jJ
   cases jE : o.op <;> rw [jE] at jM jJ <;> simp only [Op.operands] at jJ <;> first | (simp at jM; done) | (try dsimp only at jM)
   case call cl =>
    split at jM
    ·rename_i f0 jS
     simp only [Qm,Qh,Qu,Qc.injEq,Prod.mk.injEq] at jM
     obtain ⟨f',hf,ods,vF,rfl,rfl⟩ := jM
     have q1 := jJ f0 (by simp [Call.operands,jS]) _ _ hf
     have qs := Qct _ _ _ vF (fun x hx => jJ x (by simp only [Call.operands,Array.mem_append]; exact .inr (by simpa using hx)))
     rw [xX] at q1
     simp only [Rep] at q1
     obtain ⟨ccs,hc,hn,kH⟩ := q1
     have jR := RepL.append _ _ _ _ qs.1 (by simp [qs.2]) kH
     have k9 := hheap S1 w1 O1 (cl.args.map a1.eval ++ ccs) jH.mat (by simp [qs.2,hn]) (by simpa using jR)
     refine Qf5 (w' := w1) (f := gf) (args := cl.args.map a1.eval ++ ccs) hF (by simp [jE]) ?_ (k9.mono ?_)
     ·have hd : (resolve a1.eval cl o.type).run P w1 = .ok { target := .fn (.func gf) ccs,args := cl.args.map a1.eval } w1 := by
       simp [resolve,jS,hc,Deferred.ofValue]
      simp only [execOp,jE,Sem.run_bind,hd,Result.andThen_ok,invoke]
      exact hen _ _
     ·rintro e w2 ⟨v,S2,O2,r,hp',rfl,hR,jD,jC,hrep⟩
      refine ⟨v,rfl,rest _ S2 w2 O2 _ ⟨?_,⟨by rw [Qbm]; exact jH.size,jU _,?_,jC⟩⟩ (hK r hp' hR)⟩
      ·rw [Qb8]
       exact hC.evol jY.ctx jH.mat.lt jD (hgh r hp' hR)
      ·exact FrM.put jH.fr jD.ext (fun d hd => by rw [jH.size]; exact (vC d hd).1) hrep
    ·cases jM
  ·exact kJ.elim
 ·cases hy
def Qiq (w : World) (t e : TypeId) (a : Option Addr) (l c : Nat) (h : P.underlying t = some (.slice e)) : (binOp .eql t (.slice a l c) (.slice none 0 0)).run P w = .ok (.bool a.isNone) w := by
 have h1 : ∀ d,(Op.equalIn (d + 1) t (.slice a l c) (.slice none 0 0)).run P w = .ok a.isNone w := fun d => by
  cases a <;> simp [Op.equalIn,run_underlying h]
 simp only [binOp]
 simp [Op.equal,Op.maxDepth,h1 9999]
def Qx8 (hG : GOk P Γ) (hF : Qbz F) (hC : CtxOk P F n M C lo top base) {g : Bool} {r1 r2 : List RO} {y : RO} {id : Nat} {ops : Array Oper} {o : Oper} (jW : (g || Qc5 ops) = true)
  (ho : ops[r1.length]? = some o) (h1 : (ops.toList.take r1.length).mapM (fun o => resO P pu M.nm ops o) = some r1) (hy : resN P M.nm o = some y) (h2 : (ops.toList.drop (r1.length + 1)).mapM (fun o => resO P pu M.nm ops o) = some r2)
  {Q : Exit → St → Prop} {Q' : Exit → Act → World → Prop} {σ : St} {S : Nat → Prop} {w : World} {O : OInfo} {a : Act} (hw : wpR Γ (Qar P) (.rnl g r1 y r2) Q σ) (hat : At C M S w O σ a)
  (hQ : ∀ σ' S' w' O' a',Q .normal σ' → At C M S' w' O' σ' a' → Q' .normal a' w') : (Code.region id ops false).wpIn F n P Q' a w := by
 have xC : g = false → ∀ o ∈ ops,o.guard = none := by
  intro hg o ho
  subst hg
  simp only [Qy,Qc5] at jW
  have := Array.all_eq_true_iff_forall_mem.1 jW o ho
  simpa using this
 have hlt := (Array.getElem?_eq_some_iff.1 ho).1
 have qX : r2.length = ops.size - (r1.length + 1) := by
  have := congrArg Qx (Qcp h2)
  simpa using this.symm
 refine wpIn_region ?_
 have j8 : Q4 ops.size = Qd 0 r1.length ++ (r1.length :: Qd (r1.length + 1) r2.length) := by
  rw [Qr,← Qp]
  have := Q2 (s := 0) (m := r1.length) (n := r2.length + 1)
  rw [Q5] at this
  rw [this]
  congr 1
  omega
 rw [j8]
 refine Qed hG hF (pu := pu) xC _ r1 0 σ S w O a (Qej (off := 0) (cnt := r1.length) (by simpa using h1)) hw hat.sr ?_
 intro σ1 S1 w1 O1 a1 kJ zS yT jH uQ
 have jY : At C M S1 w1 O1 σ1 a1 := ⟨by rw [uQ]; exact hC.evol hat.ctx hat.sr.mat.lt yT zS,jH⟩
 have rest : ∀ (σ2 : St) S2 w2 O2 a2,At C M S2 w2 O2 σ2 a2 → runR Γ (Qar P) g 0 r2 σ2 (Q .normal) → wpOpsIn F n P ops Q' (Qd (r1.length + 1) r2.length) a2 w2 := by
  intro σ2 S2 w2 O2 a2 kD jB
  have := Qed hG hF (pu := pu) (n := n) (Q := Q') xC [] r2 (r1.length + 1) σ2 S2 w2 O2 a2 (Qej (off := r1.length + 1) (cnt := ops.size) (by
   rw [Ql (by simp)]; exact h2)) jB kD.sr (fun τ S' w' O' a' hK hgh jD jL hd => by
    rw [wpOpsIn]
    exact hQ τ S' w' O' a' hK ⟨by rw [hd]; exact hC.evol kD.ctx kD.sr.mat.lt jD hgh,jL⟩)
  simpa using this
 rw [wpOpsIn_cons]
 simp only [wpOpIn,ho]
 unfold resN at hy
 split at hy
 ·rename_i xT
  simp only [Qb] at xT
  obtain ⟨yV,vS⟩ := xT
  have zU : o.guard = none := by simpa using vS
  have vC : ∀ d,o.dst = some d → d < M.n ∧ M.md ≤ d := fun d hd => by rw [hd] at yV; exact Qc1 yV
  have jU : ∀ (c : Value) t,t < M.md → (a1.put o.dst c).tmps.getD t undef = M.T t := fun c t ht => (Qfs a1 o.dst c t fun d' hd' => by have := (vC d' hd').2; omega).trans (jH.kept t ht)
  have j9 : Region.wanted o (yielded ops a1.tmps) = true := by simp [Region.wanted,zU]
  rw [if_pos j9]
  split at hy
  ·rename_i t x yt jE
   simp only [Qh,Qa] at hy
   obtain ⟨e,he,f,hf,rfl⟩ := hy
   have ht : P.underlying t = some (.slice e) := by
    unfold elB at he
    split at he
    ·rename_i e' h'; cases he; exact h'
    ·cases he
   simp only at kJ
   have key : ∀ v,opv g σ1.fr f = v → Qbp g ⟨o.dst,none,o.op.operands.toList.filterMap Qfh,none,.q (.len f)⟩ σ1.fr → Rep S1 w1 O1 v (a1.eval x) := by
    intro v hv jK
    have jJ : Qdp P S1 w1 O1 (opv g σ1.fr) a1.eval o := by
     cases g with
     | false => exact Qc6 jH.fr o
     | true => exact Qbq jH.fr o jK
    have := jJ x (by rw [jE]; simp [Op.operands]) _ _ hf
    rw [hv] at this
    exact this
   have fin : ∀ (ad : Option Addr) (m c : Nat),a1.eval x = .slice ad m c → runR Γ (Qar P) g 0 r2 ⟨upd σ1.fr o.dst (.b ad.isNone),σ1.hp⟩ (Q .normal) →
     o.wpIn F n P a1 w1 (wpOpsIn F n P ops Q' (Qd (r1.length + 1) r2.length)) Q' := by
    intro ad m c hx jB
    refine Qb9 (c := .bool ad.isNone) (w' := w1) hF (by simp [jE]) ?_ ?_
    ·have hb := Qiq (P := P) w1 t e ad m c ht
     have h2 : a1.eval (.const (.slice none 0 0)) = .slice none 0 0 := rfl
     have hg2 : (do eqGuard .eql t x (.const (.slice none 0 0)) (.slice ad m c) (.slice none 0 0); binOp .eql t (.slice ad m c) (.slice none 0 0) : Sem Value).run P w1 = .ok (.bool ad.isNone) w1 := by
      simp [eqGuard,hb]
     simp only [execOp,jE,hx,h2,Sem.run_bind,Sem.run_pure]
     simp only [Sem.run_bind] at hg2
     rw [hg2]; rfl
    ·refine rest ⟨upd σ1.fr o.dst (.b ad.isNone),σ1.hp⟩ S1 w1 O1 _ ⟨by rw [Qb8]; exact jY.ctx,⟨by rw [Qbm]; exact jH.size,jU _,?_,jH.mat⟩⟩ jB
     exact FrM.put jH.fr (Ext.refl _ _ _) (fun d hd => by rw [jH.size]; exact (vC d hd).1) (by simp [Rep])
   split at kJ
   ·rename_i es rows xX
    have hr := key _ xX kJ.1
    simp only [Rep] at hr
    obtain ⟨ad,cap,hc,_,hrow⟩ := hr
    refine fin ad _ _ hc (kJ.2 _ fun j7 => ?_)
    rcases hrow with h | ⟨blk,off,cur,e',fr,h,_⟩
    ·exact absurd h j7
    ·rw [h]; rfl
   ·rename_i es xX
    have hr := key _ xX kJ.1
    simp only [Rep] at hr
    obtain ⟨ad,hc⟩ := hr
    exact fin ad _ _ hc (kJ.2 _)
   ·exact kJ.elim
  ·cases hy
 ·cases hy
def Anc.trans {ops : Array Oper} {i j k : Nat} (h : Anc ops i j) (h' : Anc ops j k) : Anc ops i k := by
 induction h' with
 | base ho he hb e => exact .step ho he hb (e ▸ h)
 | step ho he hb _ ih => exact .step ho he hb ih
def Qtg {rs : List RO} {l : List AnyOp} {q : Nat} {z : AnyOp} (h : (zipX rs l)[q]? = some z) : ∃ r,rs[q]? = some r ∧ ({ z.o with nid := none } : RO) = { r with nid := none } := by
 unfold zipX at h
 rw [Zo] at h
 cases hr : rs[q]? with
 | none => simp [hr] at h
 | some r =>
  cases hl : l[q]? with
  | none => simp [hr,hl] at h
  | some x =>
   simp only [hr,hl,Qc.injEq] at h
   subst h
   exact ⟨r,rfl,rfl⟩
def Zm2 (hF : Qbz F) (vL : ∀ bv,M.al bv → Γ.al bv) (hC : CtxOk P F n M C lo 3 base) {g : Bool} {y : RO} {ops : Array Oper} {i : Nat} {o : Oper} (xC : g = false → ∀ o ∈ ops,o.guard = none)
  (ho : ops[i]? = some o) (hy : resC P M.nm o = some y) {K : St → Prop} {Q' : Exit → Act → World → Prop} {σ1 : St} {S1 : Nat → Prop} {w1 : World} {O1 : OInfo} {a1 : Act}
  (kJ : match y.x with
   | .o f args => match opv g σ1.fr f,σ1.hp with
    | .yl l,.gh caps (some ((.b true :: bv) :: [.tp x,.tp z] :: rest)) :: tl => Qbp g y σ1.fr ∧ caps[0]? = some (.yl l) ∧ args.map (opv g σ1.fr) = x ∧ tl = (bv ++ z).map vB ∧
      ∀ (b : Bool) bv',Γ.al bv' → K ⟨upd σ1.fr y.dst (.b b),.gh caps (some ((.b b :: bv') :: if b then rest else [])) :: (bv' ++ z).map vB⟩
    | _,_ => False
   | _ => False) (jY : At C M S1 w1 O1 σ1 a1) {KK : Act → World → Prop} (hK0 : ∀ σ2 S2 w2 O2 a2,K σ2 → At C M S2 w2 O2 σ2 a2 → KK a2 w2) : wpOpIn F n P ops Q' i KK a1 w1 := by
 have jH := jY.sr
 simp only [wpOpIn,ho]
 unfold resC at hy
 split at hy
 ·rename_i xT
  simp only [Qb] at xT
  obtain ⟨yV,vS⟩ := xT
  have zU : o.guard = none := by simpa using vS
  rw [Qa] at hy
  obtain ⟨⟨f,xs⟩,jM,rfl⟩ := hy
  simp only at kJ
  have vC : ∀ d,o.dst = some d → d < M.n ∧ M.md ≤ d := fun d hd => by rw [hd] at yV; exact Qc1 yV
  have jU : ∀ (c : Value) t,t < M.md → (a1.put o.dst c).tmps.getD t undef = M.T t := fun c t ht => (Qfs a1 o.dst c t fun d' hd' => by have := (vC d' hd').2; omega).trans (jH.kept t ht)
  have j9 : Region.wanted o (yielded ops a1.tmps) = true := by simp [Region.wanted,zU]
  rw [if_pos j9]
  split at kJ
  ·rename_i l caps bv x z rs tl xX zG
   obtain ⟨jK,hc0,j0,xY,hK⟩ := kJ
   have hgh : ghO σ1.hp = some (caps,some (gyA true bv :: gyE x z :: rs)) := by rw [zG]; rfl
   have jC : Mat S1 w1 O1 (.hole :: (bv ++ z).map vB) := by
    have := jH.mat
    rw [zG,xY] at this
    exact Qnk this (fun _ _ h => h) _
   have jJ : Qdp P S1 w1 O1 (opv g σ1.fr) a1.eval o := by
    cases g with
    | false => exact Qc6 jH.fr o
    | true => exact Qbq jH.fr o jK
   unfold Qh4 at jM
   unfold Qdp at jJ
   cases jE : o.op <;> rw [jE] at jM jJ <;> simp only [Op.operands] at jJ <;> first | (simp at jM; done) | (try dsimp only at jM)
   case call cl =>
    split at jM
    ·rename_i f0 jS
     simp only [Qm,Qh,Qu,Qc.injEq,Prod.mk.injEq] at jM
     obtain ⟨f',hf,ods,vF,rfl,rfl⟩ := jM
     have q1 := jJ f0 (by simp [Call.operands,jS]) _ _ hf
     have qs := Qct _ _ _ vF (fun x hx => jJ x (by simp only [Call.operands,Array.mem_append]; exact .inr (by simpa using hx)))
     rw [xX] at q1
     have yU : a1.eval f0 = .func (.yield l) #[] #[] := by simpa only [Rep] using q1
     have qJ : RepL S1 w1 O1 x (cl.args.map a1.eval).toList := by
      rw [← j0]; simpa using qs.1
     have v8 : (cl.args.map a1.eval).size = x.length := by rw [← j0]; simp [qs.2]
     have eF := hC.yldh rfl (m := n - 1) (by have := jY.ctx; rw [hgh] at this; exact this) jC hc0 qJ v8
     obtain ⟨fn,tm,as0,bd,bN,kE⟩ := eF
     refine ⟨fun f _ => hF.1 f,?_⟩
     rw [Oper.semAt_eq _ _ _ (by simp [jE])]
     have bD : (execOp a1.eval o).run P w1 = .ok (.round l fn tm as0 bd) w1 := by
      have eB : (resolve a1.eval cl o.type).run P w1 = .ok { target := .fn (.yield l) #[],args := cl.args.map a1.eval } w1 := by
       simp [resolve,jS,yU,Deferred.ofValue]
      simp only [execOp,jE,Sem.run_bind,eB,Result.andThen_ok,invoke]
      exact bN
     rw [bD,Oper.uponIn_round]
     refine ⟨fun hh => by simp [hF.2.1] at hh,kE.mono ?_⟩
     rintro e w2 ⟨b,S2,O2,bv',rfl,bO,zT,y8,yR⟩
     refine hK0 _ S2 w2 O2 _ (hK b bv' (vL bv' bO)) ⟨by rw [Qb8]; exact zT,⟨by rw [Qbm]; exact jH.size,jU _,?_,Qnk yR (fun _ _ h => h) _⟩⟩
     exact FrM.put jH.fr y8 (fun d hd => by rw [jH.size]; exact (vC d hd).1) (by simp [Rep])
    ·cases jM
  ·exact kJ.elim
 ·cases hy
def Qxr (hG : GOk P Γ) (hF : Qbz F) (vL : ∀ bv,M.al bv → Γ.al bv) (hm : P.follows .mixedOrders = true) (hC : CtxOk P F n M C lo 3 base) {g : Bool} {m1 m2 : Nat} {l1 l2 : List AnyOp} {r1 r2 : List RO} {y1 : RO} {y : AnyOp} {id : Nat} {ops : Array Oper} {o : Oper}
  (jW : (g || Qc5 ops) = true) (ho : ops[l1.length]? = some o) (h1 : (ops.toList.take l1.length).mapM (fun o => resO P pu M.nm ops o) = some r1) (hy : resC P M.nm o = some y1) (h2 : (ops.toList.drop (l1.length + 1)).mapM (fun o => resO P pu M.nm ops o) = some r2)
  (xA : Zd8 ops r1 l1 y1 y r2 l2 = true) {Q : Exit → St → Prop} {Q' : Exit → Act → World → Prop} {σ : St} {S : Nat → Prop} {w : World} {O : OInfo} {a : Act} (hw : wpR Γ (Qar P) (.yrx g m1 (zipX r1 l1) ⟨y1,[],y.an⟩ m2 (zipX r2 l2)) Q σ) (hat : At C M S w O σ a)
  (hQ : ∀ σ' S' w' O' a',Q .normal σ' → At C M S' w' O' σ' a' → Q' .normal a' w') : (Code.region id ops true).wpIn F n P Q' a w := by
 have xC : g = false → ∀ o ∈ ops,o.guard = none := by
  intro hg o ho
  subst hg
  simp only [Qy,Qc5] at jW
  have := Array.all_eq_true_iff_forall_mem.1 jW o ho
  simpa using this
 unfold Zd8 at xA
 simp only [Qb,decide_eq_true_eq] at xA
 obtain ⟨⟨⟨⟨⟨hp,ha⟩,e1⟩,e2⟩,lG⟩,lH⟩ := xA
 have hL := (Array.getElem?_eq_some_iff.1 ho).1
 have qU : (zipX r1 l1).length = l1.length := by simp [zipX,e1]
 have gG : (zipX r2 l2).length = ops.size - (l1.length + 1) := by
  have := congrArg Qx (Qcp h2)
  simp at this
  simp [zipX,← e2,← this]
 have eK : ∀ q z,(zipX r1 l1)[q]? = some z → (zipX r1 l1 ++ ⟨y1,[],y.an⟩ :: zipX r2 l2)[0 + q]? = some z := by
  intro q z hz
  rw [Q5,Qo (Qag hz)]; exact hz
 have hsubL : (zipX r1 l1 ++ ⟨y1,[],y.an⟩ :: zipX r2 l2)[l1.length]? = some ⟨y1,[],y.an⟩ := by
  rw [Qt (by omega),qU,Nat.sub_self]; rfl
 have w8 : ∀ q z,(zipX r2 l2)[q]? = some z → (zipX r1 l1 ++ ⟨y1,[],y.an⟩ :: zipX r2 l2)[l1.length + 1 + q]? = some z := by
  intro q z hz
  rw [Qt (by omega),qU,show l1.length + 1 + q - l1.length = q + 1 by omega]; exact hz
 have qH : ∀ q z,(zipX r1 l1)[q]? = some z → ∃ o,ops[0 + q]? = some o ∧ resO P pu M.nm ops o = some { z.o with nid := none } := by
  intro q z hz
  obtain ⟨r,hr,e⟩ := Qtg hz
  rw [e]
  exact Qej (off := 0) (cnt := l1.length) (by simpa using h1) q r hr
 have yF : ∀ q z,(zipX r2 l2)[q]? = some z → ∃ o,ops[l1.length + 1 + q]? = some o ∧ resO P pu M.nm ops o = some { z.o with nid := none } := by
  intro q z hz
  obtain ⟨r,hr,e⟩ := Qtg hz
  rw [e]
  exact Qej (off := l1.length + 1) (cnt := ops.size) (by rw [Ql (by simp)]; exact h2) q r hr
 have hancL : ∀ i,i < l1.length → Anc ops i l1.length := fun i hi =>
  (Qdq ha _ _ hsubL hL).1 i (by have := Qj.1 lG i (by simpa using hi); simpa using this)
 have hancU : ∀ u,l1.length < u → u < ops.size → Anc ops l1.length u := by
  intro u h1 h2
  obtain ⟨z,hz⟩ : ∃ z,(zipX r2 l2)[u - (l1.length + 1)]? = some z := ⟨_,Qi (by omega)⟩
  have hz' := w8 _ _ hz
  rw [show l1.length + 1 + (u - (l1.length + 1)) = u by omega] at hz'
  exact (Qdq ha _ _ hz' h2).1 _ (by have := Qj.1 lH z (Q0 hz); simpa using this)
 refine wpIn_region_any hm ?_
 obtain ⟨rest1,τ1,k1,k2,k3,k4,k5,k6⟩ := Qq1 (k := 0) (M := M) (pu := pu) eK hp ha qH rfl hw
 refine Qxu hG hF xC (pu := pu) (M := M) (U := fun i => l1.length ≤ i ∧ i < ops.size) (extra := ops.size - l1.length) ops.size rest1 _ _ S _ O a ?_ ?_ k3 k4 ?_ ?_ ?_ k5 ⟨hat.sr.size,hat.sr.kept,hat.sr.fr.ext (Qkm _ _ _),Qoi (Qhp hat.sr.mat _)⟩ ?_
 ·omega
 ·intro i
  rw [k2,qU]
  constructor
  ·intro h
   rcases Zx i ops.size with h' | h'
   ·omega
   ·simp [Nat.not_lt.2 h'] at h
  ·intro h
   have : i < ops.size := by omega
   simp [this]
 ·intro x hx u hu
  have hxl := ((k2 x.1).1 ⟨x,hx,rfl⟩).2
  rw [qU] at hxl
  refine ⟨?_,by omega⟩
  rcases Zv hu.1 with h | h
  ·exact (hancL _ (by omega)).trans (hancU u h hu.2)
  ·rw [← h]; exact hancL _ (by omega)
 ·intro i j _ hj
  exfalso
  by_cases h : j < ops.size <;> simp [h] at hj
 ·intro i hi
  simpa using hi
 ·intro fuel' listed' S1 w1 O1 a1 nA hl hcl hsz yT jH uQ
  obtain ⟨fuel,rfl⟩ : ∃ f,fuel' = f + 1 := ⟨fuel' - 1,by omega⟩
  have hLf : listed'.getD l1.length true = false := (hl _).2 ⟨Qk _,hL⟩
  have qK : ∀ i,i < l1.length → listed'.getD i false = true := by
   intro i hi
   have h3 : ¬ listed'.getD i true = false := fun h => by have := (hl i).1 h; omega
   have h4 := hsz i (by omega)
   simp [h4] at h3 ⊢
   exact h3
  have eL : ∀ i,i ∈ Region.ready .any ops listed' → i = l1.length := by
   intro i hi
   rw [mem_ready] at hi
   obtain ⟨h0,o',ho',jR⟩ := hi
   obtain ⟨h3,h4⟩ := (hl i).1 h0
   rcases Zv h3 with h | h
   ·exfalso
    have h5 : listed'.getD l1.length false = true := by
     cases hancU i h h4 with
     | base yH he hb e => rw [ho'] at yH; cases yH; rw [← e]; exact jR _ he hb
     | step yH he hb e => rw [ho'] at yH; cases yH; exact hcl _ _ e (jR _ he hb)
    cases kA : listed'[l1.length]? with
    | none => simp [kA] at hLf
    | some b => simp [kA] at hLf h5; simp_all
   ·exact h.symm
  have zP : l1.length ∈ Region.ready .any ops listed' := by
   rw [mem_ready]
   exact ⟨hLf,o,ho,fun e he hb => qK _ ((Qdq ha _ _ hsubL hL).2 o ho e he hb)⟩
  refine ⟨fun qE => (by rw [qE] at zP; cases zP),fun i hi => ?_⟩
  have := eL i hi
  subst this
  have jY : At C M S1 w1 O1 τ1 a1 := ⟨by rw [uQ]; exact hC.evol hat.ctx hat.sr.mat.lt ((Ql9 S w O).trans yT) fun y hy => RunD.gh _ _ _ k5 (Qg2 hy),jH⟩
  refine Zm2 hF vL hC xC ho hy (K := fun σ2 => runX Γ (Qar P) g σ2.hp.length (zipX r2 l2) (Q1 ((zipX r1 l1).length + 1) ⟨none,[]⟩) ⟨σ2.fr,σ2.hp ++ Q1 m2 .hole⟩ (Q .normal)) k6 jY ?_
  intro σ2 S2 w2 O2 a2 hK2 kD
  obtain ⟨rest2,τ2,j1,j2,j3,j4,j5,j6⟩ := Qq1 (k := l1.length + 1) (M := M) (pu := pu) w8 hp ha yF (by simp [qU]) hK2
  refine Qp7 hG hF xC (pu := pu) (M := M) fuel rest2 _ _ S2 _ O2 a2 ?_ ?_ j3 j4 ?_ ?_ j5 ⟨kD.sr.size,kD.sr.kept,kD.sr.fr,Qhp kD.sr.mat _⟩ ?_
  ·omega
  ·intro i
   rw [j2,gG]
   by_cases hi : i = l1.length
   ·subst hi
    have := hsz _ hL
    simp [this]
    omega
   ·rw [getD_set_ne true (Ne.symm hi),hl]
    omega
  ·intro i j yL hj
   by_cases hjL : j = l1.length
   ·subst hjL
    refine getD_set_true ?_
    have := (Qdq ha _ _ hsubL hL).2 o ho
    cases yL with
    | base yH he hb e => rw [ho] at yH; cases yH; rw [← e]; exact qK _ (this _ he hb)
    | step yH he hb e => rw [ho] at yH; cases yH; exact hcl _ _ e (qK _ (this _ he hb))
   ·rw [getD_set_ne false (Ne.symm hjL)] at hj
    exact getD_set_true (hcl i j yL hj)
  ·intro i hi
   simpa using hsz i hi
  ·intro S' w' O' a' jD jL hd
   exact hQ _ _ _ _ _ j6 ⟨by rw [hd]; exact hC.evol kD.ctx kD.sr.mat.lt jD fun y hy => RunD.gh _ _ _ j5 (Qg2 hy),jL⟩
structure ExtN (lo : Nat) (S S' : Nat → Prop) (w w' : World) (O O' : OInfo) : Prop where
 keep : ∀ n,S n → S' n ∧ w'.heap[n]? = w.heap[n]?
 own : ∀ id g ob,id < lo → O id = some (g,ob) → ∃ g' ob',O' id = some (g',ob') ∧ g ≤ g' ∧ (g' = g → ob' = ob ∧
  (∀ b cur e,ob = some b → w.heap[b]? = some (.cells cur e (0,0)) → ∃ cur',w'.heap[b]? = some (.cells cur' e (0,0)) ∧ cur'.size = cur.size))
def ExtN.refl (lo : Nat) (S : Nat → Prop) (w : World) (O : OInfo) : ExtN lo S S w w O O :=
 ⟨fun _ h => ⟨h,rfl⟩,fun _ g ob _ h => ⟨g,ob,h,Qk _,fun _ => ⟨rfl,fun _ cur _ _ hb => ⟨cur,hb,rfl⟩⟩⟩⟩
def ExtN.then {lo : Nat} {S S' S'' : Nat → Prop} {w w' w'' : World} {O O' O'' : OInfo} (h : ExtN lo S S' w w' O O') (k : Ext S' S'' w' w'' O' O'') : ExtN lo S S'' w w'' O O'' := by
 refine ⟨fun n hn => ⟨(k.keep n (h.keep n hn).1).1,((k.keep n (h.keep n hn).1).2).trans (h.keep n hn).2⟩,fun id g ob hl ho => ?_⟩
 obtain ⟨g',ob',ho',hg,h1⟩ := h.own id g ob hl ho
 obtain ⟨g'',ob'',ho'',hg',h2⟩ := k.own id g' ob' ho'
 refine ⟨g'',ob'',ho'',Zz hg hg',fun e => ?_⟩
 obtain ⟨a1,a2⟩ := h1 (by omega)
 obtain ⟨b1,b2⟩ := h2 (by omega)
 refine ⟨b1.trans a1,fun b cur e hb hh => ?_⟩
 obtain ⟨cur',hh',hs⟩ := a2 b cur e hb hh
 obtain ⟨cur'',hh'',hs'⟩ := b2 b cur' e (a1.trans hb) hh'
 exact ⟨cur'',hh'',hs'.trans hs⟩
def ExtN.cut {lo : Nat} {S S' : Nat → Prop} {w w' : World} {O O' : OInfo} (h : ExtN lo S S' w w' O O') {k : Nat} (hk : lo ≤ k) : ExtN lo S (cutS S' O' k) w w' O (Qby O' k) := by
 refine ⟨fun n hn => ⟨.inl (h.keep n hn).1,(h.keep n hn).2⟩,fun id g ob hl ho => ?_⟩
 obtain ⟨g',ob',ho',h1⟩ := h.own id g ob hl ho
 exact ⟨g',ob',by unfold Qby; rw [if_pos (by omega)]; exact ho',h1⟩
def ExtN.ext {lo : Nat} {S S' : Nat → Prop} {w w' : World} {O O' : OInfo} (h : ExtN lo S S' w w' O O') (hO : ∀ id x,O id = some x → id < lo) : Ext S S' w w' O O' :=
 ⟨h.keep,fun id g ob ho => h.own id g ob (hO id _ ho) ho⟩
def Qi4 {L : Nat} (o' : Obj) (hS : ¬ S L) (hO : ¬ Own O L) : Ext S S w (w.putObj L o') O O := by
 have kT : ∀ k,k ≠ L → (w.putObj L o').heap[k]? = w.heap[k]? := fun k hk => World.putObj_heap_other hk
 refine ⟨fun k hk => ⟨hk,kT k (by rintro rfl; exact hS hk)⟩,fun id g ob ho => ⟨g,ob,ho,Qk _,fun _ => ⟨rfl,fun b cur e hb hh => ⟨cur,?_,rfl⟩⟩⟩⟩
 rw [kT b (by rintro rfl; exact hO ⟨id,g,by rw [ho,hb]⟩)]
 exact hh
def Qsp (h : Mat S w O hp) {L : Nat} (o' : Obj) (hS : ¬ S L) (hO : ¬ Own O L) : Mat S (w.putObj L o') O hp := by
 refine h.keep (Qi4 o' hS hO) (by simp) (fun b hb => World.putObj_heap_other (by rintro rfl; exact hO hb)) (fun k hk => by simpa using h.lt k hk) fun k hk ⟨id,g,ho⟩ => (h.own id g k ho).2 hk
def Qml {σ : St} {a : Act} (h : SR M S w O σ a) {L : Nat} (o' : Obj) (hS : ¬ S L) (hO : ¬ Own O L) : SR M S (w.putObj L o') O σ a :=
 ⟨h.size,h.kept,h.fr.ext (Qi4 o' hS hO),Qsp h.mat o' hS hO⟩
def Qdi (w : World) (o : Obj) (ho : o.isCells = false) : Later w (w.alloc o) :=
 ⟨rfl,rfl,rfl,by simp,fun a _ => Qd6 w o ho a,fun n hn => heap_alloc_old w o hn⟩
def Later.trans {w w' w'' : World} (h : Later w w') (k : Later w' w'') : Later w w'' :=
 ⟨k.os.trans h.os,k.tape.trans h.tape,k.output.trans h.output,Zz h.size k.size,fun a ha => (k.fz a (Zc ha h.size)).trans (h.fz a ha),fun n hn => (k.old n (Zc hn h.size)).trans (h.old n hn)⟩
def Qev (h : Mat S w O hp) : ∀ k,Own O k → k < w.heap.size := fun k ⟨id,g,ho⟩ => (h.own id g k ho).1
def Qyw {w w' : World} (h : Mat S w O hp) (hl : Later w w') : Mat S w' O hp :=
 h.keep (hl.evol h.lt (Qev h)).ext hl.size (fun b hb => hl.old b (Qev h b hb)) (fun k hk => Zc (h.lt k hk) hl.size) fun k hk ⟨id,g,ho⟩ => (h.own id g k ho).2 hk
def Qpk : ∀ (l : List (Tmp × Value)) (t : Array Value),(l.foldl (fun t (p,v) => t.setIfInBounds p v) t).size = t.size
 | [],t => rfl
 | (p,v) :: l,t => by simp [Qpk l]
def Qvn : ∀ (l : List (Tmp × Value)) (t : Array Value) (k : Nat),(∀ p ∈ l,p.1 ≠ k) → (l.foldl (fun t (p,v) => t.setIfInBounds p v) t).getD k undef = t.getD k undef
 | [],t,k,_ => rfl
 | (p,v) :: l,t,k,h => by
  rw [List.foldl_cons,Qvn l _ k fun q hq => h q (by simp [hq])]
  have : p ≠ k := h (p,v) (by simp)
  simp [Array.getElem?_setIfInBounds_ne this]
def Qqp (Γ : Gam) (P : Program) (M : FrI) (F : Fence) (n lo : Nat) (top : Nat) (r' : RC) (c : Code) : Prop :=
 ∀ (C : Ctx) (base : Nat),CtxOk P F n M C lo top base → ∀ (Q : Exit → St → Prop) (Q' : Exit → Act → World → Prop) (σ : St) (S : Nat → Prop) (w : World) (O : OInfo) (a : Act),
  wpR Γ (Qar P) r' Q σ → At C M S w O σ a → (∀ e σ' S' w' O' a',Q e σ' → At C M S' w' O' σ' a' → Q' e a' w') → c.wpIn F n P Q' a w
def Qst (hF : Qbz F) (l : Nat) : Qbz (F.inRound l) := hF
def Qo6 {S S' : Nat → Prop} {w w' : World} {O O' : OInfo} (h : Ext S S' w w' O O') (k : Nat) : Ext S S' w w' (Qby O k) (Qby O' k) := by
 refine ⟨h.keep,fun id g ob ho => ?_⟩
 obtain ⟨hl,ho'⟩ := Qbk ho
 obtain ⟨g',ob',h1,h2⟩ := h.own id g ob ho'
 exact ⟨g',ob',by unfold Qby; rw [if_pos hl]; exact h1,h2⟩
def Qtq (k : Nat) : Ext S S w w (Qby O k) O := by
 refine ⟨fun n hn => ⟨hn,rfl⟩,fun id g ob ho => ⟨g,ob,(Qbk ho).2,Qk _,fun _ => ⟨rfl,fun b cur e _ hh => ⟨cur,hh,rfl⟩⟩⟩⟩
def Qmd {j k : Nat} (h : k ≤ j) : Qby (Qby O j) k = Qby O k := by
 funext id
 unfold Qby
 split
 ·rw [if_pos (by omega)]
 ·rfl
def Qpj : ∀ (ps : List Tmp) (x : List V) (cx : List Value) (fr : Nat → V) (a : Act),FrM S w O fr a → x.length = ps.length → cx.length = ps.length → (∀ p ∈ ps,p < a.tmps.size) → RepL S w O x cx →
  FrM S w O (updL fr ps x) { a with tmps := (ps.zip cx).foldl (fun t (p,v) => t.setIfInBounds p v) a.tmps }
 | [],x,cx,fr,a,h,hx,hc,hp,hr => by
  have : x = [] := Qw (by simpa using hx)
  subst this
  simpa [updL] using h
 | p :: ps,[],cx,fr,a,h,hx,hc,hp,hr => by simp at hx
 | p :: ps,v :: x,[],fr,a,h,hx,hc,hp,hr => by simp at hc
 | p :: ps,v :: x,c :: cx,fr,a,h,hx,hc,hp,hr => by
  simp only [RepL] at hr
  have h1 := FrM.put (dst := some p) (c := c) h (Ext.refl _ _ _) (fun d hd => by cases hd; exact hp p (by simp)) hr.1
  have := Qpj ps x cx (upd fr (some p) v) (a.put (some p) c) h1 (by simpa using hx) (by simpa using hc) (fun q hq => by rw [Qbm]; exact hp q (by simp [hq])) hr.2
  simpa [updL,Act.put] using this
def Qx9 (hF : Qbz F) {m : Nat} {l : Nat} {f : FuncId} {tmps : Array Value} {assign body : Code} {R : Ending → World → Prop} (h : RoundIn F n P l f tmps assign body w R) : RoundIn F m P l f tmps assign body w R :=
 ⟨h.1,fun c cs _ => h.2 c cs (fun d hd => by rw [hF.2.1] at hd; cases hd)⟩
def Qx6 (hG : GOk P Γ) (hF : Qbz F) (hC : CtxOk P F n M C lo 1 base) {f0 : Operand} {f : Od} (hf : rOd P 0 f0 = some f) {ps : Array Tmp} {lo' zl : Nat} (kL : lo ≤ lo') (wK : ∀ p ∈ ps.toList,p < M.n ∧ M.md ≤ p) {b' a' : RC} {cx cy : Code}
  (hb : ∀ l,Qqp Γ P M (F.inRound l) (n - 1 - 1) (lo' + zl) 0 b' cx) (ha : ∀ l,Qqp Γ P M (F.inRound l) (n - 1 - 1) (lo' + zl) 0 a' cy)
  {Q : Exit → St → Prop} {Q' : Exit → Act → World → Prop} {σ : St} {S : Nat → Prop} {w : World} {O : OInfo} {a : Act} (hw : wpR Γ (Qar P) (.rfh f ps.toList lo' zl b' a') Q σ) (hat : At C M S w O σ a)
  (hQ : ∀ e σ' S' w' O' a',Q e σ' → At C M S' w' O' σ' a' → Q' e a' w') : (Code.rangeFunc f0 ps cx cy).wpIn F n P Q' a w := by
 simp only [wpR] at hw
 have lI := Zdu hat.sr.fr hf
 have wH := Qj8 hat.sr.mat lo' _ _ lI
 split at hw
 ·rename_i gf caps sd xX
  obtain ⟨al,ysF,bv0,I,lJ,hI0,hIal,qL,bP,wL,bQ⟩ := hw
  have vE := bP (w.heap.size + 1)
  have kE := wL (w.heap.size + 1)
  have qM := bQ (w.heap.size + 1)
  obtain ⟨ys,zM⟩ : ∃ ys,ys = ysF (w.heap.size + 1) := ⟨_,rfl⟩
  rw [← zM] at vE kE qM
  obtain ⟨enc,eM⟩ : ∃ enc : List V × List V → List V,enc = fun y => gyE y.1 y.2 := ⟨_,rfl⟩
  rw [← eM] at vE
  have lK : ∃ bnd cap : Array Value,a.eval f0 = .func (.func gf) bnd cap ∧ (bnd.size + cap.size = caps.length) ∧ ∀ (L : Nat) (S2 : Nat → Prop) (W2 : World) (O2 : OInfo),Ext (cutS S O lo') S2 w W2 (Qby O lo') O2 → RepL S2 W2 O2 (rfG caps sd L) (bnd ++ #[Value.func (.yield L) #[] #[]] ++ cap).toList := by
   unfold rfA at xX
   split at xX
   ·rename_i g0 c0 yU
    simp only [Qc.injEq,Prod.mk.injEq] at xX
    obtain ⟨rfl,rfl,rfl⟩ := xX
    rw [yU] at wH
    simp only [Rep] at wH
    obtain ⟨ccs,eO,eP,cT⟩ := wH
    refine ⟨#[],ccs,eO,by simp [eP],fun L S2 W2 O2 hx => ?_⟩
    simp only [rfG,Zd,if_false,Array.toList_append,List.nil_append,Z1,RepL,Rep]
    exact ⟨trivial,RepL.ext hx _ _ cT⟩
   ·rename_i g0 c0 yU
    simp only [Qc.injEq,Prod.mk.injEq] at xX
    obtain ⟨rfl,rfl,rfl⟩ := xX
    rw [yU] at wH
    simp only [Rep] at wH
    obtain ⟨ccs,eO,eP,cT⟩ := wH
    refine ⟨ccs,#[],eO,by simp [eP],fun L S2 W2 O2 hx => ?_⟩
    have h1 := RepL.ext hx.noO _ _ cT
    have h2 : RepL S2 W2 O2 c0 ccs.toList := RepL.ext ⟨fun _ h => ⟨h,rfl⟩,fun _ _ _ h => by cases h⟩ _ _ h1
    simp only [rfG,if_true,Array.toList_append,List.append_nil]
    exact RepL.append _ _ _ _ h2 (by simp [eP]) (by simp [RepL,Rep])
   ·cases xX
  obtain ⟨bnd,cap,eO,eP,cT⟩ := lK
  have jY := hat.drp hC kL
  obtain ⟨S1,hS1⟩ : ∃ S1,S1 = cutS S O lo' := ⟨_,rfl⟩
  obtain ⟨O1,hO1⟩ : ∃ O1,O1 = Qby O lo' := ⟨_,rfl⟩
  obtain ⟨fr0,eQ⟩ : ∃ fr0 : Nat → V,fr0 = fun t => cutV σ.hp lo' (σ.fr t) := ⟨_,rfl⟩
  rw [← hS1,← hO1,← eQ,lJ] at jY
  rw [← hS1,← hO1] at cT
  have hlenG : ∀ L,(rfG caps sd L).length = caps.length + 1 := fun L => by unfold rfG; split <;> simp
  rw [← eQ] at kE qM
  have hO11 : Qby O1 lo' = O1 := by rw [hO1]; exact Qmd (Qk _)
  have o3 := (qL bv0 (hIal 0 bv0 hI0)).1
  refine wpIn_rangeFunc ?_
  intro fn uI
  rw [hC.rnd rfl]
  obtain ⟨rec,xZ⟩ : ∃ rec : LoopState → Option Code → Loop,rec = fun st pe => { state := st,pending := pe,fn,tmps := a.tmps,params := ps,assign := cx,body := cy,defers := w.heap.size } := ⟨_,rfl⟩
  obtain ⟨W1,hW1⟩ : ∃ W1,(w.alloc (.deferred (some []))).alloc (.loop (rec .ready none)) = W1 := ⟨_,rfl⟩
  obtain ⟨L,hL⟩ : ∃ L,L = w.heap.size + 1 := ⟨_,rfl⟩
  have hL1 : W1.heap[L]? = some (.loop (rec .ready none)) := by
   rw [← hW1,hL]; have := World.alloc_heap_new (w.alloc (.deferred (some []))) (.loop (rec .ready none)); rwa [World.size_alloc] at this
  have eT : Later w W1 := by rw [← hW1]; exact (Qdi w _ rfl).trans (Qdi _ _ rfl)
  have nB := hC.big rfl hat.ctx
  have hbL : base ≤ L := by omega
  obtain ⟨capL,hcapL⟩ : ∃ capL,capL = V.yl L :: caps := ⟨_,rfl⟩
  obtain ⟨CJ,hCJ⟩ : ∃ CJ : (Nat → Prop) → World → OInfo → Gh → Prop,CJ = fun S2 W O2 h => ∃ (b : Bool) (bv : List V) (rest : List (List V)),h = some (capL,some (gyA b bv :: rest)) ∧ C S2 W O2 (col w.heap.size :: a.defers) none ∧ FrM S2 W (Qby O2 lo') fr0 a ∧
    ¬ S2 L ∧ ¬ Own O2 L ∧ ((b = true ∧ (∃ k,k ≤ ys.length ∧ rest = (ys.drop k).map enc ∧ I k bv) ∧ W.heap[L]? = some (.loop (rec .ready none))) ∨
     (b = false ∧ rest = [] ∧ ∃ id : Option Nat,Q (exOf id) ⟨fr0,.hole :: bv.map vB⟩ ∧ W.heap[L]? = some (.loop (rec .done (some (cdOf id)))))) := ⟨_,rfl⟩
  have hevL : ∀ {S2 S3 W W' O2 O3},Evol S2 S3 W W' O2 O3 → ¬ S2 L → ¬ Own O2 L → L < W.heap.size → ¬ S3 L ∧ ¬ Own O3 L ∧ W'.heap[L]? = W.heap[L]? := by
   intro S2 S3 W W' O2 O3 ev h1 h2 h3
   refine ⟨fun hS => ?_,fun hO => ?_,ev.old L h3 h2⟩
   ·rcases ev.grow L hS with h | h | h
    ·exact h1 h
    ·exact h2 h
    ·omega
   ·rcases ev.fresh L hO with h | h
    ·exact h2 h
    ·omega
  have bR : YOk P F al lo' CJ := by
   refine ⟨?_,?_,?_⟩
   ·intro S2 S3 W W' O2 O3 h h' hc hlt ev hg
    rw [hCJ] at hc ⊢
    obtain ⟨b,bv,rest,h1,h2,h3,h4,h5,h6⟩ := hc
    have hLW : L < W.heap.size := by
     rcases h6 with ⟨_,_,h⟩ | ⟨_,_,_,_,h⟩ <;> exact (Array.getElem?_eq_some_iff.1 h).1
    obtain ⟨e1,e2,e3⟩ := hevL ev h4 h5 hLW
    refine ⟨b,bv,rest,hg _ h1,hC.evol h2 hlt ev (fun _ h => h),h3.ext (Qo6 ev.ext lo'),e1,e2,?_⟩
    rw [e3]
    exact h6
   ·intro S2 W O2 h h' k hc hk hg
    rw [hCJ] at hc ⊢
    obtain ⟨b,bv,rest,h1,h2,h3,h4,h5,h6⟩ := hc
    refine ⟨b,bv,rest,hg _ h1,hC.cut h2 (Zz kL hk) (fun _ _ h => h),?_,?_,fun ⟨id,g,ho⟩ => h5 ⟨id,g,(Qbk ho).2⟩,h6⟩
    ·rw [Qmd hk]
     exact h3.ext ⟨fun n hn => ⟨.inl hn,rfl⟩,fun id g ob ho => ⟨g,ob,ho,Qk _,fun _ => ⟨rfl,fun b cur e _ hh => ⟨cur,hh,rfl⟩⟩⟩⟩
    ·rintro (h | ⟨id,g,ho⟩)
     ·exact h4 h
     ·exact h5 ⟨id,g,(Qbj ho).2⟩
   ·
    intro S2 W O2 caps' bv x z rest cxs l m hc jC hl iE xJ
    rw [hCJ] at hc
    obtain ⟨b,bv1,rest1,h1,h2,h3,h4,h5,h6⟩ := hc
    simp only [Qc.injEq,Prod.mk.injEq,Z3.injEq,V.b.injEq] at h1
    obtain ⟨rfl,⟨rfl,rfl⟩,rfl⟩ := h1
    rw [hcapL] at hl
    simp only [Qs,Qc.injEq,V.yl.injEq] at hl
    subst hl
    rcases h6 with ⟨_,⟨k,hk,kQ,hI⟩,h8⟩ | ⟨o4,_⟩
    ·have qN : ys[k]? = some (x,z) := by
      have e := congrArg (fun l => l[0]?) kQ
      simp only [Qs,Qf,Za,Nat.add_zero] at e
      cases hy : ys[k]? with
      | none => rw [hy] at e; cases e
      | some y =>
       rw [hy,eM] at e
       simp only [Qg,Qc.injEq,Z3.injEq,V.tp.injEq,and_true] at e
       rw [e.1,e.2]
     have bS : rest = (ys.drop (k + 1)).map enc := by
      have e := congrArg List.tail kQ
      simpa [List.tail_drop] using e
     have lL := Qag qN
     obtain ⟨lM,p5,o5⟩ := kE k x z bv qN hI
     have hxl : x.length = ps.size := by simpa using lM
     have o6 := (qL bv (hIal k bv hI)).1
     have hy := run_yield (P := P) (args := cxs) h8 (by rw [xZ]; show cxs.size = ps.size; omega)
     rw [xZ] at hy
     refine ⟨fn,_,cx,cy,hy,Qx9 (n := n - 1 - 1) hF (roundIn_of_wpIn uI ?_)⟩
     obtain ⟨Cb,hCb⟩ : ∃ Cb : Loop → Ctx,Cb = fun r S' W' O' ds' _ => ds' = [] ∧ C S' W' O' (col w.heap.size :: a.defers) none ∧ ExtN (lo' + zl) S2 S' W W' O2 O' ∧ ¬ S' L ∧ ¬ Own O' L ∧ W'.heap[L]? = some (.loop r) := ⟨_,rfl⟩
     have hCbOk : ∀ r,CtxOk P (F.inRound L) (n - 1 - 1) M (Cb r) (lo' + zl) 0 0 := by
      intro r
      rw [hCb]
      refine ⟨?_,?_,fun h => (by cases h),fun h => (by cases h),fun h => (by cases h),fun h => (by cases h),fun h => (by cases h),fun h => (by cases h),fun h => (by cases h),fun h => (by cases h)⟩
      ·rintro S' S'' W' W'' O' O'' ds g g' ⟨k1,k2,k3,k4,k5,k6⟩ hlt ev hg
       obtain ⟨e1,e2,e3⟩ := hevL ev k4 k5 (Array.getElem?_eq_some_iff.1 k6).1
       exact ⟨k1,hC.evol k2 hlt ev (fun _ h => h),k3.then ev.ext,e1,e2,e3.trans k6⟩
      ·rintro S' W' O' ds g g' kk ⟨k1,k2,k3,k4,k5,k6⟩ eV hg
       refine ⟨k1,hC.cut k2 (by omega) (fun _ _ h => h),k3.cut eV,?_,fun ⟨id,g2,ho⟩ => k5 ⟨id,g2,(Qbk ho).2⟩,k6⟩
       rintro (h | ⟨id,g2,ho⟩)
       ·exact k4 h
       ·exact k5 ⟨id,g2,(Qbj ho).2⟩
     have lN : ∀ p ∈ ps.toList,p < a.tmps.size := fun p hp => by rw [hat.sr.size]; exact (wK p hp).1
     have hO2lt : ∀ id y,O2 id = some y → id < lo' + zl := by
      intro id y hy
      have := Qhb jC hy
      simp only [Q3,Zj,List.length_append] at this
      omega
     refine hb L (Cb (rec .ready none)) 0 (hCbOk _) _ _ ⟨updL fr0 ps.toList x,.hole :: (bv ++ z).map vB⟩ S2 W O2 _ o5 ⟨?_,⟨?_,?_,?_,jC⟩⟩ ?_
     ·rw [hCb]; exact ⟨rfl,h2,ExtN.refl _ _ _ _,h4,h5,h8⟩
     ·show ((ps.zip cxs).foldl (fun t (x : Tmp × Value) => t.setIfInBounds x.1 x.2) a.tmps).size = _
      rw [← Array.foldl_toList,Qpk,hat.sr.size]
     ·intro t ht
      show ((ps.zip cxs).foldl (fun t (x : Tmp × Value) => t.setIfInBounds x.1 x.2) a.tmps).getD t undef = _
      rw [← Array.foldl_toList,Qvn]
      ·exact hat.sr.kept t ht
      ·rintro ⟨p,v⟩ nC
       have : p ∈ ps.toList := by
        rw [Array.toList_zip] at nC
        exact (List.of_mem_zip nC).1
       have := (wK p this).2
       intro h
       have h : p = t := h
       rw [h] at this
       exact absurd this (Nat.not_le.2 ht)
     ·have := Qpj (O := O2) ps.toList x cxs.toList fr0 { tmps := a.tmps,defers := [] } (FrM.ext h3 (Qtq lo')) (by simpa using hxl) (by simp; omega) lN iE
      have e : (ps.zip cxs).foldl (fun t (x : Tmp × Value) => t.setIfInBounds x.1 x.2) a.tmps = (ps.toList.zip cxs.toList).foldl (fun t (x : Tmp × Value) => t.setIfInBounds x.1 x.2) a.tmps := by
       rw [← Array.foldl_toList,Array.toList_zip]
      show FrM S2 W O2 (updL fr0 ps.toList x) { tmps := (ps.zip cxs).foldl (fun t (x : Tmp × Value) => t.setIfInBounds x.1 x.2) a.tmps,defers := [] }
      rw [e]
      exact this
     ·
      intro e σ1 S3 W3 O3 a3 he eW
      cases e <;> first | exact he.elim | skip
      have w9 := eW.ctx
      rw [hCb] at w9
      obtain ⟨k1,k2,k3,k4,k5,k6⟩ := w9
      have lO := run_beginRound (P := P) k6 (by rw [xZ])
      refine ⟨_,lO,?_⟩
      have hL3 := (Array.getElem?_eq_some_iff.1 k6).1
      refine ha L (Cb { rec .ready none with state := .busy }) 0 (hCbOk _) _ _ σ1 S3 _ O3 a3 he ⟨?_,Qml eW.sr _ k4 k5⟩ ?_
      ·rw [hCb]
       exact ⟨k1,hC.turn rfl k2 k6 k4 k5 hbL,k3.then (Qi4 _ k4 k5),k4,k5,World.putObj_heap_same hL3⟩
      ·
       intro e σ5 S5 W5 O5 a5 iF eX
       have aA := eX.ctx
       rw [hCb] at aA
       obtain ⟨m1,m2,m3,m4,m5,m6⟩ := aA
       have hL5 := (Array.getElem?_eq_some_iff.1 m6).1
       obtain ⟨S6,hS6⟩ : ∃ S6,S6 = cutS S5 O5 (lo' + zl) := ⟨_,rfl⟩
       obtain ⟨O6,hO6⟩ : ∃ O6,O6 = Qby O5 (lo' + zl) := ⟨_,rfl⟩
       have c4 : ¬ S6 L := by
        rw [hS6]
        rintro (h | ⟨id,g2,ho⟩)
        ·exact m4 h
        ·exact m5 ⟨id,g2,(Qbj ho).2⟩
       have c5 : ¬ Own O6 L := by
        rw [hO6]
        exact fun ⟨id,g2,ho⟩ => m5 ⟨id,g2,(Qbk ho).2⟩
       have hc : C S6 W5 O6 (col w.heap.size :: a.defers) none := by
        rw [hS6,hO6]
        exact hC.cut m2 (by omega) (fun _ _ h => h)
       have nD : Ext S2 S6 W W5 O2 O6 := by
        rw [hS6,hO6]
        exact (m3.cut (Qk _)).ext hO2lt
       have o7 : Mat S6 W5 O6 (cutH (lo' + zl) σ5.hp) := by
        rw [hS6,hO6]
        exact Qo0 eX.sr.mat (lo' + zl)
       have common : ∀ r : Loop,C S6 (W5.putObj L (.loop r)) O6 (col w.heap.size :: a.defers) none ∧ FrM S6 (W5.putObj L (.loop r)) (Qby O6 lo') fr0 a ∧
         Mat S6 (W5.putObj L (.loop r)) O6 (cutH (lo' + zl) σ5.hp) ∧ Ext S2 S6 W (W5.putObj L (.loop r)) O2 O6 := fun r =>
        ⟨hC.turn rfl hc m6 c4 c5 hbL,(h3.ext (Qo6 nD lo')).ext (Qo6 (Qi4 _ c4 c5) lo'),Qsp o7 _ c4 c5,nD.trans (Qi4 _ c4 c5)⟩
       have bT : ∀ jump : Option Code,({ ({ rec .ready none with state := .busy } : Loop) with state := if jump.isNone then .ready else .done,pending := jump } : Loop) = rec (if jump.isNone then .ready else .done) jump := by
        intro jump; rw [xZ]
       cases e <;> first | exact iF.elim | skip
       case normal =>
        obtain ⟨c1,c2,c3,cx3⟩ := common (rec .ready none)
        obtain ⟨bv',g1,g2,g3,g4⟩ := iF
        refine ⟨_,_,run_endRound (P := P) none m6,?_⟩
        rw [bT none]
        simp only [Option.isNone_none,if_true]
        refine ⟨true,S6,O6,bv',rfl,g3,?_,cx3,by rw [← g1]; exact c3⟩
        rw [hCJ]
        exact ⟨true,bv',_,rfl,c1,c2,c4,c5,.inl ⟨rfl,⟨k + 1,lL,by simpa using bS,g4⟩,World.putObj_heap_same hL5⟩⟩
       case exit id =>
        obtain ⟨c1,c2,c3,cx3⟩ := common (rec .done (some (.exit id)))
        obtain ⟨bv',g1,g2,g3,g4⟩ := iF
        refine ⟨_,_,run_endRound (P := P) (some (.exit id)) m6,?_⟩
        rw [bT (some (.exit id))]
        simp only [Zw,Zd,if_false]
        refine ⟨false,S6,O6,bv',rfl,g3,?_,cx3,by rw [← g1]; exact c3⟩
        rw [hCJ]
        exact ⟨false,bv',_,rfl,c1,c2,c4,c5,.inr ⟨rfl,by simp,some id,g4,World.putObj_heap_same hL5⟩⟩
       case ret =>
        obtain ⟨c1,c2,c3,cx3⟩ := common (rec .done (some .ret))
        obtain ⟨bv',g1,g2,g3,g4⟩ := iF
        refine ⟨_,_,run_endRound (P := P) (some .ret) m6,?_⟩
        rw [bT (some .ret)]
        simp only [Zw,Zd,if_false]
        refine ⟨false,S6,O6,bv',rfl,g3,?_,cx3,by rw [← g1]; exact c3⟩
        rw [hCJ]
        exact ⟨false,bv',_,rfl,c1,c2,c4,c5,.inr ⟨rfl,by simp,none,g4,World.putObj_heap_same hL5⟩⟩
    ·cases o4
  have ev1 := eT.evol jY.sr.mat.lt (Qev jY.sr.mat)
  have hLn : ¬ S1 L ∧ ¬ Own O1 L := ⟨fun h => by have := jY.sr.mat.lt L h; omega,fun h => by have := Qev jY.sr.mat L h; omega⟩
  have hCJ0 : CJ S1 W1 O1 (some (capL,some (gyA true bv0 :: ys.map enc))) := by
   rw [hCJ]
   refine ⟨true,bv0,_,rfl,?_,?_,hLn.1,hLn.2,.inl ⟨rfl,⟨0,Nat.zero_le _,by simp,hI0⟩,hL1⟩⟩
   ·rw [← hW1]
    exact hC.enter rfl jY.ctx jY.sr.mat.lt (Qev jY.sr.mat)
   ·rw [hO11]
    exact jY.sr.fr.ext ev1.ext
  rw [← hL] at vE
  obtain ⟨yG,aB⟩ := vE
  rw [← hcapL] at yG aB
  obtain ⟨hen,o8⟩ := hG.yc gf al _ _ yG
  refine ⟨L,[{ target := .collected w.heap.size,args := #[] }],W1,{ target := .fn (.func gf) cap,args := bnd ++ #[.func (.yield L) #[] #[]] },W1,gf,
   bnd ++ #[.func (.yield L) #[] #[]] ++ cap,W1,?_,?_,?_,?_,fun h => by simp [hF.2.1] at h,?_⟩
  ·rw [← hW1,xZ,hL]; exact run_enterLoop_outer _ _ _ _ _
  ·simp only [resolve,eO]
   simp [go_sem]
  ·intro f' hf'; exact hF.1 f'
  ·simp only [invoke]; exact hen _ _
  ·have yC : Mat S1 W1 O1 (.gh capL (some (gyA true bv0 :: ys.map enc)) :: bv0.map vB) := Qnk (Qyw jY.sr.mat eT) (fun _ _ h => h) _
   refine (o8 F (n - 1) lo' CJ S1 W1 O1 _ hF (hC.rnd rfl) bR (by simp; omega) hCJ0 yC (by rw [hlenG]; simp; omega) ?_).mono ?_
   ·exact cT L _ _ _ ev1.ext
   ·
    rintro e W2 ⟨v,S2,O2,r,hp',rfl,hR,hc,_,jC,_⟩
    obtain ⟨b,bv',rest,tl,zG,lP,lQ⟩ := aB r hp' hR
    rw [hCJ] at hc
    obtain ⟨b1,bv1,rest1,h1,h2,h3,h4,h5,h6⟩ := hc
    rw [zG] at h1
    simp only [ghO,Qs,Qc.injEq,Prod.mk.injEq,Z3.injEq,V.b.injEq,true_and] at h1
    obtain ⟨⟨rfl,rfl⟩,rfl⟩ := h1
    obtain ⟨hbl,yA⟩ := qL bv' lQ
    have vZ : cutH lo' hp' = .gh capL (some (gyA b bv' :: rest)) :: bv'.map vB := by
     have e1 : hp'.take lo' = .gh capL (some (gyA b bv' :: rest)) :: bv'.map vB := by
      rw [zG,← hbl,List.take_succ_cons]
      congr 1
      rw [List.take_append_of_le_length (by simp),Ql (by simp)]
     unfold cutH
     rw [e1,Zr,yA hp']
     rfl
    have yR : Mat (cutS S2 O2 lo') W2 (Qby O2 lo') (cutH lo' hp') := Qo0 jC lo'
    rw [vZ] at yR
    have aC := Qnk yR (fun _ _ h => h) .hole
    have d4 : ¬ cutS S2 O2 lo' L := by
     rintro (h | ⟨id,g2,ho⟩)
     ·exact h4 h
     ·exact h5 ⟨id,g2,(Qbj ho).2⟩
    have d5 : ¬ Own (Qby O2 lo') L := fun ⟨id,g2,ho⟩ => h5 ⟨id,g2,(Qbk ho).2⟩
    have vO : C (cutS S2 O2 lo') W2 (Qby O2 lo') (col w.heap.size :: a.defers) none := hC.cut h2 kL (fun _ _ h => h)
    have bL : FrM (cutS S2 O2 lo') W2 (Qby O2 lo') fr0 a :=
     h3.ext ⟨fun n hn => ⟨.inl hn,rfl⟩,fun id g ob ho => ⟨g,ob,ho,Qk _,fun _ => ⟨rfl,fun b cur e _ hh => ⟨cur,hh,rfl⟩⟩⟩⟩
    rcases h6 with ⟨rfl,⟨k,hk,kQ,hI⟩,h8⟩ | ⟨rfl,_,id,hx,h8⟩
    ·have xB : k = ys.length := by
      have e := lP rfl
      rw [kQ] at e
      have := congrArg Qx e
      simp at this
      omega
     refine ⟨none,_,by have := run_endLoop (P := P) h8 (by rw [xZ]; simp); rw [xZ] at this; exact this,?_⟩
     have s := Qml (σ := ⟨fr0,.hole :: bv'.map vB⟩) ⟨hat.sr.size,hat.sr.kept,bL,aC⟩ (.loop { rec .ready none with state := .exhausted }) d4 d5
     rw [xZ] at s
     exact hQ _ ⟨fr0,.hole :: bv'.map vB⟩ _ _ _ _ (qM bv' (xB ▸ hI)) ⟨hC.turn rfl vO h8 d4 d5 hbL,⟨s.size,s.kept,s.fr,s.mat⟩⟩
    ·refine ⟨some (cdOf id),_,by have := run_endLoop (P := P) h8 (by rw [xZ]; simp); rw [xZ] at this; exact this,?_⟩
     have s := Qml (σ := ⟨fr0,.hole :: bv'.map vB⟩) ⟨hat.sr.size,hat.sr.kept,bL,aC⟩ (.loop { rec .done (some (cdOf id)) with state := .exhausted }) d4 d5
     rw [xZ] at s
     cases id with
     | none => exact wpIn_ret (hQ _ ⟨fr0,.hole :: bv'.map vB⟩ _ _ _ _ hx ⟨hC.turn rfl vO h8 d4 d5 hbL,⟨s.size,s.kept,s.fr,s.mat⟩⟩)
     | some id => exact wpIn_exit (hQ _ ⟨fr0,.hole :: bv'.map vB⟩ _ _ _ _ hx ⟨hC.turn rfl vO h8 d4 d5 hbL,⟨s.size,s.kept,s.fr,s.mat⟩⟩)
 ·exact hw.elim
def Qxg {α : Type} {l : List α} {i : Nat} {x : α} (h : l[i]? = some x) : l.set i x = l := by
 apply Z0
 intro j
 rw [List.getElem?_set]
 split
 ·rename_i e; subst e
  split
  ·exact h.symm
  ·rename_i hl; rw [Zm (by omega)]
 ·rfl
def w_op (hF : Qbz F) {M : FrI} {o : Oper} {ro : RO} {q : W} (hq : resW P o = some q) (bH : ro.x = .w q) (vA : ro.dst = o.dst) (xG : ro.ts = o.op.operands.toList.filterMap Qfh) (yD : ro.nid = none) (qA : ∀ d,o.dst = some d → d < M.n ∧ M.md ≤ d)
  {S : Nat → Prop} {w : World} {O : OInfo} {σ : St} {a : Act} (jL : SR M S w O σ a) (jA : (step Γ (Qar P) true 0 ro σ).1) {K : Act → World → Prop} {Q' : Exit → Act → World → Prop}
  (hK : ∀ S' w' O' a',Evol S S' w w' O O' → SR M S' w' O' (step Γ (Qar P) true 0 ro σ).2 a' → a'.defers = a.defers → K a' w') : o.wpIn F n P a w K Q' := by
 have xK : ∀ d,o.dst = some d → d < a.tmps.size := by rw [jL.size]; exact fun d hd => (qA d hd).1
 have jU : ∀ (c : Value) t,t < M.md → (a.put o.dst c).tmps.getD t undef = M.T t := fun c t ht => (Qfs a o.dst c t fun d hd => by have := (qA d hd).2; omega).trans (jL.kept t ht)
 have jJ : Qbp true ro σ.fr → Qdp P S w O (opv true σ.fr) a.eval o := by
  intro hn
  simp only [Qbp] at hn; rw [xG] at hn; exact Qbq jL.fr o hn
 simp only [step,bH,Qmx] at jA hK
 cases xO : nv σ.hp q (opv true σ.fr) with
 | none =>
  simp only [xO] at jA hK
  refine Qxf hF hq jL.mat (jJ jA.1) jA.2 ?_
  intro c w' O' jD jC hrep jX
  refine hK S w' O' _ jD ⟨by rw [Qbm]; exact jL.size,jU _,?_,jC⟩ (Qb8 _ _ _)
  rw [vA]
  exact jL.fr.put jD.ext xK hrep
 | some t =>
  obtain ⟨ok,blk,mk⟩ := t
  simp only [xO,yD] at jA hK
  refine Qr8 (id := σ.hp.length) hF hq jL.mat (Qhp jL.mat [blk]) (jJ jA.1) xO jA.2 (Qks jL.mat) (by simp) ?_
  intro c w' O' jD jC hrep _
  refine hK S w' O' _ jD ⟨by rw [Qbm]; exact jL.size,jU _,?_,jC⟩ (Qb8 _ _ _)
  rw [vA]
  exact jL.fr.put jD.ext xK hrep
def Qlj {ops : Array Oper} {o : Oper} {gd : Option (Nat × Bool)} (jW : gdOf ops o.guard = some gd) {fr : Nat → V} {a : Act} (xS : FrM S w O fr a) {c : Bool} (hc : Qdf fr gd = some c) :
  Region.wanted o (yielded ops a.tmps) = c := by
 cases vS : o.guard with
 | none =>
  rw [vS] at jW
  simp only [gdOf,Qc.injEq] at jW
  subst jW
  simp only [Qdf,Qc.injEq] at hc
  simp [Region.wanted,vS,← hc]
 | some jw =>
  obtain ⟨j,want⟩ := jw
  rw [vS] at jW
  simp only [gdOf,Qa] at jW
  obtain ⟨s,hs,rfl⟩ := jW
  exact Qjz xS vS hs hc
def h_op (hG : GOk P Γ) (hF : Qbz F) (hC : CtxOk P F n M C lo top base) {o : Oper} {y : RO} {f : Od} {xs : List Od} (jM : Qh4 P o = some (f,xs)) (wX : y.x = .o f xs) (vA : y.dst = o.dst) (xG : y.ts = o.op.operands.toList.filterMap Qfh)
  (vC : ∀ d,o.dst = some d → d < M.n ∧ M.md ≤ d) {K : St → Prop} {Q' : Exit → Act → World → Prop} {σ1 : St} {S1 : Nat → Prop} {w1 : World} {O1 : OInfo} {a1 : Act}
  (kJ : match opv true σ1.fr f with
    | .fn gf caps => Qbp true y σ1.fr ∧ (Γ.h gf (xs.map (opv true σ1.fr) ++ caps) σ1.hp).1 ∧ ∀ r hp',(Γ.h gf (xs.map (opv true σ1.fr) ++ caps) σ1.hp).2 r hp' → K ⟨upd σ1.fr y.dst r,hp'⟩
    | _ => False) (jY : At C M S1 w1 O1 σ1 a1) {KK : Act → World → Prop} (hK0 : ∀ σ2 S2 w2 O2 a2,K σ2 → At C M S2 w2 O2 σ2 a2 → KK a2 w2) : o.wpIn F n P a1 w1 KK Q' := by
 have jH := jY.sr
 have jU : ∀ (c : Value) t,t < M.md → (a1.put o.dst c).tmps.getD t undef = M.T t := fun c t ht => (Qfs a1 o.dst c t fun d' hd' => by have := (vC d' hd').2; omega).trans (jH.kept t ht)
 split at kJ
 ·rename_i gf caps xX
  obtain ⟨jK,yG,hK⟩ := kJ
  obtain ⟨hen,hgh,hheap⟩ := hG.heap gf _ _ yG
  have jJ : Qdp P S1 w1 O1 (opv true σ1.fr) a1.eval o := by
   simp only [Qbp] at jK; rw [xG] at jK; exact Qbq jH.fr o jK
  unfold Qh4 at jM
  unfold Qdp at jJ
  cases jE : o.op <;> rw [jE] at jM jJ <;> simp only [Op.operands] at jJ <;> first | (simp at jM; done) | (try dsimp only at jM)
  case call cl =>
   split at jM
   ·rename_i f0 jS
    simp only [Qm,Qh,Qu,Qc.injEq,Prod.mk.injEq] at jM
    obtain ⟨f',hf,ods,vF,rfl,rfl⟩ := jM
    have q1 := jJ f0 (by simp [Call.operands,jS]) _ _ hf
    have qs := Qct _ _ _ vF (fun x hx => jJ x (by simp only [Call.operands,Array.mem_append]; exact .inr (by simpa using hx)))
    rw [xX] at q1
    simp only [Rep] at q1
    obtain ⟨ccs,hc,hn,kH⟩ := q1
    have jR := RepL.append _ _ _ _ qs.1 (by simp [qs.2]) kH
    have k9 := hheap S1 w1 O1 (cl.args.map a1.eval ++ ccs) jH.mat (by simp [qs.2,hn]) (by simpa using jR)
    refine Qf5 (w' := w1) (f := gf) (args := cl.args.map a1.eval ++ ccs) hF (by simp [jE]) ?_ (k9.mono ?_)
    ·have hd : (resolve a1.eval cl o.type).run P w1 = .ok { target := .fn (.func gf) ccs,args := cl.args.map a1.eval } w1 := by
      simp [resolve,jS,hc,Deferred.ofValue]
     simp only [execOp,jE,Sem.run_bind,hd,Result.andThen_ok,invoke]
     exact hen _ _
    ·rintro e w2 ⟨v,S2,O2,r,hp',rfl,hR,jD,jC,hrep⟩
     refine ⟨v,rfl,hK0 _ S2 w2 O2 _ (hK r hp' hR) ⟨?_,⟨by rw [Qbm]; exact jH.size,jU _,?_,jC⟩⟩⟩
     ·rw [Qb8]
      exact hC.evol jY.ctx jH.mat.lt jD (hgh r hp' hR)
     ·rw [vA]
      exact FrM.put jH.fr jD.ext (fun d hd => by rw [jH.size]; exact (vC d hd).1) hrep
   ·cases jM
 ·exact kJ.elim
def y_op (hG : GOk P Γ) (hF : Qbz F) (vL : ∀ bv,M.al bv → Γ.al bv) (hro : F.round = none) (hC : CtxOk P F n M C lo 3 base) {o : Oper} {y : RO} {f : Od} {xs : List Od} (jM : Qh4 P o = some (f,xs)) (wX : y.x = .o f xs) (vA : y.dst = o.dst) (xG : y.ts = o.op.operands.toList.filterMap Qfh)
  (vC : ∀ d,o.dst = some d → d < M.n ∧ M.md ≤ d) {K : St → Prop} {Q' : Exit → Act → World → Prop} {σ1 : St} {S1 : Nat → Prop} {w1 : World} {O1 : OInfo} {a1 : Act}
  (kJ : match opv true σ1.fr f with
    | .fn gf caps => Qbp true y σ1.fr ∧ lo ≤ σ1.hp.length ∧ (Γ.y gf Γ.al (xs.map (opv true σ1.fr) ++ caps) σ1.hp).1 ∧ ∀ r hp',(Γ.y gf Γ.al (xs.map (opv true σ1.fr) ++ caps) σ1.hp).2 r hp' → K ⟨upd σ1.fr y.dst r,hp'⟩
    | _ => False) (jY : At C M S1 w1 O1 σ1 a1) {KK : Act → World → Prop} (hK0 : ∀ σ2 S2 w2 O2 a2,K σ2 → At C M S2 w2 O2 σ2 a2 → KK a2 w2) : o.wpIn F n P a1 w1 KK Q' := by
 have jH := jY.sr
 have jU : ∀ (c : Value) t,t < M.md → (a1.put o.dst c).tmps.getD t undef = M.T t := fun c t ht => (Qfs a1 o.dst c t fun d' hd' => by have := (vC d' hd').2; omega).trans (jH.kept t ht)
 split at kJ
 ·rename_i gf caps xX
  obtain ⟨jK,hlen,yG,hK⟩ := kJ
  obtain ⟨hen,hheap⟩ := hG.yc gf _ _ _ yG
  have jJ : Qdp P S1 w1 O1 (opv true σ1.fr) a1.eval o := by
   simp only [Qbp] at jK; rw [xG] at jK; exact Qbq jH.fr o jK
  unfold Qh4 at jM
  unfold Qdp at jJ
  cases jE : o.op <;> rw [jE] at jM jJ <;> simp only [Op.operands] at jJ <;> first | (simp at jM; done) | (try dsimp only at jM)
  case call cl =>
   split at jM
   ·rename_i f0 jS
    simp only [Qm,Qh,Qu,Qc.injEq,Prod.mk.injEq] at jM
    obtain ⟨f',hf,ods,vF,rfl,rfl⟩ := jM
    have q1 := jJ f0 (by simp [Call.operands,jS]) _ _ hf
    have qs := Qct _ _ _ vF (fun x hx => jJ x (by simp only [Call.operands,Array.mem_append]; exact .inr (by simpa using hx)))
    rw [xX] at q1
    simp only [Rep] at q1
    obtain ⟨ccs,hc,hn,kH⟩ := q1
    have jR := RepL.append _ _ _ _ qs.1 (by simp [qs.2]) kH
    have bR : YOk P F Γ.al lo fun S w O h => C S w O a1.defers h := by
     refine ⟨fun h hlt ev hg => hC.evol h hlt ev hg,fun h hk hg => hC.cut h hk fun _ => hg,fun {S w O caps bv x z rest cx l m} h hm hl hx hs => ?_⟩
     obtain ⟨fn,tm,as0,bd,bN,kE⟩ := hC.yldh rfl (m := m) h hm hl hx hs
     refine ⟨fn,tm,as0,bd,bN,kE.mono ?_⟩
     rintro e W' ⟨b,S',O',bv',h1,h2,h3⟩
     exact ⟨b,S',O',bv',h1,vL bv' h2,h3⟩
    have k9 := hheap F (n - 1) lo _ S1 w1 O1 (cl.args.map a1.eval ++ ccs) hF hro bR hlen jY.ctx jH.mat (by simp [qs.2,hn]) (by simpa using jR)
    refine ⟨fun f _ => hF.1 f,?_⟩
    rw [Oper.semAt_eq _ _ _ (by simp [jE])]
    have bD : (execOp a1.eval o).run P w1 = .ok (.enter gf (cl.args.map a1.eval ++ ccs)) w1 := by
     have hd : (resolve a1.eval cl o.type).run P w1 = .ok { target := .fn (.func gf) ccs,args := cl.args.map a1.eval } w1 := by
      simp [resolve,jS,hc,Deferred.ofValue]
     simp only [execOp,jE,Sem.run_bind,hd,Result.andThen_ok,invoke]
     exact hen _ _
    rw [bD]
    refine ⟨fun hh => by simp [hF.2.1] at hh,k9.mono ?_⟩
    rintro e w2 ⟨v,S2,O2,r,hp',rfl,hR,zT,y8,jC,hrep⟩
    refine hK0 _ S2 w2 O2 _ (hK r hp' hR) ⟨?_,⟨by rw [Qbm]; exact jH.size,jU _,?_,jC⟩⟩
    ·rw [Qb8]
     exact zT
    ·rw [vA]
     exact FrM.put jH.fr y8 (fun d hd => by rw [jH.size]; exact (vC d hd).1) hrep
   ·cases jM
 ·exact kJ.elim
def Ze6 (hG : GOk P Γ) (hF : Qbz F) (vL : ∀ bv,M.al bv → Γ.al bv) (hC : CtxOk P F n M C lo top base) {ops : Array Oper} {Q' : Exit → Act → World → Prop} {K : St → Prop} :
  ∀ (l : List It) (k : Nat) (σ : St) (S : Nat → Prop) (w : World) (O : OInfo) (a : Act),(∀ q x,l[q]? = some x → ∃ o y,ops[k + q]? = some o ∧ resI P pu M.nm ops y o = some x ∧ itOk lo top y = true) →
   runI Γ (Qar P) l σ K → At C M S w O σ a → (∀ τ S' w' O' a',K τ → At C M S' w' O' τ a' → Q' .normal a' w') → wpOpsIn F n P ops Q' (Qd k l.length) a w := by
 intro l
 induction l with
 | nil => intro k σ S w O a _ jB hat hK; rw [List.length_nil,List.range'_zero,wpOpsIn]; exact hK σ S w O a jB hat
 | cons x l ih =>
  intro k σ S w O a xP jB hat hK
  rw [Q3,Qp,wpOpsIn_cons]
  obtain ⟨o,y,ho,hro,eY⟩ := xP 0 x rfl
  have xW : ∀ q x,l[q]? = some x → ∃ o y,ops[k + 1 + q]? = some o ∧ resI P pu M.nm ops y o = some x ∧ itOk lo top y = true := fun q x' hx' => by
   have := xP (q + 1) x' (by simpa using hx')
   rwa [Zy q 1,← Zs] at this
  have skip : ∀ (ro : RO),(∀ d,o.dst = some d → d < M.n ∧ M.md ≤ d) → ro.dst = o.dst → Region.wanted o (yielded ops a.tmps) = false → runI Γ (Qar P) l ⟨upd σ.fr ro.dst (.gv false .u),σ.hp⟩ K →
    wpOpIn F n P ops Q' k (wpOpsIn F n P ops Q' (Qd (k + 1) l.length)) a w := by
   intro ro vC vA j9 jB
   have ho' : ops[k]? = some o := by simpa using ho
   simp only [wpOpIn,ho']
   rw [j9,if_neg (by simp)]
   refine ⟨fun f _ => hF.1 f,?_⟩
   have jU : ∀ (c : Value) t,t < M.md → (a.put o.dst c).tmps.getD t undef = M.T t := fun c t ht => (Qfs a o.dst c t fun d' hd' => by have := (vC d' hd').2; omega).trans (hat.sr.kept t ht)
   refine ih (k + 1) _ S w O _ xW jB ⟨by rw [Qb8]; exact hat.ctx,⟨by rw [Qbm]; exact hat.sr.size,jU _,?_,hat.sr.mat⟩⟩ hK
   rw [vA]
   exact FrM.put hat.sr.fr (Ext.refl _ _ _) (fun d hd => by rw [hat.sr.size]; exact (vC d hd).1) (by simp only [Rep]; exact ⟨fun h => (by cases h),fun _ => trivial⟩)
  have ho' : ops[k]? = some o := by simpa using ho
  cases y with
  | r r0 =>
   simp only [resI,Qa] at hro
   obtain ⟨r,hr,rfl⟩ := hro
   obtain ⟨jA,jB⟩ := jB
   have yD := Qkw hr
   have hr' : resO P pu M.nm ops o = some { r with nid := none } := by rw [hr]; congr 1; cases r; simp only at yD; subst yD; rfl
   refine Qm6 hG hF ho' hr' (fun h => by cases h) hat.sr jA ?_
   intro S' w' O' a' jD vQ xH
   exact ih (k + 1) _ S' w' O' a' xW jB ⟨by rw [xH]; exact hC.evol hat.ctx hat.sr.mat.lt jD fun y hy => Qmm jA hy,vQ⟩ hK
  | w r0 =>
   simp only [resI] at hro
   split at hro
   ·rename_i xT
    have vC : ∀ d,o.dst = some d → d < M.n ∧ M.md ≤ d := fun d hd => by rw [hd] at xT; exact Qc1 xT
    split at hro
    ·rename_i gd jW
     simp only [Qa] at hro
     obtain ⟨q,hq,rfl⟩ := hro
     rw [runI] at jB
     cases hc : Qdf σ.fr gd with
     | none => simp [hc] at jB
     | some c =>
      have j9 := Qlj jW hat.sr.fr hc
      simp only [hc] at jB
      cases c with
      | false => exact skip ⟨o.dst,gd,o.op.operands.toList.filterMap Qfh,none,.w q⟩ vC rfl j9 jB
      | true =>
       obtain ⟨jA,jB⟩ := jB
       simp only [wpOpIn,ho']
       rw [j9,if_pos rfl]
       refine w_op hF hq rfl rfl rfl rfl vC hat.sr jA ?_
       intro S' w' O' a' jD vQ xH
       exact ih (k + 1) _ S' w' O' a' xW jB ⟨by rw [xH]; exact hC.evol hat.ctx hat.sr.mat.lt jD fun y hy => Qmm jA hy,vQ⟩ hK
    ·cases hro
   ·cases hro
  | h r0 =>
   simp only [resI] at hro
   split at hro
   ·rename_i xT
    have vC : ∀ d,o.dst = some d → d < M.n ∧ M.md ≤ d := fun d hd => by rw [hd] at xT; exact Qc1 xT
    split at hro
    ·rename_i gd jW
     simp only [Qa] at hro
     obtain ⟨⟨f,xs⟩,jM,rfl⟩ := hro
     rw [runI] at jB
     cases hc : Qdf σ.fr gd with
     | none => simp [hc] at jB
     | some c =>
      have j9 := Qlj jW hat.sr.fr hc
      simp only [hc] at jB
      cases c with
      | false => exact skip ⟨o.dst,gd,o.op.operands.toList.filterMap Qfh,none,.o f xs⟩ vC rfl j9 jB
      | true =>
       simp only [wpOpIn,ho']
       rw [j9,if_pos rfl]
       exact h_op hG hF hC (K := fun σ2 => runI Γ (Qar P) l σ2 K) jM rfl rfl rfl vC jB hat fun σ2 S2 w2 O2 a2 hK2 kD => ih (k + 1) σ2 S2 w2 O2 a2 xW hK2 kD hK
    ·cases hro
   ·cases hro
  | y lo' d r0 =>
   simp only [itOk,Qb,beq_iff_eq,decide_eq_true_eq] at eY
   obtain ⟨rfl,rfl,o9⟩ := eY
   simp only [resI] at hro
   split at hro
   ·rename_i xT
    have vC : ∀ d,o.dst = some d → d < M.n ∧ M.md ≤ d := fun d hd => by rw [hd] at xT; exact Qc1 xT
    split at hro
    ·rename_i gd jW
     simp only [Qa] at hro
     obtain ⟨⟨f,xs⟩,jM,rfl⟩ := hro
     rw [runI] at jB
     cases hc : Qdf σ.fr gd with
     | none => simp [hc] at jB
     | some c =>
      have j9 := Qlj jW hat.sr.fr hc
      simp only [hc] at jB
      cases c with
      | false => exact skip ⟨o.dst,gd,o.op.operands.toList.filterMap Qfh,none,.o f xs⟩ vC rfl j9 jB
      | true =>
       simp only [wpOpIn,ho']
       rw [j9,if_pos rfl]
       exact y_op hG hF vL (hC.rnd3 rfl) hC (K := fun σ2 => runI Γ (Qar P) l σ2 K) jM rfl rfl rfl vC jB (hat.drp hC o9) fun σ2 S2 w2 O2 a2 hK2 kD => ih (k + 1) σ2 S2 w2 O2 a2 xW hK2 kD hK
    ·cases hro
   ·cases hro
def Qvy (hG : GOk P Γ) (hF : Qbz F) (vL : ∀ bv,M.al bv → Γ.al bv) (hC : CtxOk P F n M C lo top base) {l l' : List It} {id : Nat} {ops : Array Oper} (hl : l.length = ops.size) (y7 : l.all (itOk lo top) = true) (hr : ((l.zip ops.toList).mapM fun p => resI P pu M.nm ops p.1 p.2) = some l')
  {Q : Exit → St → Prop} {Q' : Exit → Act → World → Prop} {σ : St} {S : Nat → Prop} {w : World} {O : OInfo} {a : Act} (hw : wpR Γ (Qar P) (.itm l') Q σ) (hat : At C M S w O σ a)
  (hQ : ∀ σ' S' w' O' a',Q .normal σ' → At C M S' w' O' σ' a' → Q' .normal a' w') : (Code.region id ops false).wpIn F n P Q' a w := by
 have hm := Qcp hr
 have u7 : l'.length = ops.size := by
  have := congrArg Qx hm
  simp only [Zj,List.length_zip,Array.length_toList] at this
  omega
 refine wpIn_region ?_
 rw [Qr,← u7]
 refine Ze6 hG hF vL hC (pu := pu) (K := Q .normal) l' 0 σ S w O a ?_ hw hat hQ
 intro q x hx
 have h1 : ((l.zip ops.toList).map fun p => resI P pu M.nm ops p.1 p.2)[q]? = some (some x) := by
  rw [hm,Qf,hx]; rfl
 rw [Qf,Qa] at h1
 obtain ⟨⟨y,o⟩,h2,h3⟩ := h1
 rw [Qe] at h2
 exact ⟨o,y,by rw [Q5]; simpa using h2.2,h3,Qj.1 y7 y (Q0 h2.1)⟩
def Qix (hG : GOk P Γ) (hm : P.follows .mixedOrders = true) (vL : ∀ bv,M.al bv → Γ.al bv) :
  ∀ (r : RC) (c : Code) (r' : RC) (F : Fence) (n lo : Nat) (top : Nat),Qbz F → comp P pu M.nm lo top r c = some r' → Qqp Γ P M F n lo top r' c := by
 intro r
 induction r with
 | no =>
  intro c r' F n lo top hF hc C base hC Q Q' σ S w O a hw hat hQ
  simp only [comp,Qc.injEq] at hc
  subst hc
  exact hw.elim
 | skip =>
  intro c r' F n lo top hF hc C base hC Q Q' σ S w O a hw hat hQ
  cases c <;> (try simp only [comp] at hc) <;> try (cases hc; done)
  ·cases hc
   exact wpIn_skip (hQ _ _ _ _ _ _ hw hat)
  ·cases hc
   exact wpIn_label (hQ _ _ _ _ _ _ hw hat)
 | itm l =>
  intro c r' F n lo top hF hc C base hC Q Q' σ S w O a hw hat hQ
  cases c <;> (try simp only [comp] at hc) <;> try (cases hc; done)
  case region id ops draw =>
   cases draw <;> (try simp only [comp] at hc) <;> try (cases hc; done)
   split at hc
   ·rename_i hl
    rw [Qb,beq_iff_eq] at hl
    rw [Qa] at hc
    obtain ⟨l',hl',rfl⟩ := hc
    exact Qvy hG hF vL hC hl.1 hl.2 hl' hw hat fun σ' S' w' O' a' => hQ _ σ' S' w' O' a'
   ·cases hc
 | rnl g l1 y l2 =>
  intro c r' F n lo top hF hc C base hC Q Q' σ S w O a hw hat hQ
  cases c <;> (try simp only [comp] at hc) <;> try (cases hc; done)
  case region id ops draw =>
   cases draw <;> (try simp only [comp] at hc) <;> try (cases hc; done)
   split at hc
   ·rename_i jW
    split at hc
    ·rename_i o ho
     split at hc
     ·rename_i r1 y' r2 h1 hy h2
      split at hc
      ·rename_i hl
       cases hc
       have hl' : r1.length = l1.length := by simpa using hl
       rw [← hl'] at ho h1 h2
       exact Qx8 hG hF hC jW ho h1 hy h2 hw hat fun σ' S' w' O' a' => hQ _ σ' S' w' O' a'
      ·cases hc
     ·cases hc
    ·cases hc
   ·cases hc
 | scp r ih =>
  intro c r' F n lo top hF hc C base hC Q Q' σ S w O a hw hat hQ
  cases c <;> (try simp only [comp] at hc) <;> try (cases hc; done)
  case scope c =>
   rw [Qa] at hc
   obtain ⟨r1,h1,rfl⟩ := hc
   refine Qhv (ih c r1 F n lo top hF h1 C base hC (noGo Q) _ σ S w O a hw hat ?_)
   intro e σ' S' w' O' a' he kS
   cases e <;> first | exact he.elim | exact hQ _ _ _ _ _ _ he kS
 | dum r ih =>
  intro c r' F n lo top hF hc C base hC Q Q' σ S w O a hw hat hQ
  simp only [comp] at hc
  rw [Qa] at hc
  obtain ⟨r1,h1,rfl⟩ := hc
  refine ih c r1 F n lo top hF h1 C base hC Q _ _ S w O a hw ⟨?_,⟨hat.sr.size,hat.sr.kept,hat.sr.fr,?_⟩⟩ hQ
  ·have e : ghO (σ.hp ++ [.hole]) = ghO σ.hp := by
    unfold ghO
    cases σ.hp <;> rfl
   show C S w O a.defers (ghO (σ.hp ++ [.hole]))
   rw [e]; exact hat.ctx
  ·have hm := hat.sr.mat
   refine ⟨hm.lt,hm.own,hm.inj,fun id g ob ho => ?_⟩
   show Qb6 S w O g ob ((σ.hp ++ [.hole])[id]?)
   rw [Qo (Qhb hm ho)]
   exact hm.blk id g ob ho
 | yrh g l1 y l2 =>
  intro c r' F n lo top hF hc C base hC Q Q' σ S w O a hw hat hQ
  cases c <;> (try simp only [comp] at hc) <;> try (cases hc; done)
  case region id ops draw =>
   cases draw <;> (try simp only [comp] at hc) <;> try (cases hc; done)
   split at hc
   ·rename_i eZ
    simp only [Qb,beq_iff_eq] at eZ
    obtain ⟨rfl,jW⟩ := eZ
    split at hc
    ·rename_i o ho
     split at hc
     ·rename_i r1 y' r2 h1 hy h2
      split at hc
      ·rename_i hl
       cases hc
       have hl' : r1.length = l1.length := by simpa using hl
       rw [← hl'] at ho h1 h2
       exact Qxq hG hF vL hC jW ho h1 hy h2 hw hat fun σ' S' w' O' a' => hQ _ σ' S' w' O' a'
      ·cases hc
     ·cases hc
    ·cases hc
   ·cases hc
 | reg g l =>
  intro c r' F n lo top hF hc C base hC Q Q' σ S w O a hw hat hQ
  cases c <;> (try simp only [comp] at hc) <;> try (cases hc; done)
  case region id ops draw =>
   cases draw <;> (try simp only [comp] at hc) <;> try (cases hc; done)
   split at hc
   ·rename_i jW
    rw [Qa] at hc
    obtain ⟨rs,qY,rfl⟩ := hc
    have kN := Qcp qY
    have hRO : Quu P pu M.nm ops rs := by
     unfold Quu
     rw [kN]
     apply List.map_congr_left
     intro x hx
     obtain ⟨i,hi⟩ := Qv hx
     have h1 := congrArg (fun l => l[i]?) kN
     simp only [Qf,hi,Qg] at h1
     rw [Qa] at h1
     obtain ⟨o,_,ho⟩ := h1
     have := Qkw ho
     cases x; simp_all
    refine Qrf hG hF hRO (g := g) (base := 0) ?_ hw hat.sr ?_
    ·intro hg o ho
     subst hg
     simp only [Qy,Qc5] at jW
     have := Array.all_eq_true_iff_forall_mem.1 jW o ho
     simpa using this
    ·intro τ S' w' O' a' hK hgh jD jL hd
     exact hQ _ _ _ _ _ _ hK ⟨by rw [hd]; exact hC.evol hat.ctx hat.sr.mat.lt jD hgh,jL⟩
   ·cases hc
 | nxt d m it =>
  intro c r' F n lo top hF hc C base hC Q Q' σ S w O a hw hat hQ
  cases c <;> (try simp only [comp] at hc) <;> try (cases hc; done)
  case region id ops draw =>
   cases draw <;> (try simp only [comp] at hc) <;> try (cases hc; done)
   split at hc
   ·rename_i o1 o2 xP
    split at hc
    ·rename_i hx
     cases hc
     refine Qwm hF (M := M) (N := M.nm) xP hx hw hat.sr ?_
     intro σ' w' a' hK jD hgh jL hd
     exact hQ _ _ _ _ _ _ hK ⟨by rw [hd]; exact hC.evol hat.ctx hat.sr.mat.lt jD hgh,jL⟩
    ·cases hc
   ·cases hc
 | hcl g l1 y l2 =>
  intro c r' F n lo top hF hc C base hC Q Q' σ S w O a hw hat hQ
  cases c <;> (try simp only [comp] at hc) <;> try (cases hc; done)
  case region id ops draw =>
   cases draw <;> (try simp only [comp] at hc) <;> try (cases hc; done)
   split at hc
   ·rename_i jW
    split at hc
    ·rename_i o ho
     split at hc
     ·rename_i r1 y' r2 h1 hy h2
      split at hc
      ·rename_i hl
       cases hc
       have hl' : r1.length = l1.length := by simpa using hl
       rw [← hl'] at ho h1 h2
       exact Qvr hG hF hC jW ho h1 hy h2 hw hat fun σ' S' w' O' a' => hQ _ σ' S' w' O' a'
      ·cases hc
     ·cases hc
    ·cases hc
   ·cases hc
 | yrx g m1 l1 y m2 l2 =>
  intro c r' F n lo top hF hc C base hC Q Q' σ S w O a hw hat hQ
  cases c <;> (try simp only [comp] at hc) <;> try (cases hc; done)
  case region id ops draw =>
   cases draw <;> (try simp only [comp] at hc) <;> try (cases hc; done)
   split at hc
   ·rename_i eZ
    simp only [Qb,beq_iff_eq] at eZ
    obtain ⟨rfl,jW⟩ := eZ
    split at hc
    ·rename_i o ho
     split at hc
     ·rename_i r1 y1 r2 h1 hy h2
      split at hc
      ·rename_i hl
       cases hc
       exact Qxr hG hF vL hm hC jW ho h1 hy h2 hl hw hat fun σ' S' w' O' a' => hQ _ σ' S' w' O' a'
      ·cases hc
     ·cases hc
    ·cases hc
   ·cases hc
 | crl g l1 y l2 =>
  intro c r' F n lo top hF hc C base hC Q Q' σ S w O a hw hat hQ
  cases c <;> (try simp only [comp] at hc) <;> try (cases hc; done)
  case region id ops draw =>
   cases draw <;> (try simp only [comp] at hc) <;> try (cases hc; done)
   split at hc
   ·rename_i jW
    split at hc
    ·rename_i o ho
     split at hc
     ·rename_i r1 y' r2 h1 hy h2
      split at hc
      ·rename_i hl
       cases hc
       have hl' : r1.length = l1.length := by simpa using hl
       rw [← hl'] at ho h1 h2
       exact Qv6 hG hF hC jW ho h1 hy h2 hw hat fun σ' S' w' O' a' => hQ _ σ' S' w' O' a'
      ·cases hc
     ·cases hc
    ·cases hc
   ·cases hc
 | swp i j r ih =>
  intro c r' F n lo top hF hc C base hC Q Q' σ S w O a hw hat hQ
  simp only [comp] at hc
  split at hc
  ·rename_i xY
   simp only [Qb,beq_iff_eq] at xY
   rw [Qa] at hc
   obtain ⟨r1,h1,rfl⟩ := hc
   obtain ⟨hi,hj,hw⟩ := hw
   refine ih c r1 F n lo top hF h1 C base hC Q Q' _ S w (fun id => O (sw i j id)) a hw ⟨hC.ren xY.1 xY.2 hat.ctx fun k ⟨id,g,ho⟩ => ⟨_,g,ho⟩,⟨hat.sr.size,hat.sr.kept,fun t => ?_,Zlp hat.sr.mat hi hj⟩⟩ hQ
   exact Qot (fun id => by rw [Qzo]) _ _ (hat.sr.fr t)
  ·cases hc
 | any g m l =>
  intro c r' F n lo top hF hc C base hC Q Q' σ S w O a hw hat hQ
  cases c <;> (try simp only [comp] at hc) <;> try (cases hc; done)
  case region id ops draw =>
   cases draw <;> (try simp only [comp] at hc) <;> try (cases hc; done)
   split at hc
   ·rename_i jW
    cases qY : (ops.toList.mapM fun o => resO P pu M.nm ops o) with
    | none => simp [qY] at hc
    | some rs =>
     simp only [qY] at hc
     split at hc
     ·rename_i xA
      cases hc
      simp only [Qb,decide_eq_true_eq] at xA
      obtain ⟨⟨h1,h2⟩,h3⟩ := xA
      have kN := Qcp qY
      have hAO : Qup P pu M.nm ops (rs.zipWith (fun r (x : AnyOp) => (⟨{ r with nid := x.o.nid },x.js,x.an⟩ : AnyOp)) l) := by
       unfold Qup
       rw [kN]
       refine Z0 fun i => ?_
       simp only [Qf,Zo]
       cases hi : rs[i]? with
       | none => simp
       | some x =>
        have hlt := Qag hi
        have u7 : i < l.length := by
         rw [List.length_zipWith] at h3; omega
        simp only [Qg,Qi u7,Qc.injEq]
        have h1 := congrArg (fun l => l[i]?) kN
        simp only [Qf,hi,Qg] at h1
        rw [Qa] at h1
        obtain ⟨o,_,ho⟩ := h1
        have := Qkw ho
        cases x; simp_all
      refine Que hG hF hm hAO h1 h2 (g := g) (base := σ.hp.length) ?_ hw ⟨hat.sr.size,hat.sr.kept,hat.sr.fr,Qhp hat.sr.mat _⟩ ?_
      ·intro hg o ho
       subst hg
       simp only [Qy,Qc5] at jW
       have := Array.all_eq_true_iff_forall_mem.1 jW o ho
       simpa using this
      ·intro τ S' w' O' a' hK hgh jD jL hd
       exact hQ _ _ _ _ _ _ hK ⟨by rw [hd]; exact hC.evol hat.ctx hat.sr.mat.lt jD fun y hy => hgh y (Qg2 hy),jL⟩
     ·cases hc
   ·cases hc
 | seq r1 r2 ih1 ih2 =>
  intro c r' F n lo top hF hc C base hC Q Q' σ S w O a hw hat hQ
  cases c <;> (try simp only [comp] at hc) <;> try (cases hc; done)
  case seq x y =>
   cases h1 : comp P pu M.nm lo top r1 x with
   | none => simp [h1] at hc
   | some a1 =>
    cases h2 : comp P pu M.nm lo top r2 y with
    | none => simp [h1,h2] at hc
    | some a2 =>
     simp only [h1,h2,Qc.injEq] at hc
     subst hc
     refine wpIn_seq (ih1 x a1 F n lo top hF h1 C base hC _ _ σ S w O a hw hat ?_)
     intro e σ' S' w' O' a' he kS
     cases e <;> first | exact hQ _ _ _ _ _ _ he kS | skip
     exact ih2 y a2 F n lo top hF h2 C base hC _ _ σ' S' w' O' a' he kS hQ
 | cond k r1 r2 ih1 ih2 =>
  intro c r' F n lo top hF hc C base hC Q Q' σ S w O a hw hat hQ
  cases c <;> (try simp only [comp] at hc) <;> try (cases hc; done)
  case cond k' x y =>
   cases h0 : rOd P 0 k' with
   | none => simp [h0] at hc
   | some k1 =>
    cases h1 : comp P pu M.nm lo top r1 x with
    | none => simp [h0,h1] at hc
    | some a1 =>
     cases h2 : comp P pu M.nm lo top r2 y with
     | none => simp [h0,h1,h2] at hc
     | some a2 =>
      simp only [h0,h1,h2,Qc.injEq] at hc
      subst hc
      simp only [wpR] at hw
      cases hk : evO σ.fr k1 <;> simp only [hk] at hw <;> try exact hw.elim
      case b t =>
       refine wpIn_cond_split (Qy7 hat.sr.fr h0 hk) (fun ht => ?_) (fun ht => ?_)
       ·exact ih1 x a1 F n lo top hF h1 C base hC Q Q' σ S w O a (hw.1 ht) hat hQ
       ·exact ih2 y a2 F n lo top hF h2 C base hC Q Q' σ S w O a (hw.2 ht) hat hQ
 | block id r ih =>
  intro c r' F n lo top hF hc C base hC Q Q' σ S w O a hw hat hQ
  cases c <;> (try simp only [comp] at hc) <;> try (cases hc; done)
  case block id' x =>
   rw [Qa] at hc
   obtain ⟨r1,h1,rfl⟩ := hc
   refine wpIn_block (ih x r1 F n lo top hF h1 C base hC _ _ σ S w O a hw hat ?_)
   intro e σ' S' w' O' a' he kS
   cases e <;> first | exact hQ _ _ _ _ _ _ he kS | skip
   case exit id'' =>
    simp only [Qhx] at he
    simp only [Exit.inBlock]
    split
    ·rename_i jF; rw [if_pos jF] at he; exact hQ _ _ _ _ _ _ he kS
    ·rename_i jF; rw [if_neg jF] at he; exact hQ _ _ _ _ _ _ he kS
 | loop l d r ih =>
  intro c r' F n lo top hF hc C base hC Q Q' σ S w O a hw hat hQ
  cases c <;> (try simp only [comp] at hc) <;> try (cases hc; done)
  case loop x =>
   by_cases kL : dOk lo d = true
   ·rw [if_pos kL] at hc
    rw [Qa] at hc
    obtain ⟨r1,h1,rfl⟩ := hc
    have hd : ∀ k,d = some k → lo ≤ k := by
     rintro k rfl
     exact of_decide_eq_true kL
    obtain ⟨I,⟨k0,h0⟩,kE⟩ := hw
    obtain ⟨S1,O1,jY⟩ := hat.kp hC l d hd
    refine Qum (fun k a w => ∃ σ S O,I k σ ∧ At C M S w O σ a) ⟨k0,_,S1,O1,h0,jY⟩ ?_
    rintro k a1 w1 ⟨σ1,S1,O1,hI,jY⟩
    refine ih x r1 F n lo top hF h1 C base hC _ _ σ1 S1 w1 O1 a1 (kE k σ1 hI) jY ?_
    intro e σ' S' w' O' a' he kS
    cases e <;> first | exact hQ _ _ _ _ _ _ he kS | skip
    obtain ⟨j,hj,hI'⟩ := he
    obtain ⟨S2,O2,kD⟩ := kS.kp hC l d hd
    exact ⟨j,hj,_,S2,O2,hI',kD⟩
   ·rw [if_neg kL] at hc; cases hc
 | exit id =>
  intro c r' F n lo top hF hc C base hC Q Q' σ S w O a hw hat hQ
  cases c <;> (try simp only [comp] at hc) <;> try (cases hc; done)
  cases hc
  exact wpIn_exit (hQ _ _ _ _ _ _ hw hat)
 | ret =>
  intro c r' F n lo top hF hc C base hC Q Q' σ S w O a hw hat hQ
  cases c <;> (try simp only [comp] at hc) <;> try (cases hc; done)
  exact wpIn_ret (hQ _ _ _ _ _ _ (by cases hc; exact hw) hat)
 | keep l r ih =>
  intro c r' F n lo top hF hc C base hC Q Q' σ S w O a hw hat hQ
  simp only [comp] at hc
  rw [Qa] at hc
  obtain ⟨r1,h1,rfl⟩ := hc
  exact ih c r1 F n lo top hF h1 C base hC Q Q' _ S w O a hw (hat.keep l) hQ
 | drp k r ih =>
  intro c r' F n lo top hF hc C base hC Q Q' σ S w O a hw hat hQ
  simp only [comp] at hc
  split at hc
  ·rename_i kL
   rw [Qa] at hc
   obtain ⟨r1,h1,rfl⟩ := hc
   exact ih c r1 F n lo top hF h1 C base hC Q Q' _ _ w (Qby O k) a hw (hat.drp hC kL) hQ
  ·cases hc
 | own t es r ih =>
  intro c r' F n lo top hF hc C base hC Q Q' σ S w O a hw hat hQ
  simp only [comp] at hc
  rw [Qa] at hc
  obtain ⟨r1,h1,rfl⟩ := hc
  simp only [wpR] at hw
  cases ht : σ.fr t <;> simp only [ht] at hw <;> try exact hw.elim
  case z es' =>
   have hO := Qks hat.sr.mat
   obtain ⟨jD,jC⟩ := Qp4 (Qhp hat.sr.mat [.cells 0 []]) hO (by simp) rfl
   refine ih c r1 F n lo top hF h1 C base hC Q Q' _ S w _ a hw ⟨hC.evol hat.ctx hat.sr.mat.lt jD fun y hy => Qg2 hy,⟨hat.sr.size,hat.sr.kept,fun t' => ?_,jC⟩⟩ hQ
   simp only [upd]
   split
   ·rename_i e
    subst e
    have := hat.sr.fr t'
    rw [ht] at this
    simp only [Rep] at this ⊢
    obtain ⟨x,hx⟩ := this
    rw [hx]
    exact ⟨rfl,0,none,(by simp [updO]),Qk _,fun _ => .inr ⟨rfl,trivial,x,rfl⟩⟩
   ·exact Rep.ext jD.ext _ _ (hat.sr.fr t')
 | ownc t off es r ih =>
  intro c r' F n lo top hF hc C base hC Q Q' σ S w O a hw hat hQ
  simp only [comp] at hc
  rw [Qa] at hc
  obtain ⟨r1,h1,rfl⟩ := hc
  simp only [wpR] at hw
  cases ht : σ.fr t <;> simp only [ht] at hw <;> try exact hw.elim
  case ad id g o =>
   cases jF : σ.hp[id]? with
   | none => simp [jF] at hw
   | some bk =>
    cases bk <;> simp only [jF] at hw <;> try exact hw.elim
    case cells g' vs =>
     cases hv : vs[o + off]? with
     | none => simp [hv] at hw
     | some v =>
      cases v <;> simp only [hv] at hw <;> try exact hw.elim
      case z es' =>
       obtain ⟨rfl,hw⟩ := hw
       have hO := Qks hat.sr.mat
       have vX := Qag jF
       obtain ⟨jD,jC⟩ := Qp4 (Qhp hat.sr.mat [.cells 0 []]) hO (by simp) rfl
       refine ih c r1 F n lo top hF h1 C base hC Q Q' _ S w _ a hw ⟨hC.evol hat.ctx hat.sr.mat.lt jD fun y hy => Qg2 (Qob hy jF fun _ _ h => by cases h),⟨hat.sr.size,hat.sr.kept,hat.sr.fr.ext jD.ext,?_⟩⟩ hQ
       refine ⟨jC.lt,jC.own,jC.inj,fun j gj ob hj => ?_⟩
       have hb := jC.blk j gj ob hj
       by_cases xE : j = id
       ·subst xE
        rw [Qo (by rw [Zl]; exact vX),Q6 vX]
        rw [Qo vX,jF] at hb
        simp only [Qb6] at hb ⊢
        refine ⟨hb.1,?_⟩
        cases ob with
        | none => have := hb.2; simp only at this; rw [this] at hv; simp at hv
        | some b =>
         obtain ⟨cur,e,hh,kH,hone⟩ := hb.2
         refine ⟨cur,e,hh,?_,hone⟩
         obtain ⟨cc,dM,hrep⟩ := RepL.get _ _ _ _ kH hv
         have e8 : Rep S w (updO O σ.hp.length (0,none)) (.rf σ.hp.length 0 0 0 es) cc := by
          simp only [Rep] at hrep ⊢
          obtain ⟨x,hx⟩ := hrep
          rw [hx]
          exact ⟨rfl,0,none,(by simp [updO]),Qk _,fun _ => .inr ⟨rfl,trivial,x,rfl⟩⟩
         have := RepL.set (o + off) vs cur.toList _ cc kH e8
         rwa [Qxg dM] at this
       ·have e1 : (σ.hp.set id (Blk.cells g' (vs.set (o + off) (.rf σ.hp.length 0 0 0 es))) ++ [Blk.cells 0 []])[j]? = (σ.hp ++ [Blk.cells 0 []])[j]? := by
         rw [Zq,Zq,Zl,Q9 (Ne.symm xE)]
        rw [e1]; exact hb
 | rfh f ps lo' zl rb ra ihb iha =>
  intro c r' F n lo top hF hc C base hC Q Q' σ S w O a hw hat hQ
  cases c <;> (try simp only [comp] at hc) <;> try (cases hc; done)
  case rangeFunc f0 ps0 x y =>
   split at hc
   ·rename_i xA
    simp only [Qb,decide_eq_true_eq,beq_iff_eq] at xA
    obtain ⟨⟨rfl,kL⟩,wK⟩ := xA
    cases h0 : rOd P 0 f0 with
    | none => simp [h0] at hc
    | some f1 =>
     cases h1 : comp P pu M.nm (lo' + zl) 0 rb x with
     | none => simp [h0,h1] at hc
     | some b1 =>
      cases h2 : comp P pu M.nm (lo' + zl) 0 ra y with
      | none => simp [h0,h1,h2] at hc
      | some a1 =>
       simp only [h0,h1,h2,Qc.injEq] at hc
       subst hc
       refine Qx6 hG hF hC h0 kL (fun p hp => ?_) (fun l => ihb x b1 _ _ (lo' + zl) 0 (Qst hF l) h1) (fun l => iha y a1 _ _ (lo' + zl) 0 (Qst hF l) h2) hw hat hQ
       have := Array.all_eq_true_iff_forall_mem.1 wK p (by simpa using hp)
       exact Qc1 this
   ·cases hc
end
end Go.Fam
