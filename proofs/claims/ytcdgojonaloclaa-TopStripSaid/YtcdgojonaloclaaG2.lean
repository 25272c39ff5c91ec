import Derived.Test.YtcdgojonaloclaaG1
set_option linter.all false
open List renaming getElem?_zip_eq_some → Qc, range' → Qe, getElem?_eq_getElem → Qg, getElem?_map → Qh, getElem?_append_left → Qi, all_eq_true → Qk, mem_cons → Ql, mem_append → Qm, getElem?_append_right → Qo, getElem?_of_mem → Qp, range'_succ → Qs, eq_nil_of_length_eq_zero → Qt, take_of_length_le → Qu, getElem?_set_self → Qv, getElem?_range' → Qw, mem_of_getElem? → Qx, range_eq_range' → Qy, replicate → Qz, getElem?_set_ne → Q0, getElem?_append → Q1, length_set → Q4, eq_nil_iff_forall_not_mem → Q5, range → Q6, getElem_mem → Q7, length → Q8, range'_append_1 → Q9, getElem?_take → Za, rel_of_pairwise_cons → Zc, pairwise_iff_getElem → Zd, length_cons → Ze, getElem?_cons_zero → Zf, Sublist → Zg, sublist_cons_self → Zh, mem_filter → Zk, getElem?_eq_none → Zl, getElem?_toArray → Zm, getElem?_zipWith → Zn, pairwise_append → Zo, map_cons → Zp, append_of_mem → Zq, pairwise_cons → Zr, getElem?_drop → Zs, ext_getElem? → Zv
open Nat renaming le_refl → Qj, le_trans → Qq, lt_of_lt_of_le → Zb, zero_add → Zi, lt_or_eq_of_le → Zt, lt_or_ge → Zu, strongRecOn → Zw
open Bool renaming and_eq_true → Qb, false_or → Q2, or_eq_true → Zj
open Option renaming map_eq_some_iff → Qa, map_some → Qd, some → Qf, bind_eq_some_iff → Qn, bind_eq_bind → Qr, pure_def → Q3
namespace Go.Fam
inductive Anc (ops : Array Oper) : Nat → Nat → Prop
 | base {i j : Nat} {o : Oper} {e : Edge} (ho : ops[j]? = some o) (he : e ∈ o.after) (hb : Region.binds .any e = true) (h : e.on = i) : Anc ops i j
 | step {i j : Nat} {o : Oper} {e : Edge} (ho : ops[j]? = some o) (he : e ∈ o.after) (hb : Region.binds .any e = true) (h : Anc ops i e.on) : Anc ops i j
theorem Qkj (S : Nat → Prop) (w : World) (O : OInfo) : Ext S S w { w with drawn := w.drawn + 1 } O O :=
 ⟨fun _ h => ⟨h, rfl⟩, fun _ g ob h => ⟨g, ob, h, Qj _, fun _ => ⟨rfl, fun _ cur _ _ hb => ⟨cur, hb, rfl⟩⟩⟩⟩
theorem Ql2 (S : Nat → Prop) (w : World) (O : OInfo) : Evol S S w { w with drawn := w.drawn + 1 } O O :=
 ⟨Qkj S w O, rfl, rfl, rfl, Qj _, fun _ => rfl, fun _ _ _ => rfl, fun _ h => .inl h, fun _ h => .inl h⟩
theorem Qoc {S : Nat → Prop} {w : World} {O : OInfo} {hp : List Blk} (h : Mat S w O hp) : Mat S { w with drawn := w.drawn + 1 } O hp :=
 h.keep (Qkj S w O) (Qj _) (fun _ _ => rfl) h.lt fun k hk ⟨id, g, ho⟩ => (h.own id g k ho).2 hk
section
variable {P : Program} {F : Fence} {n : Nat} {Γ : Gam} {ops : Array Oper} {g : Bool} {base : Nat} {M : FrI} {N : Nat × Nat} {pu : List Nat}
theorem RunD.cons_split {x : Nat × RO × FP} {l : List (Nat × RO × FP)} {σ τ : St} (h : RunD Γ (Qbh P) g base (x :: l) σ τ) :
  (eff Γ (Qbh P) g base x.2.1 σ).1 ∧ RunD Γ (Qbh P) g base l (Qb9 Γ (Qbh P) g base x.2.1 σ) τ := by
 obtain ⟨k, o, f⟩ := x
 exact ⟨h.1, h.2.2⟩
theorem Qp5 (hG : GOk P Γ) (hF : Qcz F) (hg : g = false → ∀ o ∈ ops, o.guard = none) {Q : Exit → Act → World → Prop} {τ : St} :
  ∀ (fuel : Nat) (rest : List (Nat × RO × FP)) (listed : Array Bool) (σ : St) (S : Nat → Prop) (w : World) (O : OInfo) (a : Act),
   rest.length ≤ fuel →
   (∀ i, listed.getD i true = false ↔ ∃ x ∈ rest, x.1 = i) →
   rest.Pairwise (fun x y => x.1 < y.1 ∧ (Anc ops x.1 y.1 ∨ Qp3 x y)) →
   (∀ x ∈ rest, ∃ o, ops[x.1]? = some o ∧ resO P pu M.nm ops o = some { x.2.1 with nid := none } ∧ ∀ e ∈ o.after, Region.binds .any e = true → e.on < x.1) →
   (∀ i j, Anc ops i j → listed.getD j false = true → listed.getD i false = true) →
   (∀ i, i < ops.size → i < listed.size) →
   RunD Γ (Qbh P) g base rest σ τ → SR M S w O σ a →
   (∀ S' w' O' a', Evol S S' w w' O O' → SR M S' w' O' τ a' → a'.defers = a.defers → Q .normal a' w') →
   wpAnyIn F n P .any ops Q fuel listed a w := by
 intro fuel
 induction fuel with
 | zero =>
  intro rest listed σ S w O a hf hl _ _ _ _ hrun hsr hK
  have hnil : rest = [] := Qt (by omega)
  subst hnil
  simp only [RunD] at hrun
  subst hrun
  refine ⟨?_, hK S w O a (Evol.refl _ _ _) hsr rfl⟩
  rw [Q5]
  intro i hi
  rw [mem_ready] at hi
  obtain ⟨x, hx, _⟩ := (hl i).1 hi.1
  simp at hx
 | succ fuel ih =>
  intro rest listed σ S w O a hf hl hp hr hc hsz hrun hsr hK
  refine ⟨fun hnil => ?_, fun i hi => ?_⟩
  ·cases rest with
   | nil =>
    simp only [RunD] at hrun
    subst hrun
    exact hK S w O a (Evol.refl _ _ _) hsr rfl
   | cons x rest =>
    exfalso
    obtain ⟨o, ho, _, hlt⟩ := hr x (by simp)
    have : x.1 ∈ Region.ready .any ops listed := by
     rw [mem_ready]
     refine ⟨(hl x.1).2 ⟨x, by simp, rfl⟩, o, ho, fun e he hb => ?_⟩
     have h1 := hlt e he hb
     have h2 : ¬ listed.getD e.on true = false := by
      rw [hl]
      rintro ⟨y, hy, hye⟩
      rcases Ql.1 hy with rfl | hy
      ·omega
      ·have := (Zc hp hy).1; omega
     have h3 : x.1 < ops.size := (Array.getElem?_eq_some_iff.1 ho).1
     have h4 := hsz e.on (by omega)
     simp [h4] at h2 ⊢
     exact h2
    rw [hnil] at this
    simp at this
  ·have hready := hi
   rw [mem_ready] at hi
   obtain ⟨h0, o, ho, hall⟩ := hi
   obtain ⟨x, hx, hxi⟩ := (hl i).1 h0
   subst hxi
   obtain ⟨A, B, rfl⟩ := Zq hx
   obtain ⟨o', ho', hro, hlt⟩ := hr x (by simp)
   rw [ho] at ho'
   cases ho'
   have hpa := Zo.1 hp
   have hpb := Zr.1 hpa.2.1
   have hind : ∀ y ∈ A, Qp3 y x := by
    intro y hy
    rcases (hpa.2.2 y hy x (by simp)).2 with h | h
    ·exfalso
     have hy0 : listed.getD y.1 true = false := (hl y.1).2 ⟨y, by simp [hy], rfl⟩
     have hy1 : listed.getD y.1 false = true := by
      cases h with
      | base ho' he hb h =>
       rw [ho] at ho'; cases ho'
       rw [← h]
       exact hall _ he hb
      | step ho' he hb h =>
       rw [ho] at ho'; cases ho'
       exact hc _ _ h (hall _ he hb)
     cases hle : listed[y.1]? with
     | none => simp [hle] at hy0
     | some b => simp [hle] at hy0 hy1; simp_all
    ·exact h
   have hmv := RunD.move A σ hrun hind
   obtain ⟨hok, hrest⟩ := hmv.cons_split
   obtain ⟨hs1, hs2⟩ := Qo0 hok
   refine Qoo hG hF ho hro (fun hgf => hg hgf o (Array.mem_of_getElem? ho)) hsr hs1 ?_
   intro S' w' O' a' hev hsr' hdef
   rw [hs2] at hsr'
   refine ih (A ++ B) (listed.setIfInBounds x.1 true) _ S' w' O' a' ?_ ?_ ?_ ?_ ?_ ?_ hrest hsr' ?_
   ·simp at hf ⊢; omega
   ·intro i
    by_cases hix : i = x.1
    ·subst hix
     have hlt' : x.1 < listed.size := hsz _ (Array.getElem?_eq_some_iff.1 ho).1
     simp [hlt']
     intro k r
     refine ⟨fun hm => ?_, fun hm => ?_⟩
     ·have := (hpa.2.2 _ hm x (by simp)).1; simp at this
     ·have := (hpb.1 _ hm).1; simp at this
    ·rw [getD_set_ne true (Ne.symm hix), hl]
     constructor
     ·rintro ⟨y, hy, rfl⟩
      refine ⟨y, ?_, rfl⟩
      simp only [Qm, Ql] at hy ⊢
      rcases hy with h | h | h
      ·exact .inl h
      ·subst h; exact absurd rfl hix
      ·exact .inr h
     ·rintro ⟨y, hy, rfl⟩
      exact ⟨y, by simp only [Qm, Ql] at hy ⊢; rcases hy with h | h <;> simp [h], rfl⟩
   ·refine List.Pairwise.sublist ?_ hp
    exact Zg.append (Zg.refl _) (Zh _ _)
   ·intro y hy
    refine hr y ?_
    simp only [Qm, Ql] at hy ⊢
    rcases hy with h | h <;> simp [h]
   ·intro i j hij hj
    by_cases hjx : j = x.1
    ·subst hjx
     refine getD_set_true ?_
     cases hij with
     | base ho' he hb h =>
      rw [ho] at ho'; cases ho'
      rw [← h]
      exact hall _ he hb
     | step ho' he hb h =>
      rw [ho] at ho'; cases ho'
      exact hc _ _ h (hall _ he hb)
    ·rw [getD_set_ne false (Ne.symm hjx)] at hj
     exact getD_set_true (hc i j hij hj)
   ·intro i hi
    simpa using hsz i hi
   ·intro S'' w'' O'' a'' hev' hsr'' hdef'
    exact hK S'' w'' O'' a'' (hev.trans hev') hsr'' (hdef'.trans hdef)
theorem RunD.gh : ∀ (l : List (Nat × RO × FP)) (σ τ : St) {y : List V × Option (List (List V))}, RunD Γ (Qbh P) g base l σ τ → ghO σ.hp = some y → ghO τ.hp = some y
 | [], σ, τ, y, h, hy => by simp only [RunD] at h; subst h; exact hy
 | (k, o, f) :: l, σ, τ, y, h, hy => RunD.gh l _ _ h.2.2 (Zc5 h.1 hy)
structure AnyOp where
 o : RO
 js : List Nat
 an : List Nat
def runX (Γ : Gam) (E : TypeId → Nat → Prop) (g : Bool) (base : Nat) : List AnyOp → List FP → St → (St → Prop) → Prop
 | [], _, σ, K => K σ
 | x :: l, done, σ, K => (eff Γ E g base x.o σ).1 ∧ (x.js.all fun j => Qbp (done.getD j ⟨none, []⟩) (fpR Γ g base x.o σ)) = true ∧ runX Γ E g base l (done ++ [fpR Γ g base x.o σ]) (Qb9 Γ E g base x.o σ) K
def RX.quiet : RX → Bool | .q _ => true | .w _ => false | .o _ _ => false
def Qtd (l : List AnyOp) : Bool :=
 (Q6 l.length).all fun j => match l[j]? with
  | none => true
  | some y => (Q6 j).all fun i => match l[i]? with
   | none => true
   | some x => y.an.contains i || (Qp6 x.o y.o && (y.js.contains i || (x.o.x.quiet && y.o.x.quiet)))
def ancB (ops : Array Oper) (l : List AnyOp) : Bool :=
 (Q6 ops.size).all fun j => match ops[j]?, l[j]? with
  | some o, some y => (o.after.all fun e => !(Region.binds .any e) || decide (e.on < j)) &&
    y.an.all fun i => o.after.any fun e => Region.binds .any e && (e.on == i || match l[e.on]? with | some z => z.an.contains i | none => false)
  | _, _ => false
theorem Qe7 {l : List AnyOp} (h : ancB ops l = true) : ∀ (j : Nat) (y : AnyOp), l[j]? = some y → j < ops.size → (∀ i ∈ y.an, Anc ops i j) ∧ ∀ o, ops[j]? = some o → ∀ e ∈ o.after, Region.binds .any e = true → e.on < j := by
 intro j
 induction j using Zw with
 | _ j ih =>
  intro y hy hj
  have h1 := Qk.1 h j (by simpa using hj)
  obtain ⟨o, ho⟩ : ∃ o, ops[j]? = some o := ⟨ops[j], by simp [hj]⟩
  simp only [ho, hy, Qb] at h1
  have hlt : ∀ e ∈ o.after, Region.binds .any e = true → e.on < j := by
   intro e he hb
   have := Array.all_eq_true_iff_forall_mem.1 h1.1 e he
   simpa [hb] using this
  refine ⟨fun i hi => ?_, fun o' ho' => by rw [ho] at ho'; cases ho'; exact hlt⟩
  have h2 := Qk.1 h1.2 i hi
  rw [Array.any_eq_true] at h2
  obtain ⟨k, hk, h3⟩ := h2
  simp only [Qb, Zj] at h3
  have hmem : o.after[k] ∈ o.after := Array.getElem_mem hk
  rcases h3.2 with h4 | h4
  ·exact .base ho hmem h3.1 (by simpa using h4)
  ·cases hz : l[(o.after[k]).on]? with
   | none => simp [hz] at h4
   | some z =>
    simp only [hz] at h4
    have hl := hlt _ hmem h3.1
    exact .step ho hmem h3.1 ((ih _ hl z hz (by omega)).1 i (by simpa using h4))
theorem Qqu {l : List AnyOp} : ∀ (k : Nat) (done : List FP) (σ : St) (K : St → Prop), runX Γ (Qbh P) g base l done σ K → k = done.length →
  ∃ fs : List FP, ∃ τ, fs.length = l.length ∧ RunD Γ (Qbh P) g base ((Qe k l.length).zip ((l.map (·.o)).zip fs)) σ τ ∧ K τ ∧
   ∀ q y f, l[q]? = some y → fs[q]? = some f → ∀ j ∈ y.js, Qbp ((done ++ fs).getD j ⟨none, []⟩) f = true ∨ k + q ≤ j := by
 induction l with
 | nil => intro k done σ K h _; exact ⟨[], σ, rfl, (by simp [RunD]), h, by simp⟩
 | cons x l ih =>
  intro k done σ K h hk
  obtain ⟨h1, h2, h3⟩ := h
  obtain ⟨fs, τ, hl, hrun, hK, hd⟩ := ih (k + 1) _ _ _ h3 (by simp [hk])
  refine ⟨fpR Γ g base x.o σ :: fs, τ, by simp [hl], ?_, hK, ?_⟩
  ·simp only [Ze, Qs, Zp, List.zip_cons_cons, RunD]
   exact ⟨h1, trivial, hrun⟩
  ·intro q y f hy hf j hj
   cases q with
   | zero =>
    simp at hy hf
    subst hy hf
    by_cases hjk : k ≤ j
    ·exact .inr (by omega)
    ·left
     have := Qk.1 h2 j hj
     have hlt : j < done.length := by omega
     simpa [Qi hlt] using this
   | succ q =>
    simp at hy hf
    have := hd q y f hy hf j hj
    rcases this with h | h
    ·left; simpa using h
    ·right; omega
theorem RunD.quiet : ∀ (l : List (Nat × RO × FP)) (σ τ : St), RunD Γ (Qbh P) g base l σ τ → ∀ x ∈ l, x.2.1.x.quiet = true → x.2.2.wr = []
 | [], _, _, _ => by simp
 | (k, o, f) :: l, σ, τ, h => by
  intro x hx hq
  obtain ⟨_, h2, h3⟩ := h
  rcases Ql.1 hx with rfl | hx
  ·simp only at hq ⊢
   rw [← h2]
   unfold fpR
   cases ho : o.x with
   | q q => rfl
   | w q => rw [ho] at hq; cases hq
   | o f xs => rw [ho] at hq; cases hq
  ·exact RunD.quiet l _ _ h3 x hx hq
def Quo (P : Program) (pu : List Nat) (N : Nat × Nat) (ops : Array Oper) (l : List AnyOp) : Prop :=
 ops.toList.map (fun o => resO P pu N ops o) = l.map fun x => some { x.o with nid := none }
theorem Qui (hG : GOk P Γ) (hF : Qcz F) (hm : P.follows .mixedOrders = true) {l : List AnyOp} (hl : Quo P pu M.nm ops l) (hp : Qtd l = true) (ha : ancB ops l = true)
  (hg : g = false → ∀ o ∈ ops, o.guard = none) {Q : Exit → Act → World → Prop} {σ : St} {S : Nat → Prop} {w : World} {O : OInfo} {a : Act} {K : St → Prop} {id : Nat}
  (hrun : runX Γ (Qbh P) g base l [] σ K) (hsr : SR M S w O σ a)
  (hK : ∀ τ S' w' O' a', K τ → (∀ y, ghO σ.hp = some y → ghO τ.hp = some y) → Evol S S' w w' O O' → SR M S' w' O' τ a' → a'.defers = a.defers → Q .normal a' w') : (Code.region id ops true).wpIn F n P Q a w := by
 obtain ⟨fs, τ, hfs, hr, hKτ, hd⟩ := Qqu 0 [] σ K hrun rfl
 have hlen : l.length = ops.size := by
  have := congrArg Q8 hl
  simpa using this.symm
 refine wpIn_region_any hm ?_
 have hget : ∀ x ∈ (Qe 0 l.length).zip ((l.map (·.o)).zip fs), ∃ y, l[x.1]? = some y ∧ y.o = x.2.1 ∧ fs[x.1]? = some x.2.2 := by
  rintro ⟨i, o, f⟩ hx
  obtain ⟨q, hq⟩ := Qp hx
  rw [Qc] at hq
  obtain ⟨q1, q2⟩ := hq
  rw [Qc] at q2
  obtain ⟨q2, q3⟩ := q2
  have hqi : i = q := by
   rw [Qw] at q1
   ·simpa using q1.symm
   ·have := Qav q1; simpa using this
  subst hqi
  rw [Qh, Qa] at q2
  obtain ⟨y, hy, rfl⟩ := q2
  exact ⟨y, hy, rfl, q3⟩
 have hopl : ∀ (i : Nat) (y : AnyOp), l[i]? = some y → ∃ o, ops[i]? = some o ∧ resO P pu M.nm ops o = some { y.o with nid := none } := by
  intro i y hy
  have hlt : i < ops.size := by rw [← hlen]; exact Qav hy
  refine ⟨ops[i], by simp [hlt], ?_⟩
  have := congrArg (fun l => l[i]?) hl
  simpa [hy, hlt] using this
 have hz : ∀ i x f, l[i]? = some x → fs[i]? = some f → (i, x.o, f) ∈ (Qe 0 l.length).zip ((l.map (·.o)).zip fs) := by
  intro i x f hx hf
  refine Qx (i := i) ?_
  rw [Qc]
  have := Qav hx
  refine ⟨by rw [Qw this]; simp, ?_⟩
  rw [Qc]
  exact ⟨by simp [hx], hf⟩
 have hpairs : ∀ i j x y, l[i]? = some x → l[j]? = some y → i < j → Anc ops i j ∨ ∀ fx fy, fs[i]? = some fx → fs[j]? = some fy → Qp3 (i, x.o, fx) (j, y.o, fy) := by
  intro i j x y hx hy hij
  have hjl := Qav hy
  have h1 := Qk.1 hp j (by simpa using hjl)
  simp only [hy] at h1
  have h2 := Qk.1 h1 i (by simpa using hij)
  simp only [hx, Zj, Qb] at h2
  rcases h2 with h2 | ⟨h2, h3⟩
  ·exact .inl ((Qe7 ha j y hy (by omega)).1 i (by simpa using h2))
  ·right
   intro fx fy hfx hfy
   refine ⟨h2, ?_⟩
   rcases h3 with h3 | h3
   ·have := hd j y fy hy hfy i (by simpa using h3)
    rcases this with h4 | h4
    ·simpa [hfx] using h4
    ·omega
   ·have e1 := RunD.quiet _ _ _ hr _ (hz i x fx hx hfx) h3.1
    have e2 := RunD.quiet _ _ _ hr _ (hz j y fy hy hfy) h3.2
    simp only at e1 e2
    simp [Qbp, hits, e1, e2]
 refine Qp5 hG hF hg (pu := pu) (M := M) ops.size _ _ σ S _ O a ?_ ?_ ?_ ?_ ?_ ?_ hr ?_ ?_
 ·simp [hlen, hfs]
 ·intro i
  constructor
  ·intro h
   have hi : i < ops.size := by
    rcases Zu i ops.size with h' | h'
    ·exact h'
    ·simp [Nat.not_lt.2 h'] at h
   have h1 : i < l.length := by omega
   have h2 : i < fs.length := by omega
   exact ⟨_, hz i l[i] fs[i] (by simp [h1]) (by simp [h2]), rfl⟩
  ·rintro ⟨x, hx, rfl⟩
   obtain ⟨y, hy, _⟩ := hget x hx
   have := Qav hy
   have h2 : x.1 < ops.size := by omega
   simp [h2]
 ·rw [Zd]
  intro i j hi hj hij
  obtain ⟨x, hx, hxo, hxf⟩ := hget _ (Q7 hi)
  obtain ⟨y, hy, hyo, hyf⟩ := hget _ (Q7 hj)
  have ei : (((Qe 0 l.length).zip ((l.map (·.o)).zip fs))[i]).1 = i := by simp
  have ej : (((Qe 0 l.length).zip ((l.map (·.o)).zip fs))[j]).1 = j := by simp
  rw [ei] at hx hxf
  rw [ej] at hy hyf
  rw [ei, ej]
  refine ⟨hij, (hpairs i j x y hx hy hij).imp (fun h => h) fun h => ?_⟩
  have := h _ _ hxf hyf
  rw [hxo, hyo] at this
  exact this
 ·intro x hx
  obtain ⟨y, hy, hyo, _⟩ := hget x hx
  obtain ⟨o, ho, hr'⟩ := hopl _ _ hy
  refine ⟨o, ho, by rw [← hyo]; exact hr', fun e he hb => ?_⟩
  exact (Qe7 ha _ y hy (Array.getElem?_eq_some_iff.1 ho).1).2 o ho e he hb
 ·intro i j _ hj
  exfalso
  by_cases h : j < ops.size <;> simp [h] at hj
 ·intro i hi
  simpa using hi
 ·exact ⟨hsr.size, hsr.kept, hsr.fr.ext (Qkj _ _ _), Qoc hsr.mat⟩
 ·intro S' w' O' a' hev hsr' hdef
  exact hK τ S' w' O' a' hKτ (fun y hy => RunD.gh _ _ _ hr hy) ((Ql2 S w O).trans hev) hsr' hdef
theorem Zb9 (hG : GOk P Γ) (hF : Qcz F) (hg : g = false → ∀ o ∈ ops, o.guard = none) {Q : Exit → Act → World → Prop} {K : St → Prop} :
  ∀ (l : List RO) (k : Nat) (σ : St) (S : Nat → Prop) (w : World) (O : OInfo) (a : Act), (∀ q r, l[q]? = some r → ∃ o, ops[k + q]? = some o ∧ resO P pu M.nm ops o = some { r with nid := none }) →
   runR Γ (Qbh P) g base l σ K → SR M S w O σ a →
   (∀ τ S' w' O' a', K τ → (∀ y, ghO σ.hp = some y → ghO τ.hp = some y) → Evol S S' w w' O O' → SR M S' w' O' τ a' → a'.defers = a.defers → Q .normal a' w') →
   wpOpsIn F n P ops Q (Qe k l.length) a w := by
 intro l
 induction l with
 | nil => intro k σ S w O a _ hrun hsr hK; exact hK σ S w O a hrun (fun _ h => h) (Evol.refl _ _ _) hsr rfl
 | cons r l ih =>
  intro k σ S w O a hops hrun hsr hK
  obtain ⟨hok, hrun⟩ := hrun
  rw [Ze, Qs, wpOpsIn_cons]
  obtain ⟨o, ho, hro⟩ := hops 0 r rfl
  refine Qoo hG hF ho hro (fun hgf => hg hgf o (Array.mem_of_getElem? ho)) hsr hok ?_
  intro S' w' O' a' hev hsr' hdef
  refine ih (k + 1) _ S' w' O' a' ?_ hrun hsr' fun τ S'' w'' O'' a'' hKτ hgh hev' hsr'' hdef' => hK τ S'' w'' O'' a'' hKτ (fun y hy => hgh y (Qs3 hok hy)) (hev.trans hev') hsr'' (hdef'.trans hdef)
  intro q r' hr'
  have := hops (q + 1) r' (by simpa using hr')
  rwa [Nat.add_comm q 1, ← Nat.add_assoc] at this
def Qup (P : Program) (pu : List Nat) (N : Nat × Nat) (ops : Array Oper) (l : List RO) : Prop :=
 ops.toList.map (fun o => resO P pu N ops o) = l.map fun x => some { x with nid := none }
theorem Qrx (hG : GOk P Γ) (hF : Qcz F) {l : List RO} (hl : Qup P pu M.nm ops l)
  (hg : g = false → ∀ o ∈ ops, o.guard = none) {Q : Exit → Act → World → Prop} {σ : St} {S : Nat → Prop} {w : World} {O : OInfo} {a : Act} {K : St → Prop} {id : Nat}
  (hrun : runR Γ (Qbh P) g base l σ K) (hsr : SR M S w O σ a)
  (hK : ∀ τ S' w' O' a', K τ → (∀ y, ghO σ.hp = some y → ghO τ.hp = some y) → Evol S S' w w' O O' → SR M S' w' O' τ a' → a'.defers = a.defers → Q .normal a' w') : (Code.region id ops false).wpIn F n P Q a w := by
 have hlen : l.length = ops.size := by
  have := congrArg Q8 hl
  simpa using this.symm
 refine wpIn_region ?_
 rw [Qy, ← hlen]
 refine Zb9 hG hF hg (pu := pu) (g := g) l 0 σ S w O a ?_ hrun hsr hK
 intro q r hq
 have hlt : q < ops.size := by rw [← hlen]; exact Qav hq
 refine ⟨ops[q], by simp [hlt], ?_⟩
 have := congrArg (fun l => l[q]?) hl
 simpa [hq, hlt] using this
end
end Go.Fam
namespace Go.Fam
def lkp : List (Nat × V) → Nat → V
 | [], _ => .u
 | (k, v) :: l, t => if t = k then v else lkp l t
mutual
def upV (n : Nat) : V → V
 | .ad id g off => if id < n then .u else .ad id g off
 | .rf id g off len es => if id < n then .u else .rf id g off len es
 | .mp id g => if id < n then .u else .mp id g
 | .it id g => if id < n then .u else .it id g
 | .ag cs => .ag (upL n cs)
 | .tp cs => .tp (upL n cs)
 | .fn f cs => .fn f (upL n cs)
 | .gv q v => .gv q (upV n v)
 | v => v
def upL (n : Nat) : List V → List V
 | [] => []
 | v :: vs => upV n v :: upL n vs
end
def upB (n : Nat) : Blk → Blk
 | .cells g vs => .cells g (upL n vs)
 | .map st ks vs => .map st ks (upL n vs)
 | .iter mid k l c => if mid < n then .dead 0 else .iter mid k l c
 | b => b
theorem Qfw (n : Nat) : ∀ vs : List V, (upL n vs).length = vs.length
 | [] => rfl
 | _ :: vs => by simp [upL, Qfw n vs]
def Qij (O : OInfo) (n : Nat) : OInfo := fun id => if id < n then none else O id
mutual
theorem Qxn {S : Nat → Prop} {w : World} {O : OInfo} {n : Nat} : ∀ (v : V) (c : Value), Rep S w O v c → Rep S w (Qij O n) (upV n v) c
 | .u, _, _ => by simp [upV, Rep]
 | .b x, c, h => by simpa [upV, Rep] using h
 | .i x, c, h => by simpa [upV, Rep] using h
 | .z es, c, h => by simpa [upV, Rep] using h
 | .sl es rows, c, h => by simpa only [upV, Rep] using h
 | .sx es rows, c, h => by simpa only [upV, Rep] using h
 | .pa cs, c, h => by simpa only [upV, Rep] using h
 | .pn, c, h => by simpa [upV, Rep] using h
 | .yl l, c, h => by simpa [upV, Rep] using h
 | .ag cs, c, h => by
  simp only [upV, Rep] at h ⊢
  obtain ⟨ccs, hc, hn, hr⟩ := h
  exact ⟨ccs, hc, by rw [Qfw]; exact hn, Qjw cs _ hr⟩
 | .tp cs, c, h => by
  simp only [upV, Rep] at h ⊢
  obtain ⟨ccs, hc, hn, hr⟩ := h
  exact ⟨ccs, hc, by rw [Qfw]; exact hn, Qjw cs _ hr⟩
 | .fn f cs, c, h => by
  simp only [upV, Rep] at h ⊢
  obtain ⟨ccs, hc, hn, hr⟩ := h
  exact ⟨ccs, hc, by rw [Qfw]; exact hn, Qjw cs _ hr⟩
 | .gv q v, c, h => by
  simp only [upV, Rep] at h ⊢
  exact ⟨fun hq => Qxn v c (h.1 hq), h.2⟩
 | .ad id g off, c, h => by
  simp only [upV]
  split
  ·simp [Rep]
  ·rename_i hl; simpa only [Rep, Qij, if_neg hl] using h
 | .rf id g off len es, c, h => by
  simp only [upV]
  split
  ·simp [Rep]
  ·rename_i hl; simpa only [Rep, Qij, if_neg hl] using h
 | .mp id g, c, h => by
  simp only [upV]
  split
  ·simp [Rep]
  ·rename_i hl; simpa only [Rep, Qij, if_neg hl] using h
 | .it id g, c, h => by
  simp only [upV]
  split
  ·simp [Rep]
  ·rename_i hl; simpa only [Rep, Qij, if_neg hl] using h
theorem Qjw {S : Nat → Prop} {w : World} {O : OInfo} {n : Nat} : ∀ (vs : List V) (cs : List Value), RepL S w O vs cs → RepL S w (Qij O n) (upL n vs) cs
 | [], _, _ => by simp [upL, RepL]
 | _ :: _, [], h => by simp [RepL] at h
 | v :: vs, c :: cs, h => by
  simp only [upL, RepL] at h ⊢
  exact ⟨Qxn v c h.1, Qjw vs cs h.2⟩
end
def hpF (n : Nat) (hp : List Blk) : List Blk := (hp.take n).map (fun _ => .hole) ++ (hp.drop n).map (upB n)
mutual
def cutV (hp : List Blk) (n : Nat) : V → V
 | .ad id g off => if id < n then .ad id g off else vw (hpF n hp) 8 (.ad id g off)
 | .rf id g off len es => if id < n then .rf id g off len es else vw (hpF n hp) 8 (.rf id g off len es)
 | .mp id g => if id < n then .mp id g else .u
 | .it id g => if id < n then .it id g else .u
 | .ag cs => .ag (cutL hp n cs)
 | .tp cs => .tp (cutL hp n cs)
 | .fn f cs => .fn f (cutL hp n cs)
 | .gv q v => .gv q (cutV hp n v)
 | v => v
def cutL (hp : List Blk) (n : Nat) : List V → List V
 | [] => []
 | v :: vs => cutV hp n v :: cutL hp n vs
end
def cutB (hp : List Blk) (n : Nat) : Blk → Blk
 | .cells g vs => .cells g (cutL hp n vs)
 | .map st ks vs => .map st ks (cutL hp n vs)
 | .iter mid k l c => if mid < n then .iter mid k l c else .dead 0
 | b => b
theorem Qep (hp : List Blk) (n : Nat) : ∀ vs : List V, (cutL hp n vs).length = vs.length
 | [] => rfl
 | _ :: vs => by simp [cutL, Qep hp n vs]
def Qex (O : OInfo) (n : Nat) : OInfo := fun id => if id < n then O id else none
def cutS (S : Nat → Prop) (O : OInfo) (n : Nat) : Nat → Prop := fun k => S k ∨ Own (Qij O n) k
theorem Qc6 {O : OInfo} {n id : Nat} {x : Nat × Option Nat} (h : Qij O n id = some x) : n ≤ id ∧ O id = some x := by
 unfold Qij at h
 split at h
 ·cases h
 ·rename_i hl; exact ⟨by omega, h⟩
theorem Qcb {O : OInfo} {n id : Nat} {x : Nat × Option Nat} (h : Qex O n id = some x) : id < n ∧ O id = some x := by
 unfold Qex at h
 split at h
 ·rename_i hl; exact ⟨hl, h⟩
 ·cases h
theorem Qsz {S : Nat → Prop} {w : World} {O : OInfo} {hp : List Blk} (h : Mat S w O hp) (n : Nat) : Mat S w (Qij O n) (hpF n hp) := by
 have hx : Ext S S w w O O := Ext.refl S w O
 refine ⟨h.lt, fun id g b ho => h.own id g b (Qc6 ho).2, fun id id' g g' b h1 h2 => h.inj id id' g g' b (Qc6 h1).2 (Qc6 h2).2, fun id g ob ho => ?_⟩
 obtain ⟨hl, ho⟩ := Qc6 ho
 have hb := h.blk id g ob ho
 have hlt : id < hp.length := by
  rcases Zu id hp.length with h' | h'
  ·exact h'
  ·rw [Zl h'] at hb; exact hb.elim
 have hg : (hpF n hp)[id]? = (hp[id]?).map (upB n) := by
  unfold hpF
  rw [Qo (by simp; omega)]
  simp only [List.length_map, List.length_take, Qh, Zs]
  congr 2
  omega
 rw [hg]
 cases hid : hp[id]? with
 | none => rw [hid] at hb; exact hb.elim
 | some b =>
  rw [hid] at hb
  cases b with
  | hole => exact hb.elim
  | gh c y => exact hb.elim
  | dead g' => exact hb
  | map st ks vs =>
   simp only [Qbu, Qd, upB] at hb ⊢
   obtain ⟨h0, b, es, hob, hh, h1, h3, h4, h5⟩ := hb
   exact ⟨h0, b, es, hob, hh, h1, Qjw _ _ h3, by rw [Qfw]; exact h4, h5⟩
  | iter mid k l c =>
   simp only [Qbu, Qd, upB] at hb ⊢
   obtain ⟨h0, b, m, seen, hob, hh, h1, h2⟩ := hb
   by_cases hmid : mid < n
   ·rw [if_pos hmid]; exact h0.symm
   ·rw [if_neg hmid]
    refine ⟨h0, b, m, seen, hob, hh, ?_, h2⟩
    have := Qxn (n := n) (.mp mid 0) _ h1
    simpa only [upV, if_neg hmid] using this
  | cells g' vs =>
   simp only [Qbu, Qd, upB] at hb ⊢
   refine ⟨hb.1, ?_⟩
   cases ob with
   | none => simp only at hb ⊢; rw [hb.2]; rfl
   | some b =>
    obtain ⟨cur, e, hh, hrl, h1⟩ := hb.2
    exact ⟨cur, e, hh, Qjw _ _ hrl, h1⟩
mutual
theorem Qnq {S : Nat → Prop} {w : World} {O : OInfo} {hp : List Blk} (hm : Mat S w O hp) (n : Nat) : ∀ (v : V) (c : Value), Rep S w O v c → Rep (cutS S O n) w (Qex O n) (cutV hp n v) c
 | .u, _, _ => by simp [cutV, Rep]
 | .b x, c, h => by simpa [cutV, Rep] using h
 | .i x, c, h => by simpa [cutV, Rep] using h
 | .z es, c, h => by simpa [cutV, Rep] using h
 | .sl es rows, c, h => by
  have h' : Rep S w noO (.sl es rows) c := by simpa only [Rep] using h
  simpa only [cutV] using Rep.ext ⟨fun k hk => ⟨.inl hk, rfl⟩, fun _ _ _ h => by cases h⟩ _ _ h'
 | .sx es rows, c, h => by
  have h' : Rep S w noO (.sx es rows) c := by simpa only [Rep] using h
  simpa only [cutV] using Rep.ext ⟨fun k hk => ⟨.inl hk, rfl⟩, fun _ _ _ h => by cases h⟩ _ _ h'
 | .pa cs, c, h => by
  have h' : Rep S w noO (.pa cs) c := by simpa only [Rep] using h
  simpa only [cutV] using Rep.ext ⟨fun k hk => ⟨.inl hk, rfl⟩, fun _ _ _ h => by cases h⟩ _ _ h'
 | .pn, c, h => by simpa [cutV, Rep] using h
 | .yl l, c, h => by simpa [cutV, Rep] using h
 | .ag cs, c, h => by
  simp only [cutV, Rep] at h ⊢
  obtain ⟨ccs, hc, hn, hr⟩ := h
  exact ⟨ccs, hc, by rw [Qep]; exact hn, Qh8 hm n cs _ hr⟩
 | .tp cs, c, h => by
  simp only [cutV, Rep] at h ⊢
  obtain ⟨ccs, hc, hn, hr⟩ := h
  exact ⟨ccs, hc, by rw [Qep]; exact hn, Qh8 hm n cs _ hr⟩
 | .fn f cs, c, h => by
  simp only [cutV, Rep] at h ⊢
  obtain ⟨ccs, hc, hn, hr⟩ := h
  exact ⟨ccs, hc, by rw [Qep]; exact hn, Qh8 hm n cs _ hr⟩
 | .gv q v, c, h => by
  simp only [cutV, Rep] at h ⊢
  exact ⟨fun hq => Qnq hm n v c (h.1 hq), h.2⟩
 | .ad id g off, c, h => by
  simp only [cutV]
  split
  ·rename_i hl; simpa only [Rep, Qex, if_pos hl] using h
  ·rename_i hl
   have h' : Rep S w (Qij O n) (.ad id g off) c := by simpa only [Rep, Qij, if_neg hl] using h
   exact Qot (Qmd (Qsz hm n) 8 _ _ h')
 | .rf id g off len es, c, h => by
  simp only [cutV]
  split
  ·rename_i hl; simpa only [Rep, Qex, if_pos hl] using h
  ·rename_i hl
   have h' : Rep S w (Qij O n) (.rf id g off len es) c := by simpa only [Rep, Qij, if_neg hl] using h
   exact Qot (Qmd (Qsz hm n) 8 _ _ h')
 | .mp id g, c, h => by
  simp only [cutV]
  split
  ·rename_i hl; simpa only [Rep, Qex, if_pos hl] using h
  ·simp [Rep]
 | .it id g, c, h => by
  simp only [cutV]
  split
  ·rename_i hl; simpa only [Rep, Qex, if_pos hl] using h
  ·simp [Rep]
theorem Qh8 {S : Nat → Prop} {w : World} {O : OInfo} {hp : List Blk} (hm : Mat S w O hp) (n : Nat) : ∀ (vs : List V) (cs : List Value), RepL S w O vs cs → RepL (cutS S O n) w (Qex O n) (cutL hp n vs) cs
 | [], _, _ => by simp [cutL, RepL]
 | _ :: _, [], h => by simp [RepL] at h
 | v :: vs, c :: cs, h => by
  simp only [cutL, RepL] at h ⊢
  exact ⟨Qnq hm n v c h.1, Qh8 hm n vs cs h.2⟩
end
theorem Qv4 {S : Nat → Prop} {w : World} {O : OInfo} {hp : List Blk} (h : Mat S w O hp) (n : Nat) : Mat (cutS S O n) w (Qex O n) ((hp.take n).map (cutB hp n)) := by
 refine ⟨fun k hk => ?_, fun id g b ho => ?_, fun id id' g g' b h1 h2 => h.inj id id' g g' b (Qcb h1).2 (Qcb h2).2, fun id g ob ho => ?_⟩
 ·rcases hk with hk | ⟨id, g, ho⟩
  ·exact h.lt k hk
  ·exact (h.own id g k (Qc6 ho).2).1
 ·obtain ⟨hl, ho⟩ := Qcb ho
  refine ⟨(h.own id g b ho).1, ?_⟩
  rintro (hS | ⟨id', g', ho'⟩)
  ·exact (h.own id g b ho).2 hS
  ·have := h.inj id id' g g' b ho (Qc6 ho').2
   have := (Qc6 ho').1
   omega
 obtain ⟨hl, ho⟩ := Qcb ho
 have hb := h.blk id g ob ho
 rw [Qh, Za, if_pos hl]
 cases hid : hp[id]? with
 | none => rw [hid] at hb; exact hb.elim
 | some b =>
  rw [hid] at hb
  cases b with
  | hole => exact hb.elim
  | gh c y => exact hb.elim
  | dead g' => exact hb
  | map st ks vs =>
   simp only [Qd, cutB, Qbu] at hb ⊢
   obtain ⟨h0, b, es, hob, hh, h1, h3, h4, h5⟩ := hb
   exact ⟨h0, b, es, hob, hh, h1, Qh8 h n _ _ h3, by rw [Qep]; exact h4, h5⟩
  | iter mid k l c =>
   simp only [Qd, cutB, Qbu] at hb ⊢
   obtain ⟨h0, b, m, seen, hob, hh, h1, h2⟩ := hb
   by_cases hmid : mid < n
   ·rw [if_pos hmid]
    refine ⟨h0, b, m, seen, hob, hh, ?_, h2⟩
    have := Qnq h n (.mp mid 0) _ h1
    simpa only [cutV, if_pos hmid] using this
   ·rw [if_neg hmid]; exact h0.symm
  | cells g' vs =>
   simp only [Qd, cutB, Qbu] at hb ⊢
   refine ⟨hb.1, ?_⟩
   cases ob with
   | none => simp only at hb ⊢; rw [hb.2]; rfl
   | some b =>
    obtain ⟨cur, e, hh, hrl, h1⟩ := hb.2
    exact ⟨cur, e, hh, Qh8 h n _ _ hrl, h1⟩
theorem Evol.cut {S S' : Nat → Prop} {w w' : World} {O : OInfo} (h : Evol S S' w w' noO O) (n : Nat) : Evol S (cutS S' O n) w w' noO (Qex O n) := by
 refine ⟨⟨fun k hk => ⟨.inl (h.ext.keep k hk).1, (h.ext.keep k hk).2⟩, fun _ _ _ h => (by cases h)⟩, h.os, h.tape, h.output, h.size, h.fz, h.old, fun k ⟨id, g, ho⟩ => h.fresh k ⟨id, g, (Qcb ho).2⟩, ?_⟩
 rintro k (hk | ⟨id, g, ho⟩)
 ·exact h.grow k hk
 ·exact .inr (h.fresh k ⟨id, g, (Qc6 ho).2⟩)
theorem Evol.less {S S' : Nat → Prop} {w w' : World} {O O' : OInfo} (h : Evol S S' w w' noO O) (ho : ∀ n, Own O' n → Own O n) : Evol S S' w w' noO O' :=
 ⟨⟨h.ext.keep, fun _ _ _ h => by cases h⟩, h.os, h.tape, h.output, h.size, h.fz, h.old, fun n hn => h.fresh n (ho n hn), h.grow⟩
def cutH (n : Nat) (hp : List Blk) : List Blk := (hp.take n).map (cutB hp n)
def sw (i j : Nat) (k : Nat) : Nat := if k = i then j else if k = j then i else k
mutual
def renV (f : Nat → Nat) : V → V
 | .ad id g off => .ad (f id) g off
 | .rf id g off len es => .rf (f id) g off len es
 | .mp id g => .mp (f id) g
 | .it id g => .it (f id) g
 | .ag cs => .ag (renL f cs)
 | .tp cs => .tp (renL f cs)
 | .fn g cs => .fn g (renL f cs)
 | .gv q v => .gv q (renV f v)
 | v => v
def renL (f : Nat → Nat) : List V → List V
 | [] => []
 | v :: vs => renV f v :: renL f vs
end
def renB (f : Nat → Nat) : Blk → Blk
 | .cells g vs => .cells g (renL f vs)
 | .map st ks vs => .map st ks (renL f vs)
 | .iter mid n l c => .iter (f mid) n l c
 | b => b
def swH (i j : Nat) (hp : List Blk) : List Blk := match hp[i]?, hp[j]? with
 | some a, some b => ((hp.set i b).set j a).map (renB (sw i j))
 | _, _ => []
inductive RC where
 | skip | reg (g : Bool) (l : List RO) | any (g : Bool) (m : Nat) (l : List AnyOp) | seq (a b : RC) | mid (a b : RC) | cond (c : Od) (a b : RC)
 | block (id : Nat) (a : RC) | loop (l : List Nat) (d : Option Nat) (a : RC) | exit (id : Nat) | ret
 | keep (l : List Nat) (a : RC) | drp (n : Nat) (a : RC) | own (t es : Nat) (a : RC) | ownc (t off es : Nat) (a : RC) | owni (t i off es : Nat) (a : RC)
 | nxt (d m it : Nat) | rfn (f : Od) (ps : List Nat) (lo : Nat) (b a : RC) | yrg (g : Bool) (l1 : List RO) (y : RO) (ks : List Nat) (l2 : List RO)
 | swp (i j : Nat) (a : RC) | crl (g : Bool) (l1 : List RO) (y : RO) (l2 : List RO) | hcl (g : Bool) (l1 : List RO) (y : RO) (l2 : List RO) | hca (g : Bool) (m1 : Nat) (l1 : List AnyOp) (y : AnyOp) (m2 : Nat) (l2 : List AnyOp) | no
instance : Inhabited RC := ⟨.skip⟩
def kp (l : List Nat) (d : Option Nat) (σ : St) : St := match d with
 | none => ⟨lkp (l.map fun t => (t, σ.fr t)), σ.hp⟩
 | some n => ⟨lkp (l.map fun t => (t, cutV σ.hp n (σ.fr t))), cutH n σ.hp⟩
def Qae (K : St → Prop) (Q : Exit → St → Prop) : Exit → St → Prop
 | .normal, σ => K σ
 | e, σ => Q e σ
def Qaj (id : Nat) (Q : Exit → St → Prop) : Exit → St → Prop
 | .exit id', σ => if id' = id then Q .normal σ else Q (.exit id') σ
 | e, σ => Q e σ
def rnQ (K : St → Prop) : Exit → St → Prop
 | .normal, σ => K σ
 | _, _ => False
def rndQ (Q : Exit → St → Prop) (lo : Nat) (fr0 : Nat → V) (I : List Blk → Prop) : Exit → St → Prop
 | .normal, σ => I (cutH lo σ.hp)
 | .exit id, σ => Q (.exit id) ⟨fr0, cutH lo σ.hp⟩
 | _, _ => False
def updL (fr : Nat → V) : List Nat → List V → Nat → V
 | p :: ps, v :: vs => updL (upd fr (some p) v) ps vs
 | _, _ => fr
def Qs0 : V → Bool
 | .yl _ => true
 | v => flat v
def yres (gd : Option (Nat × Bool)) (b : Bool) : V := match gd with | none => .b b | some _ => .gv true (.b b)
def Qs1 (l : List Nat) (fr : Nat → V) : List (Nat × V) := l.map fun t => (t, fr t)
def wpR (Γ : Gam) (E : TypeId → Nat → Prop) : RC → (Exit → St → Prop) → St → Prop
 | .skip, Q, σ => Q .normal σ
 | .no, _, _ => False
 | .reg g l, Q, σ => runR Γ E g 0 l σ (Q .normal)
 | .any g m l, Q, σ => runX Γ E g σ.hp.length l [] ⟨σ.fr, σ.hp ++ Qz m .hole⟩ (Q .normal)
 | .seq a b, Q, σ => wpR Γ E a (Qae (wpR Γ E b Q) Q) σ
 | .mid a b, Q, σ => ∃ M : St → Prop, wpR Γ E a (Qae M Q) σ ∧ ∀ σ', M σ' → wpR Γ E b Q σ'
 | .cond c a b, Q, σ => match evO σ.fr c with
  | .b t => (t = true → wpR Γ E a Q σ) ∧ (t = false → wpR Γ E b Q σ)
  | _ => False
 | .block id a, Q, σ => wpR Γ E a (Qaj id Q) σ
 | .loop l d a, Q, σ => ∃ I : Nat → St → Prop, (∃ k, I k (kp l d σ)) ∧ ∀ k σ', I k σ' → wpR Γ E a (Qae (fun σ'' => ∃ j, j < k ∧ I j (kp l d σ'')) Q) σ'
 | .exit id, Q, σ => Q (.exit id) σ
 | .ret, Q, σ => Q .ret σ
 | .keep l a, Q, σ => wpR Γ E a Q ⟨lkp (l.map fun t => (t, σ.fr t)), σ.hp⟩
 | .drp n a, Q, σ => wpR Γ E a Q ⟨fun t => cutV σ.hp n (σ.fr t), cutH n σ.hp⟩
 | .own t es a, Q, σ => match σ.fr t with
  | .z _ => wpR Γ E a Q ⟨upd σ.fr (some t) (.rf σ.hp.length 0 0 0 es), σ.hp ++ [.cells 0 []]⟩
  | _ => False
 | .ownc t off es a, Q, σ => match σ.fr t with
  | .ad id g o => match σ.hp[id]? with
   | some (.cells g' vs) => match vs[o + off]? with
    | some (.z _) => g' = g ∧ wpR Γ E a Q ⟨σ.fr, σ.hp.set id (.cells g (vs.set (o + off) (.rf σ.hp.length 0 0 0 es))) ++ [.cells 0 []]⟩
    | _ => False
   | _ => False
  | _ => False
 | .owni t i off es a, Q, σ => match σ.fr t, σ.fr i with
  | .rf id g o _ es', .i k => match σ.hp[id]? with
   | some (.cells g' vs) => match vs[o + k.toNat * es' + off]? with
    | some (.z _) => g' = g ∧ wpR Γ E a Q ⟨σ.fr, σ.hp.set id (.cells g (vs.set (o + k.toNat * es' + off) (.rf σ.hp.length 0 0 0 es))) ++ [.cells 0 []]⟩
    | _ => False
   | _ => False
  | _, _ => False
 | .nxt d m it, Q, σ => match σ.fr it with
  | .it id g => match σ.hp[id]? with
   | some (.iter mid n left _) => match σ.hp[mid]? with
    | some (.map _ ks _) => g = 0 ∧ ks.length = n ∧ (left = [] → Q .normal ⟨upd (upd σ.fr (some d) .u) (some m) (.b false), σ.hp⟩) ∧
      ∀ j ∈ left, Q .normal ⟨upd (upd σ.fr (some d) .u) (some m) (.b true), σ.hp.set id (.iter mid n (left.erase j) (some j))⟩
    | _ => False
   | _ => False
  | _ => False
 | .rfn f ps lo b a, Q, σ => match evO σ.fr f with
  | .fn gf caps => match Γ (2000000 + gf) (caps.map (vw σ.hp 8)) with
   | (ok, .sl 0 ys) => gf < 1000000 ∧ ok ∧ Qa6 caps = false ∧ (∀ x ∈ ys, x.length = ps.length) ∧ ∃ I : Nat → List Blk → Prop, I 0 (cutH lo σ.hp) ∧
     (∀ k x hp, ys[k]? = some x → I k hp → wpR Γ E b (rnQ (wpR Γ E a (rndQ Q lo (fun t => cutV σ.hp lo (σ.fr t)) (I (k + 1))))) ⟨updL (fun t => cutV σ.hp lo (σ.fr t)) ps x, hp⟩) ∧
     ∀ hp, I ys.length hp → Q .normal ⟨fun t => cutV σ.hp lo (σ.fr t), hp⟩
   | _ => False
  | _ => False
 | .swp i j a, Q, σ => i < σ.hp.length ∧ j < σ.hp.length ∧ wpR Γ E a Q ⟨fun t => renV (sw i j) (σ.fr t), swH i j σ.hp⟩
 | .crl g l1 y l2, Q, σ => runR Γ E g 0 l1 σ fun σ1 => match y.x with
  | .o f args => match opv g σ1.fr f with
   | .fn gf caps => Qb4 g y σ1.fr ∧ gf < 1000000 ∧ Qa6 (args.map (opv g σ1.fr) ++ caps) = false ∧ (Γ (3000000 + gf) ((args.map (opv g σ1.fr) ++ caps).map (vw σ1.hp 8))).1 ∧
     ∀ r bs, (Γ (4000000 + gf) (.tp (r :: bs) :: (args.map (opv g σ1.fr) ++ caps).map (vw σ1.hp 8))).1 →
      runR Γ E g 0 l2 ⟨upd σ1.fr y.dst (shV σ1.hp.length r), σ1.hp ++ (bs.map vB).map (shB σ1.hp.length)⟩ (Q .normal)
   | _ => False
  | _ => False
 | .hcl g l1 y l2, Q, σ => runR Γ E g 0 l1 σ fun σ1 => match y.x with
  | .o f args => match opv g σ1.fr f with
   | .fn gf caps => Qb4 g y σ1.fr ∧ (Γ.h gf (args.map (opv g σ1.fr) ++ caps) σ1.hp).1 ∧
     ∀ r hp', (Γ.h gf (args.map (opv g σ1.fr) ++ caps) σ1.hp).2 r hp' → runR Γ E g 0 l2 ⟨upd σ1.fr y.dst r, hp'⟩ (Q .normal)
   | _ => False
  | _ => False
 | .hca g m1 l1 y m2 l2, Q, σ => runX Γ E g σ.hp.length l1 [] ⟨σ.fr, σ.hp ++ Qz m1 .hole⟩ fun σ1 => match y.o.x with
  | .o f args => match opv g σ1.fr f with
   | .fn gf caps => Qb4 g y.o σ1.fr ∧ (Γ.h gf (args.map (opv g σ1.fr) ++ caps) σ1.hp).1 ∧
     ∀ r hp', (Γ.h gf (args.map (opv g σ1.fr) ++ caps) σ1.hp).2 r hp' → runX Γ E g hp'.length l2 (Qz (l1.length + 1) ⟨none, []⟩) ⟨upd σ1.fr y.o.dst r, hp' ++ Qz m2 .hole⟩ (Q .normal)
   | _ => False
  | _ => False
 | .yrg g l1 y ks l2, Q, σ => runR Γ E g 0 l1 σ fun σ1 => match Qbq σ1.fr y.gd with
  | none => False
  | some false => runR Γ E g 0 l2 ⟨upd σ1.fr y.dst (.gv false .u), σ1.hp⟩ (Q .normal)
  | some true => match y.x with
   | .o f args => match opv g σ1.fr f, σ1.hp with
    | .yl l, [.gh caps (some (x :: rest))] => Qb4 g y σ1.fr ∧ caps[0]? = some (.yl l) ∧ args.map (opv g σ1.fr) = x ∧ Qcy x = true ∧ (∀ t ∈ ks, Qs0 (σ1.fr t) = true ∨ caps[t]? = some (σ1.fr t)) ∧
      ∀ b, runR Γ E g 0 l2 ⟨upd (lkp (Qs1 ks σ1.fr)) y.dst (yres y.gd b), [.gh caps (if b then some rest else none)]⟩ (Q .normal)
    | _, _ => False
   | _ => False
def Qd9 (ops : Array Oper) : Bool := ops.all fun o => o.guard.isNone
def Zaj (N : Nat × Nat) (o1 o2 : Oper) (d m it : Nat) : Bool :=
 (match o1.dst, o1.op, o1.guard with
  | some d', .next (.tmp it') false, none => d' == d && it' == it && Qnx N (some d)
  | _, _, _ => false) &&
 (match o2.dst, o2.op, o2.guard with
  | some m', .extract (.tmp d') 0, none => m' == m && d' == d && Qnx N (some m)
  | _, _, _ => false)
def resY (P : Program) (N : Nat × Nat) (ops : Array Oper) (o : Oper) : Option RO :=
 if Qnx N o.dst && o.dst.isSome then
  match gdOf ops o.guard, Qmi P o with
  | some gd, some x => some ⟨o.dst, gd, o.op.operands.toList.filterMap Qqz, none, .o x.1 x.2⟩
  | _, _ => none
 else none
def resC (P : Program) (N : Nat × Nat) (o : Oper) : Option RO :=
 if Qnx N o.dst && o.guard.isNone then (Qmi P o).map fun x => ⟨o.dst, none, o.op.operands.toList.filterMap Qqz, none, .o x.1 x.2⟩ else none
def dOk (lo : Nat) : Option Nat → Bool | some n => decide (lo ≤ n) | none => true
def zipX (rs : List RO) (l : List AnyOp) : List AnyOp := rs.zipWith (fun r (x : AnyOp) => (⟨{ r with nid := x.o.nid }, x.js, x.an⟩ : AnyOp)) l
def Qzt (ops : Array Oper) (r1 : List RO) (l1 : List AnyOp) (y1 : RO) (y : AnyOp) (r2 : List RO) (l2 : List AnyOp) : Bool :=
 Qtd (zipX r1 l1 ++ ⟨y1, [], y.an⟩ :: zipX r2 l2) && ancB ops (zipX r1 l1 ++ ⟨y1, [], y.an⟩ :: zipX r2 l2) && decide (r1.length = l1.length) && decide (r2.length = l2.length) &&
  (Q6 l1.length).all (fun i => y.an.contains i) && (zipX r2 l2).all fun z => z.an.contains l1.length
def comp (P : Program) (pu : List Nat) (N : Nat × Nat) : Nat → Nat → RC → Code → Option RC
 | lo, top, .keep l a, c => (comp P pu N lo top a c).map (.keep l)
 | lo, top, .drp n a, c => if lo ≤ n then (comp P pu N lo top a c).map (.drp n) else none
 | lo, top, .own t es a, c => (comp P pu N lo top a c).map (.own t es)
 | lo, top, .ownc t off es a, c => (comp P pu N lo top a c).map (.ownc t off es)
 | lo, top, .owni t i off es a, c => (comp P pu N lo top a c).map (.owni t i off es)
 | _, _, .no, _ => some .no
 | _, _, .skip, .skip => some .skip
 | _, _, .reg g _, .region _ ops false => if g || Qd9 ops then (ops.toList.mapM fun o => resO P pu N ops o).map (.reg g) else none
 | _, _, .nxt d m it, .region _ ops false => match ops.toList with
  | [o1, o2] => if Zaj N o1 o2 d m it then some (.nxt d m it) else none
  | _ => none
 | lo, top, .swp i j a, c => if top == 1 && lo == 0 then (comp P pu N lo top a c).map (.swp i j) else none
 | _, _, .crl g l1 _ l2, .region _ ops false => if g || Qd9 ops then
   match ops[l1.length]? with
   | some o => match (ops.toList.take l1.length).mapM (fun o => resO P pu N ops o), resC P N o, (ops.toList.drop (l1.length + 1)).mapM (fun o => resO P pu N ops o) with
    | some r1, some y, some r2 => if r1.length == l1.length then some (.crl g r1 y r2) else none
    | _, _, _ => none
   | none => none
  else none
 | _, _, .hcl g l1 _ l2, .region _ ops false => if g || Qd9 ops then
   match ops[l1.length]? with
   | some o => match (ops.toList.take l1.length).mapM (fun o => resO P pu N ops o), resC P N o, (ops.toList.drop (l1.length + 1)).mapM (fun o => resO P pu N ops o) with
    | some r1, some y, some r2 => if r1.length == l1.length then some (.hcl g r1 y r2) else none
    | _, _, _ => none
   | none => none
  else none
 | _, _, .hca g m1 l1 y m2 l2, .region _ ops true => if g || Qd9 ops then
   match ops[l1.length]? with
   | some o => match (ops.toList.take l1.length).mapM (fun o => resO P pu N ops o), resC P N o, (ops.toList.drop (l1.length + 1)).mapM (fun o => resO P pu N ops o) with
    | some r1, some y1, some r2 =>
     if Qzt ops r1 l1 y1 y r2 l2 then some (.hca g m1 (zipX r1 l1) ⟨y1, [], y.an⟩ m2 (zipX r2 l2)) else none
    | _, _, _ => none
   | none => none
  else none
 | _, top, .yrg g l1 _ ks l2, .region _ ops false => if top == 2 && (g || Qd9 ops) then
   match ops[l1.length]? with
   | some o => match (ops.toList.take l1.length).mapM (fun o => resO P pu N ops o), resY P N ops o, (ops.toList.drop (l1.length + 1)).mapM (fun o => resO P pu N ops o) with
    | some r1, some y, some r2 => if r1.length == l1.length then some (.yrg g r1 y ks r2) else none
    | _, _, _ => none
   | none => none
  else none
 | _, _, .any g m l, .region _ ops true =>
  if (g || Qd9 ops) then
   match ops.toList.mapM fun o => resO P pu N ops o with
   | some rs =>
    let l' := rs.zipWith (fun r (x : AnyOp) => (⟨{ r with nid := x.o.nid }, x.js, x.an⟩ : AnyOp)) l
    if Qtd l' && ancB ops l' && decide (l'.length = rs.length) then some (.any g m l') else none
   | none => none
  else none
 | lo, top, .seq a b, .seq x y => match comp P pu N lo top a x, comp P pu N lo top b y with
  | some a', some b' => some (.seq a' b')
  | _, _ => none
 | lo, top, .mid a b, .seq x y => match comp P pu N lo top a x, comp P pu N lo top b y with
  | some a', some b' => some (.mid a' b')
  | _, _ => none
 | lo, top, .cond _ a b, .cond c x y => match rOd P 0 c, comp P pu N lo top a x, comp P pu N lo top b y with
  | some c', some a', some b' => some (.cond c' a' b')
  | _, _, _ => none
 | lo, top, .block _ a, .block id x => (comp P pu N lo top a x).map (.block id)
 | lo, top, .loop l d a, .loop x => if dOk lo d then (comp P pu N lo top a x).map (.loop l d) else none
 | lo, top, .rfn _ _ lo' b a, .rangeFunc f ps x y => if top == 1 && decide (lo ≤ lo') && ps.all (fun p => Qnx N (some p)) then
   match rOd P 0 f, comp P pu N lo' 0 b x, comp P pu N lo' 0 a y with
   | some f', some b', some a' => some (.rfn f' ps.toList lo' b' a')
   | _, _, _ => none
  else none
 | _, _, .exit _, .exit id => some (.exit id)
 | _, _, .ret, .ret => some .ret
 | _, _, _, _ => none
end Go.Fam
namespace Go.Fam
section
variable {P : Program} {F : Fence} {n : Nat} {Γ : Gam} {ops : Array Oper} {g : Bool} {base : Nat} {M : FrI} {pu : List Nat}
theorem Qxu (hG : GOk P Γ) (hF : Qcz F) (hg : g = false → ∀ o ∈ ops, o.guard = none) {Q : Exit → Act → World → Prop} {τ : St} {U : Nat → Prop} {extra : Nat} :
  ∀ (fuel : Nat) (rest : List (Nat × RO × FP)) (listed : Array Bool) (σ : St) (S : Nat → Prop) (w : World) (O : OInfo) (a : Act),
   rest.length + extra ≤ fuel →
   (∀ i, listed.getD i true = false ↔ (∃ x ∈ rest, x.1 = i) ∨ U i) →
   rest.Pairwise (fun x y => x.1 < y.1 ∧ (Anc ops x.1 y.1 ∨ Qp3 x y)) →
   (∀ x ∈ rest, ∃ o, ops[x.1]? = some o ∧ resO P pu M.nm ops o = some { x.2.1 with nid := none } ∧ ∀ e ∈ o.after, Region.binds .any e = true → e.on < x.1) →
   (∀ x ∈ rest, ∀ u, U u → Anc ops x.1 u ∧ x.1 < u) →
   (∀ i j, Anc ops i j → listed.getD j false = true → listed.getD i false = true) →
   (∀ i, i < ops.size → i < listed.size) →
   RunD Γ (Qbh P) g base rest σ τ → SR M S w O σ a →
   (∀ fuel' listed' S' w' O' a', extra ≤ fuel' → (∀ i, listed'.getD i true = false ↔ U i) → (∀ i j, Anc ops i j → listed'.getD j false = true → listed'.getD i false = true) → (∀ i, i < ops.size → i < listed'.size) →
    Evol S S' w w' O O' → SR M S' w' O' τ a' → a'.defers = a.defers → wpAnyIn F n P .any ops Q fuel' listed' a' w') →
   wpAnyIn F n P .any ops Q fuel listed a w := by
 intro fuel
 induction fuel with
 | zero =>
  intro rest listed σ S w O a hf hl _ _ _ hc hsz hrun hsr hK
  have hnil : rest = [] := Qt (by omega)
  subst hnil
  simp only [RunD] at hrun
  subst hrun
  exact hK 0 listed S w O a (by omega) (fun i => by rw [hl]; simp) hc hsz (Evol.refl _ _ _) hsr rfl
 | succ fuel ih =>
  intro rest listed σ S w O a hf hl hp hr hU hc hsz hrun hsr hK
  by_cases hnil : rest = []
  ·subst hnil
   simp only [RunD] at hrun
   subst hrun
   exact hK _ listed S w O a (by simpa using hf) (fun i => by rw [hl]; simp) hc hsz (Evol.refl _ _ _) hsr rfl
  refine ⟨fun hnone => ?_, fun i hi => ?_⟩
  ·cases rest with
   | nil => exact absurd rfl hnil
   | cons x rest =>
    exfalso
    obtain ⟨o, ho, _, hlt⟩ := hr x (by simp)
    have : x.1 ∈ Region.ready .any ops listed := by
     rw [mem_ready]
     refine ⟨(hl x.1).2 (.inl ⟨x, by simp, rfl⟩), o, ho, fun e he hb => ?_⟩
     have h1 := hlt e he hb
     have h2 : ¬ listed.getD e.on true = false := by
      rw [hl]
      rintro (⟨y, hy, hye⟩ | hu)
      ·rcases Ql.1 hy with rfl | hy
       ·omega
       ·have := (Zc hp hy).1; omega
      ·have := (hU x (by simp) _ hu).2; omega
     have h3 : x.1 < ops.size := (Array.getElem?_eq_some_iff.1 ho).1
     have h4 := hsz e.on (by omega)
     simp [h4] at h2 ⊢
     exact h2
    rw [hnone] at this
    simp at this
  ·rw [mem_ready] at hi
   obtain ⟨h0, o, ho, hall⟩ := hi
   have hancl : ∀ y j, y = i → Anc ops j y → listed.getD j false = true := by
    rintro y j rfl h
    cases h with
    | base ho' he hb h =>
     rw [ho] at ho'; cases ho'
     rw [← h]
     exact hall _ he hb
    | step ho' he hb h =>
     rw [ho] at ho'; cases ho'
     exact hc _ _ h (hall _ he hb)
   have hcontra : ∀ j, listed.getD j true = false → listed.getD j false = true → False := by
    intro j h1 h2
    cases hle : listed[j]? with
    | none => simp [hle] at h1
    | some b => simp [hle] at h1 h2; simp_all
   obtain ⟨x, hx, hxi⟩ : ∃ x ∈ rest, x.1 = i := ((hl i).1 h0).resolve_right fun hu => by
    obtain ⟨y, ys, rfl⟩ := List.exists_cons_of_ne_nil hnil
    exact hcontra y.1 ((hl y.1).2 (.inl ⟨y, by simp, rfl⟩)) (hancl i y.1 rfl (hU y (by simp) i hu).1)
   subst hxi
   obtain ⟨A, B, rfl⟩ := Zq hx
   obtain ⟨o', ho', hro, hlt⟩ := hr x (by simp)
   rw [ho] at ho'
   cases ho'
   have hpa := Zo.1 hp
   have hpb := Zr.1 hpa.2.1
   have hind : ∀ y ∈ A, Qp3 y x := by
    intro y hy
    rcases (hpa.2.2 y hy x (by simp)).2 with h | h
    ·exact (hcontra y.1 ((hl y.1).2 (.inl ⟨y, by simp [hy], rfl⟩)) (hancl x.1 y.1 rfl h)).elim
    ·exact h
   have hmv := RunD.move A σ hrun hind
   obtain ⟨hok, hrest⟩ := hmv.cons_split
   obtain ⟨hs1, hs2⟩ := Qo0 hok
   refine Qoo hG hF ho hro (fun hgf => hg hgf o (Array.mem_of_getElem? ho)) hsr hs1 ?_
   intro S' w' O' a' hev hsr' hdef
   rw [hs2] at hsr'
   have hnotU : ∀ u, U u → u ≠ x.1 := fun u hu => by have := (hU x hx u hu).2; omega
   refine ih (A ++ B) (listed.setIfInBounds x.1 true) _ S' w' O' a' ?_ ?_ ?_ ?_ ?_ ?_ ?_ hrest hsr' ?_
   ·simp at hf ⊢; omega
   ·intro i
    by_cases hix : i = x.1
    ·subst hix
     have hlt' : x.1 < listed.size := hsz _ (Array.getElem?_eq_some_iff.1 ho).1
     have hnot : ¬ ((∃ y ∈ A ++ B, y.1 = x.1) ∨ U x.1) := by
      rintro (⟨y, hy, hye⟩ | hu)
      ·rcases Qm.1 hy with hm | hm
       ·have := (hpa.2.2 _ hm x (by simp)).1; omega
       ·have := (hpb.1 _ hm).1; omega
      ·exact hnotU _ hu rfl
     rw [iff_false_right hnot]
     simp [hlt']
    ·rw [getD_set_ne true (Ne.symm hix), hl]
     refine or_congr ?_ Iff.rfl
     constructor
     ·rintro ⟨y, hy, rfl⟩
      refine ⟨y, ?_, rfl⟩
      simp only [Qm, Ql] at hy ⊢
      rcases hy with h | h | h
      ·exact .inl h
      ·subst h; exact absurd rfl hix
      ·exact .inr h
     ·rintro ⟨y, hy, rfl⟩
      exact ⟨y, by simp only [Qm, Ql] at hy ⊢; rcases hy with h | h <;> simp [h], rfl⟩
   ·refine List.Pairwise.sublist ?_ hp
    exact Zg.append (Zg.refl _) (Zh _ _)
   ·intro y hy
    refine hr y ?_
    simp only [Qm, Ql] at hy ⊢
    rcases hy with h | h <;> simp [h]
   ·intro y hy
    refine hU y ?_
    simp only [Qm, Ql] at hy ⊢
    rcases hy with h | h <;> simp [h]
   ·intro i j hij hj
    by_cases hjx : j = x.1
    ·exact getD_set_true (hancl j i hjx hij)
    ·rw [getD_set_ne false (Ne.symm hjx)] at hj
     exact getD_set_true (hc i j hij hj)
   ·intro i hi
    simpa using hsz i hi
   ·intro fuel' listed' S'' w'' O'' a'' h1 h2 h3 h4 hev' hsr'' hdef'
    exact hK fuel' listed' S'' w'' O'' a'' h1 h2 h3 h4 (hev.trans hev') hsr'' (hdef'.trans hdef)
theorem Qql {lall l : List AnyOp} {k : Nat} (hsub : ∀ q y, l[q]? = some y → lall[k + q]? = some y) (hp : Qtd lall = true) (ha : ancB ops lall = true)
  (hopl : ∀ q y, l[q]? = some y → ∃ o, ops[k + q]? = some o ∧ resO P pu M.nm ops o = some { y.o with nid := none }) {done : List FP} (hk : k = done.length) {σ : St} {K : St → Prop} (hrun : runX Γ (Qbh P) g base l done σ K) :
  ∃ rest τ, rest.length = l.length ∧ (∀ i, (∃ x ∈ rest, x.1 = i) ↔ k ≤ i ∧ i < k + l.length) ∧ rest.Pairwise (fun x y => x.1 < y.1 ∧ (Anc ops x.1 y.1 ∨ Qp3 x y)) ∧
   (∀ x ∈ rest, ∃ o, ops[x.1]? = some o ∧ resO P pu M.nm ops o = some { x.2.1 with nid := none } ∧ ∀ e ∈ o.after, Region.binds .any e = true → e.on < x.1) ∧
   RunD Γ (Qbh P) g base rest σ τ ∧ K τ := by
 obtain ⟨fs, τ, hfs, hr, hKτ, hd⟩ := Qqu k done σ K hrun hk
 have hget : ∀ x ∈ (Qe k l.length).zip ((l.map (·.o)).zip fs), ∃ q y, x.1 = k + q ∧ l[q]? = some y ∧ y.o = x.2.1 ∧ fs[q]? = some x.2.2 := by
  rintro ⟨i, o, f⟩ hx
  obtain ⟨q, hq⟩ := Qp hx
  rw [Qc] at hq
  obtain ⟨q1, q2⟩ := hq
  rw [Qc] at q2
  obtain ⟨q2, q3⟩ := q2
  have hqi : i = k + q := by
   rw [Qw] at q1
   ·simpa using q1.symm
   ·have := Qav q1; simpa using this
  subst hqi
  rw [Qh, Qa] at q2
  obtain ⟨y, hy, rfl⟩ := q2
  exact ⟨q, y, rfl, hy, rfl, q3⟩
 have hz : ∀ q x f, l[q]? = some x → fs[q]? = some f → (k + q, x.o, f) ∈ (Qe k l.length).zip ((l.map (·.o)).zip fs) := by
  intro q x f hx hf
  refine Qx (i := q) ?_
  rw [Qc]
  have := Qav hx
  refine ⟨by rw [Qw this]; simp, ?_⟩
  rw [Qc]
  exact ⟨by simp [hx], hf⟩
 have hpairs : ∀ i j x y, l[i]? = some x → l[j]? = some y → i < j → Anc ops (k + i) (k + j) ∨ ∀ fx fy, fs[i]? = some fx → fs[j]? = some fy → Qp3 (k + i, x.o, fx) (k + j, y.o, fy) := by
  intro i j x y hx hy hij
  have hy' := hsub j y hy
  have hx' := hsub i x hx
  have hjl := Qav hy'
  have h1 := Qk.1 hp (k + j) (by simpa using hjl)
  simp only [hy'] at h1
  have h2 := Qk.1 h1 (k + i) (by simp; omega)
  simp only [hx', Zj, Qb] at h2
  rcases h2 with h2 | ⟨h2, h3⟩
  ·obtain ⟨o, ho, _⟩ := hopl j y hy
   exact .inl ((Qe7 ha (k + j) y hy' (Array.getElem?_eq_some_iff.1 ho).1).1 (k + i) (by simpa using h2))
  ·right
   intro fx fy hfx hfy
   refine ⟨h2, ?_⟩
   rcases h3 with h3 | h3
   ·have := hd j y fy hy hfy (k + i) (by simpa using h3)
    rcases this with h4 | h4
    ·rw [List.getD_eq_getElem?_getD, Qo (by omega)] at h4
     rw [show k + i - done.length = i by omega, hfx] at h4
     exact h4
    ·omega
   ·have e1 := RunD.quiet _ _ _ hr _ (hz i x fx hx hfx) h3.1
    have e2 := RunD.quiet _ _ _ hr _ (hz j y fy hy hfy) h3.2
    simp only at e1 e2
    simp [Qbp, hits, e1, e2]
 refine ⟨_, τ, ?_, ?_, ?_, ?_, hr, hKτ⟩
 ·simp [hfs]
 ·intro i
  constructor
  ·rintro ⟨x, hx, rfl⟩
   obtain ⟨q, y, e, hy, _⟩ := hget x hx
   have := Qav hy
   omega
  ·rintro ⟨h1, h2⟩
   have h3 : i - k < l.length := by omega
   refine ⟨_, hz (i - k) l[i - k] fs[i - k] (by simp [h3]) (by simp [hfs, h3]), ?_⟩
   show k + (i - k) = i
   omega
 ·rw [Zd]
  intro i j hi hj hij
  obtain ⟨qi, x, ex, hx, hxo, hxf⟩ := hget _ (Q7 hi)
  obtain ⟨qj, y, ey, hy, hyo, hyf⟩ := hget _ (Q7 hj)
  have ei : (((Qe k l.length).zip ((l.map (·.o)).zip fs))[i]).1 = k + i := by simp
  have ej : (((Qe k l.length).zip ((l.map (·.o)).zip fs))[j]).1 = k + j := by simp
  have e1 : qi = i := by omega
  have e2 : qj = j := by omega
  subst e1 e2
  rw [ei, ej]
  refine ⟨by omega, (hpairs qi qj x y hx hy hij).imp (fun h => h) fun h => ?_⟩
  have := h _ _ hxf hyf
  rw [hxo, hyo, ← ex, ← ey] at this
  exact this
 ·intro x hx
  obtain ⟨q, y, ex, hy, hyo, _⟩ := hget x hx
  obtain ⟨o, ho, hr'⟩ := hopl _ _ hy
  rw [← ex] at ho
  refine ⟨o, ho, by rw [← hyo]; exact hr', fun e he hb => ?_⟩
  have := (Qe7 ha _ y (hsub q y hy) (by rw [← ex]; exact (Array.getElem?_eq_some_iff.1 ho).1)).2 o (by rw [← ex]; exact ho) e he hb
  omega
end
end Go.Fam
namespace Go.Fam
theorem Qou {P : Program} {pu : List Nat} {N : Nat × Nat} {ops : Array Oper} {o : Oper} {r : RO} (h : resO P pu N ops o = some r) : r.nid = none := by
 unfold resO at h
 split at h
 ·split at h
  ·cases h
  ·split at h
   ·split at h
    ·rw [Qa] at h
     obtain ⟨_, _, rfl⟩ := h
     rfl
    ·cases h
   ·split at h
    ·cases h; rfl
    ·split at h
     ·rw [Qa] at h
      obtain ⟨_, _, rfl⟩ := h
      rfl
     ·cases h
 ·cases h
theorem Qeb {α β : Type} {f : α → Option β} : ∀ {l : List α} {r : List β}, l.mapM f = some r → l.map f = r.map some
 | [], r, h => by simp at h; subst h; rfl
 | x :: l, r, h => by
  rw [List.mapM_cons] at h
  simp only [Qr, Qn, Q3, Qf.injEq] at h
  obtain ⟨y, hy, ys, hys, rfl⟩ := h
  simp [hy, Qeb hys]
theorem Qt3 {p : Nat → Prop} (h : ∃ k, p k) : ∃ k, p k ∧ ∀ j, p j → k ≤ j := by
 obtain ⟨k, hk⟩ := h
 induction k using Zw with
 | _ k ih =>
  by_cases hj : ∃ j, j < k ∧ p j
  ·obtain ⟨j, hj, hp⟩ := hj
   exact ih j hj hp
  ·exact ⟨k, hk, fun j hpj => Nat.le_of_not_lt fun hlt => hj ⟨j, hlt, hpj⟩⟩
open Classical in
noncomputable def Qt2 (p : Nat → Prop) : Nat := if h : ∃ k, p k then (Qt3 h).choose else 0
theorem Qlj {p : Nat → Prop} (h : ∃ k, p k) : p (Qt2 p) ∧ ∀ j, p j → Qt2 p ≤ j := by
 unfold Qt2
 rw [dif_pos h]
 exact (Qt3 h).choose_spec
theorem Qum {F : Fence} {n : Nat} {P : Program} {c : Code} {Q : Exit → Act → World → Prop} {a : Act} {w : World} (I : Nat → Act → World → Prop) (h0 : ∃ k, I k a w)
  (round : ∀ k a w, I k a w → c.wpIn F n P (Exit.then (fun a' w' => ∃ j, j < k ∧ I j a' w') Q) a w) : (Code.loop c).wpIn F n P Q a w := by
 refine wpIn_loop (fun a w => ∃ k, I k a w) (fun a w => Qt2 fun k => I k a w) h0 fun a w h => ?_
 refine wpIn_mono (round _ a w (Qlj h).1) fun e a' w' he => ?_
 cases e <;> first | exact he | skip
 obtain ⟨j, hj, hI⟩ := he
 exact ⟨⟨j, hI⟩, Nat.lt_of_le_of_lt ((Qlj ⟨j, hI⟩).2 j hI) hj⟩
abbrev Ctx := (Nat → Prop) → World → OInfo → List Deferred → Option (List V × Option (List (List V))) → Prop
abbrev col (D : Nat) : Deferred := { target := .collected D, args := #[] }
abbrev Gh := Option (List V × Option (List (List V)))
structure CtxOk (P : Program) (F : Fence) (n : Nat) (M : FrI) (C : Ctx) (lo : Nat) (top : Nat) (base : Nat) : Prop where
 evol : ∀ {S S' : Nat → Prop} {w w' : World} {O O' : OInfo} {ds : List Deferred} {h h' : Gh}, C S w O ds h → (∀ k, S k → k < w.heap.size) → Evol S S' w w' O O' → (∀ y, h = some y → h' = some y) → C S' w' O' ds h'
 cut : ∀ {S : Nat → Prop} {w : World} {O : OInfo} {ds : List Deferred} {h h' : Gh} {k : Nat}, C S w O ds h → lo ≤ k → (1 ≤ lo → ∀ y, h = some y → h' = some y) → C (cutS S O k) w (Qex O k) ds h'
 rnd : top = 1 → F.round = none
 big : top = 1 → ∀ {S : Nat → Prop} {w : World} {O : OInfo} {ds : List Deferred} {h : Gh}, C S w O ds h → base ≤ w.heap.size
 turn : top = 1 → ∀ {S : Nat → Prop} {w : World} {O : OInfo} {ds : List Deferred} {h : Gh} {L : Nat} {r r' : Loop}, C S w O ds h → w.heap[L]? = some (.loop r) → ¬ S L → ¬ Own O L → base ≤ L → C S (w.putObj L (.loop r')) O ds h
 enter : top = 1 → ∀ {S : Nat → Prop} {w : World} {O : OInfo} {ds : List Deferred} {h : Gh} {r : Loop}, C S w O ds h → (∀ k, S k → k < w.heap.size) → (∀ k, Own O k → k < w.heap.size) →
  C S ((w.alloc (.deferred (some []))).alloc (.loop r)) O (col w.heap.size :: ds) h
 ren : top = 1 → lo = 0 → ∀ {S : Nat → Prop} {w : World} {O O' : OInfo} {ds : List Deferred} {h h' : Gh}, C S w O ds h → (∀ k, Own O' k → Own O k) → C S w O' ds h'
 yld : top = 2 → ∀ {S : Nat → Prop} {w : World} {O : OInfo} {ds : List Deferred} {caps x : List V} {rest : List (List V)} {cx : Array Value} {l : Nat}, C S w O ds (some (caps, some (x :: rest))) → (∀ k, S k → k < w.heap.size) → (∀ id, O id = none) → caps[0]? = some (.yl l) →
  RepL (fun _ => False) w noO x cx.toList → cx.size = x.length → YieldAt F (n - 1) P l cx w fun e W' => ∃ b S', e = .returned (.bool b) ∧ C S' W' noO ds (some (caps, if b then some rest else none)) ∧
   (∀ k, S' k → k < W'.heap.size) ∧ ∀ t v, caps[t]? = some v → t < M.md ∧ Rep S' W' noO v (M.T t)
structure At (C : Ctx) (M : FrI) (S : Nat → Prop) (w : World) (O : OInfo) (σ : St) (a : Act) : Prop where
 ctx : C S w O a.defers (ghO σ.hp)
 sr : SR M S w O σ a
section
variable {P : Program} {F : Fence} {n : Nat} {Γ : Gam} {pu : List Nat} {M : FrI} {C : Ctx} {lo base : Nat} {top : Nat}
theorem Qvz {hp : List Blk} {y : List V × Option (List (List V))} (h : ghO hp = some y) {k : Nat} (hk : 1 ≤ k) : ghO (cutH k hp) = some y := by
 refine Qq0 ?_
 have := Qn7 h
 unfold cutH
 rw [Qh, Za, if_pos (by omega), this]
 rfl
theorem Qwg (l : List Nat) (fr : Nat → V) (t : Nat) : lkp (l.map fun t => (t, fr t)) t = fr t ∨ lkp (l.map fun t => (t, fr t)) t = .u := by
 induction l with
 | nil => exact .inr rfl
 | cons k l ih =>
  simp only [Zp, lkp]
  split
  ·rename_i e; subst e; exact .inl rfl
  ·exact ih
theorem Zal (l : List Nat) (fr : Nat → V) (t : Nat) (h : t ∉ l) : lkp (l.map fun t => (t, fr t)) t = .u := by
 induction l with
 | nil => rfl
 | cons k l ih =>
  simp only [Ql, not_or] at h
  simp only [Zp, lkp]
  rw [if_neg h.1]
  exact ih h.2
theorem Qyo {S : Nat → Prop} {w : World} {O : OInfo} {fr : Nat → V} {a : Act} (h : FrM S w O fr a) (l : List Nat) : FrM S w O (lkp (l.map fun t => (t, fr t))) a := by
 intro t
 rcases Qwg l fr t with e | e
 ·rw [e]; exact h t
 ·rw [e]; simp [Rep]
theorem At.keep {S : Nat → Prop} {w : World} {O : OInfo} {σ : St} {a : Act} (h : At C M S w O σ a) (l : List Nat) : At C M S w O ⟨lkp (l.map fun t => (t, σ.fr t)), σ.hp⟩ a :=
 ⟨h.ctx, ⟨h.sr.size, h.sr.kept, Qyo h.sr.fr l, h.sr.mat⟩⟩
theorem At.drp (hC : CtxOk P F n M C lo top base) {S : Nat → Prop} {w : World} {O : OInfo} {σ : St} {a : Act} (h : At C M S w O σ a) {k : Nat} (hk : lo ≤ k) :
  At C M (cutS S O k) w (Qex O k) ⟨fun t => cutV σ.hp k (σ.fr t), cutH k σ.hp⟩ a :=
 ⟨hC.cut h.ctx hk fun hl y hy => Qvz hy (by omega), ⟨h.sr.size, h.sr.kept, fun t => Qnq h.sr.mat k _ _ (h.sr.fr t), Qv4 h.sr.mat k⟩⟩
theorem At.kp (hC : CtxOk P F n M C lo top base) {S : Nat → Prop} {w : World} {O : OInfo} {σ : St} {a : Act} (h : At C M S w O σ a) (l : List Nat) (d : Option Nat) (hd : ∀ k, d = some k → lo ≤ k) :
  ∃ S' O', At C M S' w O' (Fam.kp l d σ) a := by
 cases d with
 | none => exact ⟨S, O, h.keep l⟩
 | some k => exact ⟨_, _, (h.drp hC (hd k rfl)).keep l⟩
theorem Later.evol {S : Nat → Prop} {w w' : World} {O : OInfo} (h : Later w w') (hS : ∀ k, S k → k < w.heap.size) (hO : ∀ k, Own O k → k < w.heap.size) : Evol S S w w' O O :=
 ⟨⟨fun k hk => ⟨hk, h.old k (hS k hk)⟩, fun id g ob ho => ⟨g, ob, ho, Qj _, fun _ => ⟨rfl, fun b cur e hb hh => ⟨cur, (h.old b (hO b ⟨id, g, by rw [ho, hb]⟩)).trans hh, rfl⟩⟩⟩⟩,
  h.os, h.tape, h.output, h.size, h.fz, fun k hk _ => h.old k hk, fun _ h => .inl h, fun _ h => .inl h⟩
theorem Qhm (hG : GOk P Γ) (hF : Qcz F) {ops : Array Oper} {g : Bool} {b0 : Nat} (hg : g = false → ∀ o ∈ ops, o.guard = none) {Q : Exit → Act → World → Prop} {K : St → Prop} (rest : List Nat) :
  ∀ (l : List RO) (k : Nat) (σ : St) (S : Nat → Prop) (w : World) (O : OInfo) (a : Act), (∀ q r, l[q]? = some r → ∃ o, ops[k + q]? = some o ∧ resO P pu M.nm ops o = some { r with nid := none }) →
   runR Γ (Qbh P) g b0 l σ K → SR M S w O σ a →
   (∀ τ S' w' O' a', K τ → (∀ y, ghO σ.hp = some y → ghO τ.hp = some y) → Evol S S' w w' O O' → SR M S' w' O' τ a' → a'.defers = a.defers → wpOpsIn F n P ops Q rest a' w') →
   wpOpsIn F n P ops Q (Qe k l.length ++ rest) a w := by
 intro l
 induction l with
 | nil => intro k σ S w O a _ hrun hsr hK; exact hK σ S w O a hrun (fun _ h => h) (Evol.refl _ _ _) hsr rfl
 | cons r l ih =>
  intro k σ S w O a hops hrun hsr hK
  obtain ⟨hok, hrun⟩ := hrun
  rw [Ze, Qs, List.cons_append, wpOpsIn_cons]
  obtain ⟨o, ho, hro⟩ := hops 0 r rfl
  refine Qoo hG hF ho hro (fun hgf => hg hgf o (Array.mem_of_getElem? ho)) hsr hok ?_
  intro S' w' O' a' hev hsr' hdef
  refine ih (k + 1) _ S' w' O' a' ?_ hrun hsr' fun τ S'' w'' O'' a'' hKτ hgh hev' hsr'' hdef' => hK τ S'' w'' O'' a'' hKτ (fun y hy => hgh y (Qs3 hok hy)) (hev.trans hev') hsr'' (hdef'.trans hdef)
  intro q r' hr'
  have := hops (q + 1) r' (by simpa using hr')
  rwa [Nat.add_comm q 1, ← Nat.add_assoc] at this
theorem Qy1 {S : Nat → Prop} {w : World} {O : OInfo} {fr : Nat → V} {a : Act} (h : FrM S w O fr a) {k' : Operand} {k1 : Od} {t : Bool} (h0 : rOd P 0 k' = some k1) (hk : evO fr k1 = .b t) : a.eval k' = .bool t := by
 have hrep : Rep S w O (evO fr k1) (a.eval k') := by
  cases k' with
  | tmp t' => simp only [rOd, Qf.injEq] at h0; subst h0; exact h t'
  | const v =>
   simp only [rOd, Qa] at h0
   obtain ⟨v', hv, rfl⟩ := h0
   exact Qxx hv S w O
  | func f => simp only [rOd, Qf.injEq] at h0; subst h0; simp [evO] at hk
  | global g => simp [rOd] at h0
 rw [hk] at hrep
 simpa [Rep] using hrep
theorem Zad {S : Nat → Prop} {w : World} {O : OInfo} {fr : Nat → V} {a : Act} (h : FrM S w O fr a) {k' : Operand} {k1 : Od} (h0 : rOd P 0 k' = some k1) : Rep S w O (evO fr k1) (a.eval k') := by
 cases k' with
 | tmp t' => simp only [rOd, Qf.injEq] at h0; subst h0; exact h t'
 | const v =>
  simp only [rOd, Qa] at h0
  obtain ⟨v', hv, rfl⟩ := h0
  exact Qxx hv S w O
 | func f =>
  simp only [rOd, Qf.injEq] at h0
  subst h0
  simp only [evO, Act.eval, Rep]
  exact ⟨#[], rfl, rfl, by simp [RepL]⟩
 | global g => simp [rOd] at h0
theorem Qdy {d : Nat} (h : Qnx M.nm (some d) = true) : d < M.n ∧ M.md ≤ d := by
 simp only [Qnx, Qb] at h
 exact ⟨of_decide_eq_true h.1, of_decide_eq_true h.2⟩
theorem Qws (hF : Qcz F) {N : Nat × Nat} {id' : Nat} {o1 o2 : Oper} {d m it : Nat} {ops : Array Oper} (hops : ops.toList = [o1, o2]) (hx : Zaj M.nm o1 o2 d m it = true)
  {Q : Exit → St → Prop} {Q' : Exit → Act → World → Prop} {σ : St} {S : Nat → Prop} {w : World} {O : OInfo} {a : Act} (hw : wpR Γ (Qbh P) (.nxt d m it) Q σ) (hsr : SR M S w O σ a)
  (hQ : ∀ σ' w' a', Q .normal σ' → Evol S S w w' O O → (∀ y, ghO σ.hp = some y → ghO σ'.hp = some y) → SR M S w' O σ' a' → a'.defers = a.defers → Q' .normal a' w') : (Code.region id' ops false).wpIn F n P Q' a w := by
 have hops' : ops = #[o1, o2] := by rw [← hops]
 subst hops'
 unfold Zaj at hx
 simp only [Qb] at hx
 obtain ⟨hx1, hx2⟩ := hx
 split at hx1
 ·rename_i d' it' hd1 hop1 hg1
  split at hx2
  ·rename_i m' d'' hd2 hop2 hg2
   simp only [Qb, beq_iff_eq] at hx1 hx2
   obtain ⟨⟨rfl, rfl⟩, hdl⟩ := hx1
   obtain ⟨⟨rfl, rfl⟩, hml⟩ := hx2
   have hdl : d'' < M.n ∧ M.md ≤ d'' := Qdy hdl
   have hml : m' < M.n ∧ M.md ≤ m' := Qdy hml
   simp only [wpR] at hw
   have r1 := hsr.fr it'
   cases hit : σ.fr it' <;> simp only [hit] at hw <;> try exact hw.elim
   case it id g =>
    rw [hit] at r1
    cases hid : σ.hp[id]? with
    | none => simp [hid] at hw
    | some bk =>
     cases bk <;> simp only [hid] at hw <;> try exact hw.elim
     case iter mid nn left cur =>
      cases hmid : σ.hp[mid]? with
      | none => simp [hmid] at hw
      | some bk2 =>
       cases bk2 <;> simp only [hmid] at hw <;> try exact hw.elim
       case map st ks vs =>
        obtain ⟨rfl, hn, hw0, hw1⟩ := hw
        simp only [Rep] at r1
        obtain ⟨_, g', ob, hO, _, h1⟩ := r1
        have hbk := hsr.mat.blk id g' ob hO
        rw [hid] at hbk
        simp only [Qbu] at hbk
        obtain ⟨rfl, b, mm, seen, rfl, hbi, hmp, hnd, hleft, hcur⟩ := hbk
        obtain ⟨b', hb', hc⟩ := h1 rfl
        cases hb'
        have hmp' : Rep S w O (.mp mid 0) (.map (some mm)) := by simp only [Rep]; exact hmp
        obtain ⟨b2, es, hO2, hc2, hb2, hes, hvs, hvl, hnd2, hst1⟩ := Qf7 hsr.mat hmp' hmid rfl
        cases hc2
        have hes' := Qdd hes
        have hborn : ∀ x ∈ es.toList, x.born < nn := by
         intro x hx
         obtain ⟨i, hi⟩ := Qp hx
         rw [Array.getElem?_toList] at hi
         have h1 := hes.2 i x hi
         have h2 := (Array.getElem?_eq_some_iff.1 hi).1
         omega
        have hmem : ∀ j e, es[j]? = some e → j ∉ seen.toList → e ∈ (leftOf es seen).toList := by
         intro j e he hj
         have := hes.2 j e he
         simp only [leftOf, Array.toList_filter, Zk]
         refine ⟨by have := Array.mem_of_getElem? he; simpa using this, ?_⟩
         rw [this]; simpa using hj
        have hfr2 : ∀ (c : Value) (bb : Bool) (w' : World), Evol S S w w' O O → Rep S w' O (.b bb) (.bool bb) := fun _ _ _ _ => by simp [Rep]
        have fin : ∀ (tv : Array Value) (bb : Bool) (w' : World) (hp' : List Blk), (execOp a.eval o1).run P w = .ok (.value (.tuple tv)) w' → tv[0]? = some (.bool bb) → Evol S S w w' O O → Mat S w' O hp' →
          (∀ y, ghO σ.hp = some y → ghO hp' = some y) → Q .normal ⟨upd (upd σ.fr (some d'') .u) (some m') (.b bb), hp'⟩ → (Code.region id' #[o1, o2] false).wpIn F n P Q' a w := by
         intro tv bb w' hp' hrun htv hev hmat hgh hQn
         refine wpIn_region ?_
         show wpOpsIn F n P #[o1, o2] Q' [0, 1] a w
         rw [wpOpsIn_cons]
         simp only [wpOpIn, Zm, Zf]
         have hw1 : Region.wanted o1 (yielded #[o1, o2] a.tmps) = true := by simp [Region.wanted, hg1]
         rw [if_pos hw1]
         refine Qbv hF (by simp [hop1]) hrun ?_
         rw [wpOpsIn_cons]
         simp only [wpOpIn, Zm, List.getElem?_cons_succ, Zf]
         have hw2 : Region.wanted o2 (yielded #[o1, o2] (a.put o1.dst (.tuple tv)).tmps) = true := by simp [Region.wanted, hg2]
         rw [if_pos hw2]
         have hlt : d'' < a.tmps.size := by rw [hsr.size]; exact hdl.1
         have hdv : (a.put o1.dst (.tuple tv)).tmps.getD d'' undef = .tuple tv := by simp [hd1, Act.put, hlt]
         refine Qbv (w' := w') (c := .bool bb) hF (by simp [hop2]) ?_ ?_
         ·have : (a.put o1.dst (.tuple tv)).eval (.tmp d'') = .tuple tv := hdv
          simp [execOp, hop2, this, Instr.extract, htv]
         ·rw [wpOpsIn]
          refine hQ _ w' _ hQn hev hgh ⟨by rw [Qcx, Qcx]; exact hsr.size, ?_, ?_, hmat⟩ (by rw [Qca, Qca])
          ·intro t ht
           rw [Qlx _ _ _ _ (by intro d0 h0; rw [hd2] at h0; cases h0; omega), Qlx _ _ _ _ (by intro d0 h0; rw [hd1] at h0; cases h0; omega)]
           exact hsr.kept t ht
          ·have f1 : FrM S w' O (upd σ.fr (some d'') .u) (a.put o1.dst (.tuple tv)) := by
            rw [hd1]
            exact FrM.put hsr.fr hev.ext (fun d0 h0 => by cases h0; exact hlt) (by simp [Rep])
           rw [hd2]
           exact FrM.put (dst := some m') f1 (Ext.refl _ _ _) (fun d0 h0 => by cases h0; rw [Qcx, hsr.size]; exact hml.1) (by simp [Rep])
        rcases run_next_at (P := P) w o1.type b mm nn nn seen es es.size hbi hb2 hborn (Qj _) with ⟨h0, hrun⟩ | ⟨e, he, w1, hw1', hrun⟩
        ·have hl0 : left = [] := by
          rw [Q5]
          intro j hj
          obtain ⟨hj1, hj2⟩ := (hleft j).1 hj
          obtain ⟨e, he⟩ : ∃ e : MapEntry, es[j]? = some e := ⟨_, Array.getElem?_eq_getElem (by omega)⟩
          have := hmem j e he hj2
          have hz : leftOf es seen = #[] := Array.eq_empty_of_size_eq_zero h0
          rw [hz] at this
          simp at this
         refine fin #[.bool false] false w σ.hp ?_ rfl (Evol.refl _ _ _) hsr.mat (fun _ h => h) (hw0 hl0)
         have hit' : a.eval (.tmp it') = .pointer (some ⟨b, 0, none⟩) := hc
         simp only [execOp, hop1, hit', hrun, Sem.run_bind, Result.andThen_ok, Sem.run_pure]
        ·obtain ⟨j, hj⟩ : ∃ j, es[j]? = some e := by
          simp only [leftOf, Array.toList_filter, Zk] at he
          obtain ⟨j, hj⟩ := Qp he.1
          exact ⟨j, by rwa [Array.getElem?_toList] at hj⟩
         have hjb := hes.2 j e hj
         have hjlt := (Array.getElem?_eq_some_iff.1 hj).1
         have hjs : j ∉ seen.toList := by
          simp only [leftOf, Array.toList_filter, Zk] at he
          have := he.2
          rw [hjb] at this
          simpa using this
         have hjl : j ∈ left := (hleft j).2 ⟨by omega, hjs⟩
         have hidlt := Qav hid
         obtain ⟨ho, hheap⟩ : (∃ ev : Evol S S w w1 O O, True) ∧ w1.heap = w.heap := by
          rcases hw1' with rfl | rfl
          ·exact ⟨⟨Evol.refl _ _ _, trivial⟩, rfl⟩
          ·exact ⟨⟨Ql2 S w O, trivial⟩, rfl⟩
         obtain ⟨ev, _⟩ := ho
         have hm1 : Mat S w1 O σ.hp := by
          rcases hw1' with rfl | rfl
          ·exact hsr.mat
          ·exact Qoc hsr.mat
         obtain ⟨hev, hmat⟩ := Qoq hm1 hO (o' := .mapIter (some mm) nn (seen.push e.born) nn) (by rw [hheap]; exact hbi) rfl rfl hidlt (x := .iter mid nn (left.erase j) (some j)) fun hx hnew => by
          refine ⟨rfl, b, mm, seen.push e.born, rfl, hnew, ?_, hnd.erase _, fun k => ?_, fun k hk => ?_⟩
          ·exact Rep.ext (ev.ext.trans hx) _ _ hmp'
          ·rw [hnd.mem_erase_iff, hleft k, hjb]
           simp only [Array.toList_push, Qm, List.mem_singleton]
           constructor
           ·rintro ⟨h1, h2, h3⟩; exact ⟨h2, fun h => h.elim h3 h1⟩
           ·rintro ⟨h1, h2⟩; exact ⟨fun h => h2 (.inr h), h1, fun h => h2 (.inl h)⟩
          ·cases hk
           exact ⟨by rw [hjb]; simp, by omega⟩
         refine fin #[.bool true, e.key, e.val] true _ _ ?_ rfl (ev.trans hev) hmat (fun y hy => Qla hy hid (fun _ _ h => by cases h)) (hw1 j hjl)
         have hit' : a.eval (.tmp it') = .pointer (some ⟨b, 0, none⟩) := hc
         simp only [execOp, hop1, hit', hrun, Sem.run_bind, Result.andThen_ok, Sem.run_pure]
         rw [hes', hn]
         rfl
  ·cases hx2
 ·cases hx1
theorem Qxh {S S' : Nat → Prop} {w w' : World} {O O' : OInfo} {v : V} {c : Value} (h : Qs0 v = true) (hr : Rep S w O v c) : Rep S' w' O' v c := by
 cases v <;> simp only [Qs0] at h <;> first | exact Qo2 _ _ h hr | skip
 case yl l => simpa only [Rep] using hr
theorem Qh0 {ops : Array Oper} {off cnt : Nat} {r1 : List RO} (h : ((ops.toList.drop off).take cnt).mapM (fun o => resO P pu M.nm ops o) = some r1) : ∀ q r, r1[q]? = some r → ∃ o, ops[off + q]? = some o ∧ resO P pu M.nm ops o = some { r with nid := none } := by
 intro q r hq
 have hm := Qeb h
 have h1 := congrArg (fun l => l[q]?) hm
 simp only [Qh, hq, Qd, Za, Zs] at h1
 split at h1
 ·rw [Qa] at h1
  obtain ⟨o, ho, hr⟩ := h1
  refine ⟨o, by simpa using ho, ?_⟩
  have := Qou hr
  rw [hr]
  cases r; simp_all
 ·cases h1
theorem Qxq (hG : GOk P Γ) (hF : Qcz F) (hC : CtxOk P F n M C lo 2 base) {g : Bool} {r1 r2 : List RO} {y : RO} {ks : List Nat} {id : Nat} {ops : Array Oper} {o : Oper} (hgd : (g || Qd9 ops) = true)
  (ho : ops[r1.length]? = some o) (h1 : (ops.toList.take r1.length).mapM (fun o => resO P pu M.nm ops o) = some r1) (hy : resY P M.nm ops o = some y) (h2 : (ops.toList.drop (r1.length + 1)).mapM (fun o => resO P pu M.nm ops o) = some r2)
  {Q : Exit → St → Prop} {Q' : Exit → Act → World → Prop} {σ : St} {S : Nat → Prop} {w : World} {O : OInfo} {a : Act} (hw : wpR Γ (Qbh P) (.yrg g r1 y ks r2) Q σ) (hat : At C M S w O σ a)
  (hQ : ∀ σ' S' w' O' a', Q .normal σ' → At C M S' w' O' σ' a' → Q' .normal a' w') : (Code.region id ops false).wpIn F n P Q' a w := by
 have hgn : g = false → ∀ o ∈ ops, o.guard = none := by
  intro hg o ho
  subst hg
  simp only [Q2, Qd9] at hgd
  have := Array.all_eq_true_iff_forall_mem.1 hgd o ho
  simpa using this
 have hlt := (Array.getElem?_eq_some_iff.1 ho).1
 have hl2 : r2.length = ops.size - (r1.length + 1) := by
  have := congrArg Q8 (Qeb h2)
  simpa using this.symm
 refine wpIn_region ?_
 have hrange : Q6 ops.size = Qe 0 r1.length ++ (r1.length :: Qe (r1.length + 1) r2.length) := by
  rw [Qy, ← Qs]
  have := Q9 (s := 0) (m := r1.length) (n := r2.length + 1)
  rw [Zi] at this
  rw [this]
  congr 1
  omega
 rw [hrange]
 refine Qhm hG hF (pu := pu) hgn _ r1 0 σ S w O a (Qh0 (off := 0) (cnt := r1.length) (by simpa using h1)) hw hat.sr ?_
 intro σ1 S1 w1 O1 a1 hw1 hgh1 hev1 hsr1 hd1
 have hat1 : At C M S1 w1 O1 σ1 a1 := ⟨by rw [hd1]; exact hC.evol hat.ctx hat.sr.mat.lt hev1 hgh1, hsr1⟩
 have rest : ∀ (σ2 : St) S2 w2 O2 a2, At C M S2 w2 O2 σ2 a2 → runR Γ (Qbh P) g 0 r2 σ2 (Q .normal) → wpOpsIn F n P ops Q' (Qe (r1.length + 1) r2.length) a2 w2 := by
  intro σ2 S2 w2 O2 a2 hat2 hrun
  have := Qhm hG hF (pu := pu) (n := n) (Q := Q') hgn [] r2 (r1.length + 1) σ2 S2 w2 O2 a2 (Qh0 (off := r1.length + 1) (cnt := ops.size) (by
   rw [Qu (by simp)]; exact h2)) hrun hat2.sr (fun τ S' w' O' a' hK hgh hev hsr hd => by
    rw [wpOpsIn]
    exact hQ τ S' w' O' a' hK ⟨by rw [hd]; exact hC.evol hat2.ctx hat2.sr.mat.lt hev hgh, hsr⟩)
  simpa using this
 have hrO : ∀ (q : Nat) (r : RO), r2[q]? = some r → True := fun _ _ _ => trivial
 rw [wpOpsIn_cons]
 simp only [wpOpIn, ho]
 unfold resY at hy
 split at hy
 ·rename_i hds
  simp only [Qb] at hds
  obtain ⟨d, hd⟩ : ∃ d, o.dst = some d := by
   cases h : o.dst with
   | none => simp [h] at hds
   | some d => exact ⟨d, rfl⟩
  have hdl : d < M.n ∧ M.md ≤ d := by have := hds.1; rw [hd] at this; exact Qdy this
  have hdsz : d < a1.tmps.size := by rw [hsr1.size]; exact hdl.1
  split at hy
  ·rename_i gd fx hgdo hroc
   obtain ⟨f, xs⟩ := fx
   simp only [Qf.injEq] at hy
   subst hy
   simp only [hd] at hw1
   have hkept : ∀ (c : Value) t, t < M.md → (a1.put o.dst c).tmps.getD t undef = M.T t := fun c t ht => (Qlx a1 o.dst c t fun d' hd' => by rw [hd] at hd'; cases hd'; omega).trans (hsr1.kept t ht)
   have wantc : ∀ c, Qbq σ1.fr gd = some c → Region.wanted o (yielded ops a1.tmps) = c := by
    intro c hc
    cases hgo : o.guard with
    | none =>
     rw [hgo] at hgdo
     simp only [gdOf, Qf.injEq] at hgdo
     subst hgdo
     simp only [Qbq, Qf.injEq] at hc
     simp [Region.wanted, hgo, ← hc]
    | some jw =>
     obtain ⟨j, want⟩ := jw
     rw [hgo] at hgdo
     simp only [gdOf, Qa] at hgdo
     obtain ⟨s, hs, rfl⟩ := hgdo
     exact Qnk hsr1.fr hgo hs hc
   cases hc : Qbq σ1.fr gd with
   | none => simp [hc] at hw1
   | some c =>
    have hwant := wantc c hc
    rw [hwant]
    cases c with
    | false =>
     rw [if_neg (by simp)]
     simp only [hc] at hw1
     refine ⟨fun f _ => hF.1 f, ?_⟩
     refine rest ⟨upd σ1.fr (some d) (.gv false .u), σ1.hp⟩ S1 w1 O1 _ ⟨by rw [Qca]; exact hat1.ctx, ⟨by rw [Qcx]; exact hsr1.size, hkept _, ?_, hsr1.mat⟩⟩ hw1
     rw [hd]
     exact FrM.put (dst := some d) hsr1.fr (Ext.refl _ _ _) (fun d0 h0 => by cases h0; exact hdsz) (by simp only [Rep]; exact ⟨fun h => (by cases h), fun _ => trivial⟩)
    | true =>
     rw [if_pos rfl]
     simp only [hc] at hw1
     split at hw1
     ·rename_i l caps x rs hfv hhp
      obtain ⟨hneed, hc0, hargs, hflat, hks, hK⟩ := hw1
      have hgh : ghO σ1.hp = some (caps, some (x :: rs)) := by rw [hhp]; rfl
      have hno : ∀ id, O1 id = none := by
       intro id
       cases hO : O1 id with
       | none => rfl
       | some p =>
        exfalso
        have hb := hsr1.mat.blk id p.1 p.2 hO
        rw [hhp] at hb
        cases id with
        | zero => exact hb.elim
        | succ id => exact hb.elim
      have hods : Qfl P S1 w1 O1 (opv g σ1.fr) a1.eval o := by
       cases g with
       | false => exact Qd2 hsr1.fr o
       | true => exact Qdj hsr1.fr o hneed
      unfold Qmi at hroc
      unfold Qfl at hods
      cases hop : o.op <;> rw [hop] at hroc hods <;> simp only [Op.operands] at hods <;> first | (simp at hroc; done) | (try dsimp only at hroc)
      case call cl =>
       split at hroc
       ·rename_i f0 hcal
        simp only [Qr, Qn, Q3, Qf.injEq, Prod.mk.injEq] at hroc
        obtain ⟨f', hf, ods, hodse, rfl, rfl⟩ := hroc
        have q1 := hods f0 (by simp [Call.operands, hcal]) _ _ hf
        have qs := Qel _ _ _ hodse (fun x hx => hods x (by simp only [Call.operands, Array.mem_append]; exact .inr (by simpa using hx)))
        rw [hfv] at q1
        have hcv : a1.eval f0 = .func (.yield l) #[] #[] := by simpa only [Rep] using q1
        have hxrep : RepL (fun _ => False) w1 noO x (cl.args.map a1.eval).toList := by
         rw [← hargs] at hflat ⊢
         exact Qii _ _ hflat (by simpa using qs.1)
        have hcx : (cl.args.map a1.eval).size = x.length := by rw [← hargs]; simp [qs.2]
        have hyl := hC.yld rfl (by have := hat1.ctx; rw [hgh] at this; exact this) hsr1.mat.lt hno hc0 hxrep hcx
        obtain ⟨fn, tm, as, bd, hyr, hround⟩ := hyl
        refine ⟨fun f _ => hF.1 f, ?_⟩
        rw [Oper.semAt_eq _ _ _ (by simp [hop])]
        have hex : (execOp a1.eval o).run P w1 = .ok (.round l fn tm as bd) w1 := by
         have hdv : (resolve a1.eval cl o.type).run P w1 = .ok { target := .fn (.yield l) #[], args := cl.args.map a1.eval } w1 := by
          simp [resolve, hcal, hcv, Deferred.ofValue]
         simp only [execOp, hop, Sem.run_bind, hdv, Result.andThen_ok, invoke]
         exact hyr
        rw [hex, Oper.uponIn_round]
        refine ⟨fun hh => by simp [hF.2.1] at hh, hround.mono ?_⟩
        rintro e w2 ⟨b, S2, rfl, hctx, hlt2, hcaps⟩
        have := hK b
        refine rest _ S2 w2 noO _ ⟨by rw [Qca]; exact hctx, ⟨by rw [Qcx]; exact hsr1.size, hkept _, ?_, ⟨hlt2, fun _ _ _ h => (by cases h), fun _ _ _ _ _ h => (by cases h), fun _ _ _ h => (by cases h)⟩⟩⟩ this
        intro t
        simp only [hd, upd, Act.put]
        split
        ·rename_i e; subst e
         have : (a1.tmps.setIfInBounds t (.bool b)).getD t undef = .bool b := by simp [hdsz]
         rw [this]
         unfold yres
         cases gd <;> simp [Rep]
        ·rename_i e
         have hne : (a1.tmps.setIfInBounds d (.bool b)).getD t undef = a1.tmps.getD t undef := by simp [Array.getElem?_setIfInBounds_ne (Ne.symm e)]
         rw [hne]
         rcases Qwg ks σ1.fr t with h0 | h0
         ·unfold Qs1
          rw [h0]
          by_cases htk : t ∈ ks
          ·rcases hks t htk with h3 | h3
           ·exact Qxh h3 (hsr1.fr t)
           ·obtain ⟨h4, h5⟩ := hcaps t _ h3
            have := hsr1.kept t h4
            rw [this]; exact h5
          ·have : lkp (ks.map fun t => (t, σ1.fr t)) t = .u := Zal _ _ _ htk
           rw [← h0, this]; simp [Rep]
         ·unfold Qs1; rw [h0]; simp [Rep]
       ·cases hroc
     ·exact hw1.elim
  ·cases hy
 ·cases hy
theorem Qzb (i j k : Nat) : sw i j (sw i j k) = k := by
 unfold sw
 split
 ·rename_i h
  split
  ·rename_i h2; omega
  ·rw [if_pos rfl]; exact h.symm
 ·rename_i h
  split
  ·rename_i h2; rw [if_pos rfl]; exact h2.symm
  ·rename_i h2; simp []
theorem Qew (f : Nat → Nat) : ∀ vs : List V, (renL f vs).length = vs.length
 | [] => rfl
 | _ :: vs => by simp [renL, Qew f vs]
mutual
theorem Qos {S : Nat → Prop} {w : World} {O O2 : OInfo} {f : Nat → Nat} (h : ∀ id, O2 (f id) = O id) : ∀ (v : V) (c : Value), Rep S w O v c → Rep S w O2 (renV f v) c
 | .u, _, _ => by simp [renV, Rep]
 | .b x, c, hr => by simpa [renV, Rep] using hr
 | .i x, c, hr => by simpa [renV, Rep] using hr
 | .z es, c, hr => by simpa [renV, Rep] using hr
 | .sl es rows, c, hr => by simpa only [renV, Rep] using hr
 | .sx es rows, c, hr => by simpa only [renV, Rep] using hr
 | .pa cs, c, hr => by simpa only [renV, Rep] using hr
 | .pn, c, hr => by simpa [renV, Rep] using hr
 | .yl l, c, hr => by simpa [renV, Rep] using hr
 | .ag cs, c, hr => by
  simp only [renV, Rep] at hr ⊢
  obtain ⟨ccs, hc, hn, hr⟩ := hr
  exact ⟨ccs, hc, by rw [Qew]; exact hn, Qhj h cs _ hr⟩
 | .tp cs, c, hr => by
  simp only [renV, Rep] at hr ⊢
  obtain ⟨ccs, hc, hn, hr⟩ := hr
  exact ⟨ccs, hc, by rw [Qew]; exact hn, Qhj h cs _ hr⟩
 | .fn g cs, c, hr => by
  simp only [renV, Rep] at hr ⊢
  obtain ⟨ccs, hc, hn, hr⟩ := hr
  exact ⟨ccs, hc, by rw [Qew]; exact hn, Qhj h cs _ hr⟩
 | .gv q v, c, hr => by
  simp only [renV, Rep] at hr ⊢
  exact ⟨fun hq => Qos h v c (hr.1 hq), hr.2⟩
 | .ad id g off, c, hr => by simpa only [renV, Rep, h id] using hr
 | .rf id g off len es, c, hr => by simpa only [renV, Rep, h id] using hr
 | .mp id g, c, hr => by simpa only [renV, Rep, h id] using hr
 | .it id g, c, hr => by simpa only [renV, Rep, h id] using hr
theorem Qhj {S : Nat → Prop} {w : World} {O O2 : OInfo} {f : Nat → Nat} (h : ∀ id, O2 (f id) = O id) : ∀ (vs : List V) (cs : List Value), RepL S w O vs cs → RepL S w O2 (renL f vs) cs
 | [], _, _ => by simp [renL, RepL]
 | _ :: _, [], hr => by simp [RepL] at hr
 | v :: vs, c :: cs, hr => by
  simp only [renL, RepL] at hr ⊢
  exact ⟨Qos h v c hr.1, Qhj h vs cs hr.2⟩
end
theorem Zb4 {S : Nat → Prop} {w : World} {O O2 : OInfo} {f : Nat → Nat} {g : Nat} {ob : Option Nat} (h : ∀ id, O2 (f id) = O id) {x : Option Blk} (hx : Qbu S w O g ob x) : Qbu S w O2 g ob (x.map (renB f)) := by
 unfold Qbu at hx
 split at hx
 ·rename_i g' vs
  simp only [Qd, renB, Qbu]
  refine ⟨hx.1, ?_⟩
  cases ob with
  | none => have := hx.2; simp only at this ⊢; rw [this]; rfl
  | some b =>
   obtain ⟨cur, e, hb, hr, h1⟩ := hx.2
   exact ⟨cur, e, hb, Qhj h _ _ hr, h1⟩
 ·simp only [Qd, renB, Qbu]
  obtain ⟨h0, b, es, hob, hb, h1, h3, h4, h5⟩ := hx
  exact ⟨h0, b, es, hob, hb, h1, Qhj h _ _ h3, by rw [Qew]; exact h4, h5⟩
 ·rename_i mid n left cur
  simp only [Qd, renB, Qbu]
  obtain ⟨h0, b, m, seen, hob, hb, h1, h2⟩ := hx
  exact ⟨h0, b, m, seen, hob, hb, Qos h (.mp mid 0) _ h1, h2⟩
 ·exact hx.elim
 ·simpa only [Qd, renB, Qbu] using hx
 ·exact hx.elim
 ·exact hx.elim
theorem Zbe {i j : Nat} {hp : List Blk} (hi : i < hp.length) (hj : j < hp.length) (k : Nat) : (swH i j hp)[k]? = (hp[sw i j k]?).map (renB (sw i j)) := by
 unfold swH
 rw [Qg hi, Qg hj]
 simp only [Qh]
 congr 1
 unfold sw
 by_cases h2 : k = j
 ·subst h2
  rw [Qv (by rw [Q4]; exact hj)]
  split
  ·rename_i h; subst h; rw [Qg hi]
  ·rw [if_pos rfl, Qg hi]
 ·rw [Q0 (Ne.symm h2)]
  by_cases h1 : k = i
  ·subst h1
   rw [Qv hi, if_pos rfl, Qg hj]
  ·rw [Q0 (Ne.symm h1), if_neg h1, if_neg h2]
theorem Zd2 {S : Nat → Prop} {w : World} {O : OInfo} {hp : List Blk} (h : Mat S w O hp) {i j : Nat} (hi : i < hp.length) (hj : j < hp.length) : Mat S w (fun id => O (sw i j id)) (swH i j hp) := by
 refine ⟨h.lt, fun id g b ho => h.own _ g b ho, fun id id' g g' b h1 h2 => ?_, fun id g ob ho => ?_⟩
 ·have := h.inj _ _ g g' b h1 h2
  rw [← Qzb i j id, this, Qzb]
 ·rw [Zbe hi hj]
  exact Zb4 (fun id => by rw [Qzb]) (h.blk _ g ob ho)
theorem Qv2 (hG : GOk P Γ) (hF : Qcz F) (hC : CtxOk P F n M C lo top base) {g : Bool} {r1 r2 : List RO} {y : RO} {id : Nat} {ops : Array Oper} {o : Oper} (hgd : (g || Qd9 ops) = true)
  (ho : ops[r1.length]? = some o) (h1 : (ops.toList.take r1.length).mapM (fun o => resO P pu M.nm ops o) = some r1) (hy : resC P M.nm o = some y) (h2 : (ops.toList.drop (r1.length + 1)).mapM (fun o => resO P pu M.nm ops o) = some r2)
  {Q : Exit → St → Prop} {Q' : Exit → Act → World → Prop} {σ : St} {S : Nat → Prop} {w : World} {O : OInfo} {a : Act} (hw : wpR Γ (Qbh P) (.crl g r1 y r2) Q σ) (hat : At C M S w O σ a)
  (hQ : ∀ σ' S' w' O' a', Q .normal σ' → At C M S' w' O' σ' a' → Q' .normal a' w') : (Code.region id ops false).wpIn F n P Q' a w := by
 have hgn : g = false → ∀ o ∈ ops, o.guard = none := by
  intro hg o ho
  subst hg
  simp only [Q2, Qd9] at hgd
  have := Array.all_eq_true_iff_forall_mem.1 hgd o ho
  simpa using this
 have hlt := (Array.getElem?_eq_some_iff.1 ho).1
 have hl2 : r2.length = ops.size - (r1.length + 1) := by
  have := congrArg Q8 (Qeb h2)
  simpa using this.symm
 refine wpIn_region ?_
 have hrange : Q6 ops.size = Qe 0 r1.length ++ (r1.length :: Qe (r1.length + 1) r2.length) := by
  rw [Qy, ← Qs]
  have := Q9 (s := 0) (m := r1.length) (n := r2.length + 1)
  rw [Zi] at this
  rw [this]
  congr 1
  omega
 rw [hrange]
 refine Qhm hG hF (pu := pu) hgn _ r1 0 σ S w O a (Qh0 (off := 0) (cnt := r1.length) (by simpa using h1)) hw hat.sr ?_
 intro σ1 S1 w1 O1 a1 hw1 hgh1 hev1 hsr1 hd1
 have hat1 : At C M S1 w1 O1 σ1 a1 := ⟨by rw [hd1]; exact hC.evol hat.ctx hat.sr.mat.lt hev1 hgh1, hsr1⟩
 have rest : ∀ (σ2 : St) S2 w2 O2 a2, At C M S2 w2 O2 σ2 a2 → runR Γ (Qbh P) g 0 r2 σ2 (Q .normal) → wpOpsIn F n P ops Q' (Qe (r1.length + 1) r2.length) a2 w2 := by
  intro σ2 S2 w2 O2 a2 hat2 hrun
  have := Qhm hG hF (pu := pu) (n := n) (Q := Q') hgn [] r2 (r1.length + 1) σ2 S2 w2 O2 a2 (Qh0 (off := r1.length + 1) (cnt := ops.size) (by
   rw [Qu (by simp)]; exact h2)) hrun hat2.sr (fun τ S' w' O' a' hK hgh hev hsr hd => by
    rw [wpOpsIn]
    exact hQ τ S' w' O' a' hK ⟨by rw [hd]; exact hC.evol hat2.ctx hat2.sr.mat.lt hev hgh, hsr⟩)
  simpa using this
 rw [wpOpsIn_cons]
 simp only [wpOpIn, ho]
 unfold resC at hy
 split at hy
 ·rename_i hds
  simp only [Qb] at hds
  obtain ⟨hdo, hgo⟩ := hds
  have hgo' : o.guard = none := by simpa using hgo
  rw [Qa] at hy
  obtain ⟨⟨f, xs⟩, hroc, rfl⟩ := hy
  simp only at hw1
  have hdl : ∀ d, o.dst = some d → d < M.n ∧ M.md ≤ d := fun d hd => by rw [hd] at hdo; exact Qdy hdo
  have hkept : ∀ (c : Value) t, t < M.md → (a1.put o.dst c).tmps.getD t undef = M.T t := fun c t ht => (Qlx a1 o.dst c t fun d' hd' => by have := (hdl d' hd').2; omega).trans (hsr1.kept t ht)
  have hwant : Region.wanted o (yielded ops a1.tmps) = true := by simp [Region.wanted, hgo']
  rw [if_pos hwant]
  split at hw1
  ·rename_i gf caps hfv
   obtain ⟨hneed, hg6, href, hpre, hK⟩ := hw1
   obtain ⟨hen, hrel⟩ := hG.rel gf _ hg6 hpre
   have hods : Qfl P S1 w1 O1 (opv g σ1.fr) a1.eval o := by
    cases g with
    | false => exact Qd2 hsr1.fr o
    | true => exact Qdj hsr1.fr o hneed
   unfold Qmi at hroc
   unfold Qfl at hods
   cases hop : o.op <;> rw [hop] at hroc hods <;> simp only [Op.operands] at hods <;> first | (simp at hroc; done) | (try dsimp only at hroc)
   case call cl =>
    split at hroc
    ·rename_i f0 hcal
     simp only [Qr, Qn, Q3, Qf.injEq, Prod.mk.injEq] at hroc
     obtain ⟨f', hf, ods, hodse, rfl, rfl⟩ := hroc
     have q1 := hods f0 (by simp [Call.operands, hcal]) _ _ hf
     have qs := Qel _ _ _ hodse (fun x hx => hods x (by simp only [Call.operands, Array.mem_append]; exact .inr (by simpa using hx)))
     rw [hfv] at q1
     simp only [Rep] at q1
     obtain ⟨ccs, hc, hn, hrl⟩ := q1
     have hall := RepL.append _ _ _ _ qs.1 (by simp [qs.2]) hrl
     have hcalls := Qz8 hrel hsr1.mat (cargs := cl.args.map a1.eval ++ ccs) (by simp [qs.2, hn]) (Qja _ _ href (by simpa using hall))
     refine Qfx (w' := w1) (f := gf) (args := cl.args.map a1.eval ++ ccs) hF (by simp [hop]) ?_ (hcalls.mono ?_)
     ·have hd : (resolve a1.eval cl o.type).run P w1 = .ok { target := .fn (.func gf) ccs, args := cl.args.map a1.eval } w1 := by
       simp [resolve, hcal, hc, Deferred.ofValue]
      simp only [execOp, hop, Sem.run_bind, hd, Result.andThen_ok, invoke]
      exact hen _ _
     ·rintro e w2 ⟨v, S2, O2, r, bs0, rfl, ⟨bs, rfl, hR⟩, hev, hmat, hrep⟩
      refine ⟨v, rfl, rest _ S2 w2 O2 _ ⟨?_, ⟨by rw [Qcx]; exact hsr1.size, hkept _, ?_, hmat⟩⟩ (hK r bs hR)⟩
      ·rw [Qca]
       exact hC.evol hat1.ctx hsr1.mat.lt hev fun y hy => Qg2 hy
      ·exact FrM.put hsr1.fr hev.ext (fun d hd => by rw [hsr1.size]; exact (hdl d hd).1) hrep
    ·cases hroc
  ·exact hw1.elim
 ·cases hy
theorem Qw3 (hG : GOk P Γ) (hF : Qcz F) (hC : CtxOk P F n M C lo top base) {g : Bool} {r1 r2 : List RO} {y : RO} {id : Nat} {ops : Array Oper} {o : Oper} (hgd : (g || Qd9 ops) = true)
  (ho : ops[r1.length]? = some o) (h1 : (ops.toList.take r1.length).mapM (fun o => resO P pu M.nm ops o) = some r1) (hy : resC P M.nm o = some y) (h2 : (ops.toList.drop (r1.length + 1)).mapM (fun o => resO P pu M.nm ops o) = some r2)
  {Q : Exit → St → Prop} {Q' : Exit → Act → World → Prop} {σ : St} {S : Nat → Prop} {w : World} {O : OInfo} {a : Act} (hw : wpR Γ (Qbh P) (.hcl g r1 y r2) Q σ) (hat : At C M S w O σ a)
  (hQ : ∀ σ' S' w' O' a', Q .normal σ' → At C M S' w' O' σ' a' → Q' .normal a' w') : (Code.region id ops false).wpIn F n P Q' a w := by
 have hgn : g = false → ∀ o ∈ ops, o.guard = none := by
  intro hg o ho
  subst hg
  simp only [Q2, Qd9] at hgd
  have := Array.all_eq_true_iff_forall_mem.1 hgd o ho
  simpa using this
 have hlt := (Array.getElem?_eq_some_iff.1 ho).1
 have hl2 : r2.length = ops.size - (r1.length + 1) := by
  have := congrArg Q8 (Qeb h2)
  simpa using this.symm
 refine wpIn_region ?_
 have hrange : Q6 ops.size = Qe 0 r1.length ++ (r1.length :: Qe (r1.length + 1) r2.length) := by
  rw [Qy, ← Qs]
  have := Q9 (s := 0) (m := r1.length) (n := r2.length + 1)
  rw [Zi] at this
  rw [this]
  congr 1
  omega
 rw [hrange]
 refine Qhm hG hF (pu := pu) hgn _ r1 0 σ S w O a (Qh0 (off := 0) (cnt := r1.length) (by simpa using h1)) hw hat.sr ?_
 intro σ1 S1 w1 O1 a1 hw1 hgh1 hev1 hsr1 hd1
 have hat1 : At C M S1 w1 O1 σ1 a1 := ⟨by rw [hd1]; exact hC.evol hat.ctx hat.sr.mat.lt hev1 hgh1, hsr1⟩
 have rest : ∀ (σ2 : St) S2 w2 O2 a2, At C M S2 w2 O2 σ2 a2 → runR Γ (Qbh P) g 0 r2 σ2 (Q .normal) → wpOpsIn F n P ops Q' (Qe (r1.length + 1) r2.length) a2 w2 := by
  intro σ2 S2 w2 O2 a2 hat2 hrun
  have := Qhm hG hF (pu := pu) (n := n) (Q := Q') hgn [] r2 (r1.length + 1) σ2 S2 w2 O2 a2 (Qh0 (off := r1.length + 1) (cnt := ops.size) (by
   rw [Qu (by simp)]; exact h2)) hrun hat2.sr (fun τ S' w' O' a' hK hgh hev hsr hd => by
    rw [wpOpsIn]
    exact hQ τ S' w' O' a' hK ⟨by rw [hd]; exact hC.evol hat2.ctx hat2.sr.mat.lt hev hgh, hsr⟩)
  simpa using this
 rw [wpOpsIn_cons]
 simp only [wpOpIn, ho]
 unfold resC at hy
 split at hy
 ·rename_i hds
  simp only [Qb] at hds
  obtain ⟨hdo, hgo⟩ := hds
  have hgo' : o.guard = none := by simpa using hgo
  rw [Qa] at hy
  obtain ⟨⟨f, xs⟩, hroc, rfl⟩ := hy
  simp only at hw1
  have hdl : ∀ d, o.dst = some d → d < M.n ∧ M.md ≤ d := fun d hd => by rw [hd] at hdo; exact Qdy hdo
  have hkept : ∀ (c : Value) t, t < M.md → (a1.put o.dst c).tmps.getD t undef = M.T t := fun c t ht => (Qlx a1 o.dst c t fun d' hd' => by have := (hdl d' hd').2; omega).trans (hsr1.kept t ht)
  have hwant : Region.wanted o (yielded ops a1.tmps) = true := by simp [Region.wanted, hgo']
  rw [if_pos hwant]
  split at hw1
  ·rename_i gf caps hfv
   obtain ⟨hneed, hpre, hK⟩ := hw1
   obtain ⟨hen, hgh, hheap⟩ := hG.heap gf _ _ hpre
   have hods : Qfl P S1 w1 O1 (opv g σ1.fr) a1.eval o := by
    cases g with
    | false => exact Qd2 hsr1.fr o
    | true => exact Qdj hsr1.fr o hneed
   unfold Qmi at hroc
   unfold Qfl at hods
   cases hop : o.op <;> rw [hop] at hroc hods <;> simp only [Op.operands] at hods <;> first | (simp at hroc; done) | (try dsimp only at hroc)
   case call cl =>
    split at hroc
    ·rename_i f0 hcal
     simp only [Qr, Qn, Q3, Qf.injEq, Prod.mk.injEq] at hroc
     obtain ⟨f', hf, ods, hodse, rfl, rfl⟩ := hroc
     have q1 := hods f0 (by simp [Call.operands, hcal]) _ _ hf
     have qs := Qel _ _ _ hodse (fun x hx => hods x (by simp only [Call.operands, Array.mem_append]; exact .inr (by simpa using hx)))
     rw [hfv] at q1
     simp only [Rep] at q1
     obtain ⟨ccs, hc, hn, hrl⟩ := q1
     have hall := RepL.append _ _ _ _ qs.1 (by simp [qs.2]) hrl
     have hcalls := hheap S1 w1 O1 (cl.args.map a1.eval ++ ccs) hsr1.mat (by simp [qs.2, hn]) (by simpa using hall)
     refine Qfx (w' := w1) (f := gf) (args := cl.args.map a1.eval ++ ccs) hF (by simp [hop]) ?_ (hcalls.mono ?_)
     ·have hd : (resolve a1.eval cl o.type).run P w1 = .ok { target := .fn (.func gf) ccs, args := cl.args.map a1.eval } w1 := by
       simp [resolve, hcal, hc, Deferred.ofValue]
      simp only [execOp, hop, Sem.run_bind, hd, Result.andThen_ok, invoke]
      exact hen _ _
     ·rintro e w2 ⟨v, S2, O2, r, hp', rfl, hR, hev, hmat, hrep⟩
      refine ⟨v, rfl, rest _ S2 w2 O2 _ ⟨?_, ⟨by rw [Qcx]; exact hsr1.size, hkept _, ?_, hmat⟩⟩ (hK r hp' hR)⟩
      ·rw [Qca]
       exact hC.evol hat1.ctx hsr1.mat.lt hev (hgh r hp' hR)
      ·exact FrM.put hsr1.fr hev.ext (fun d hd => by rw [hsr1.size]; exact (hdl d hd).1) hrep
    ·cases hroc
  ·exact hw1.elim
 ·cases hy
theorem Anc.trans {ops : Array Oper} {i j k : Nat} (h : Anc ops i j) (h' : Anc ops j k) : Anc ops i k := by
 induction h' with
 | base ho he hb e => exact .step ho he hb (e ▸ h)
 | step ho he hb _ ih => exact .step ho he hb ih
theorem Zcc (hG : GOk P Γ) (hF : Qcz F) (hC : CtxOk P F n M C lo top base) {g : Bool} {y : RO} {ops : Array Oper} {i : Nat} {o : Oper} (hgn : g = false → ∀ o ∈ ops, o.guard = none)
  (ho : ops[i]? = some o) (hy : resC P M.nm o = some y) {K : St → Prop} {Q' : Exit → Act → World → Prop} {σ1 : St} {S1 : Nat → Prop} {w1 : World} {O1 : OInfo} {a1 : Act}
  (hw1 : match y.x with
   | .o f args => match opv g σ1.fr f with
    | .fn gf caps => Qb4 g y σ1.fr ∧ (Γ.h gf (args.map (opv g σ1.fr) ++ caps) σ1.hp).1 ∧ ∀ r hp', (Γ.h gf (args.map (opv g σ1.fr) ++ caps) σ1.hp).2 r hp' → K ⟨upd σ1.fr y.dst r, hp'⟩
    | _ => False
   | _ => False) (hat1 : At C M S1 w1 O1 σ1 a1) {KK : Act → World → Prop} (hK0 : ∀ σ2 S2 w2 O2 a2, K σ2 → At C M S2 w2 O2 σ2 a2 → KK a2 w2) : wpOpIn F n P ops Q' i KK a1 w1 := by
 have hsr1 := hat1.sr
 simp only [wpOpIn, ho]
 unfold resC at hy
 split at hy
 ·rename_i hds
  simp only [Qb] at hds
  obtain ⟨hdo, hgo⟩ := hds
  have hgo' : o.guard = none := by simpa using hgo
  rw [Qa] at hy
  obtain ⟨⟨f, xs⟩, hroc, rfl⟩ := hy
  simp only at hw1
  have hdl : ∀ d, o.dst = some d → d < M.n ∧ M.md ≤ d := fun d hd => by rw [hd] at hdo; exact Qdy hdo
  have hkept : ∀ (c : Value) t, t < M.md → (a1.put o.dst c).tmps.getD t undef = M.T t := fun c t ht => (Qlx a1 o.dst c t fun d' hd' => by have := (hdl d' hd').2; omega).trans (hsr1.kept t ht)
  have hwant : Region.wanted o (yielded ops a1.tmps) = true := by simp [Region.wanted, hgo']
  rw [if_pos hwant]
  split at hw1
  ·rename_i gf caps hfv
   obtain ⟨hneed, hpre, hK⟩ := hw1
   obtain ⟨hen, hgh, hheap⟩ := hG.heap gf _ _ hpre
   have hods : Qfl P S1 w1 O1 (opv g σ1.fr) a1.eval o := by
    cases g with
    | false => exact Qd2 hsr1.fr o
    | true => exact Qdj hsr1.fr o hneed
   unfold Qmi at hroc
   unfold Qfl at hods
   cases hop : o.op <;> rw [hop] at hroc hods <;> simp only [Op.operands] at hods <;> first | (simp at hroc; done) | (try dsimp only at hroc)
   case call cl =>
    split at hroc
    ·rename_i f0 hcal
     simp only [Qr, Qn, Q3, Qf.injEq, Prod.mk.injEq] at hroc
     obtain ⟨f', hf, ods, hodse, rfl, rfl⟩ := hroc
     have q1 := hods f0 (by simp [Call.operands, hcal]) _ _ hf
     have qs := Qel _ _ _ hodse (fun x hx => hods x (by simp only [Call.operands, Array.mem_append]; exact .inr (by simpa using hx)))
     rw [hfv] at q1
     simp only [Rep] at q1
     obtain ⟨ccs, hc, hn, hrl⟩ := q1
     have hall := RepL.append _ _ _ _ qs.1 (by simp [qs.2]) hrl
     have hcalls := hheap S1 w1 O1 (cl.args.map a1.eval ++ ccs) hsr1.mat (by simp [qs.2, hn]) (by simpa using hall)
     refine Qfx (w' := w1) (f := gf) (args := cl.args.map a1.eval ++ ccs) hF (by simp [hop]) ?_ (hcalls.mono ?_)
     ·have hd : (resolve a1.eval cl o.type).run P w1 = .ok { target := .fn (.func gf) ccs, args := cl.args.map a1.eval } w1 := by
       simp [resolve, hcal, hc, Deferred.ofValue]
      simp only [execOp, hop, Sem.run_bind, hd, Result.andThen_ok, invoke]
      exact hen _ _
     ·rintro e w2 ⟨v, S2, O2, r, hp', rfl, hR, hev, hmat, hrep⟩
      refine ⟨v, rfl, hK0 _ S2 w2 O2 _ (hK r hp' hR) ⟨?_, ⟨by rw [Qcx]; exact hsr1.size, hkept _, ?_, hmat⟩⟩⟩
      ·rw [Qca]
       exact hC.evol hat1.ctx hsr1.mat.lt hev (hgh r hp' hR)
      ·exact FrM.put hsr1.fr hev.ext (fun d hd => by rw [hsr1.size]; exact (hdl d hd).1) hrep
    ·cases hroc
  ·exact hw1.elim
 ·cases hy
theorem Qtu {rs : List RO} {l : List AnyOp} {q : Nat} {z : AnyOp} (h : (zipX rs l)[q]? = some z) : ∃ r, rs[q]? = some r ∧ ({ z.o with nid := none } : RO) = { r with nid := none } := by
 unfold zipX at h
 rw [Zn] at h
 cases hr : rs[q]? with
 | none => simp [hr] at h
 | some r =>
  cases hl : l[q]? with
  | none => simp [hr, hl] at h
  | some x =>
   simp only [hr, hl, Qf.injEq] at h
   subst h
   exact ⟨r, rfl, rfl⟩
theorem Qw2 (hG : GOk P Γ) (hF : Qcz F) (hm : P.follows .mixedOrders = true) (hC : CtxOk P F n M C lo top base) {g : Bool} {m1 m2 : Nat} {l1 l2 : List AnyOp} {r1 r2 : List RO} {y1 : RO} {y : AnyOp} {id : Nat} {ops : Array Oper} {o : Oper}
  (hgd : (g || Qd9 ops) = true) (ho : ops[l1.length]? = some o) (h1 : (ops.toList.take l1.length).mapM (fun o => resO P pu M.nm ops o) = some r1) (hy : resC P M.nm o = some y1) (h2 : (ops.toList.drop (l1.length + 1)).mapM (fun o => resO P pu M.nm ops o) = some r2)
  (hch : Qzt ops r1 l1 y1 y r2 l2 = true) {Q : Exit → St → Prop} {Q' : Exit → Act → World → Prop} {σ : St} {S : Nat → Prop} {w : World} {O : OInfo} {a : Act} (hw : wpR Γ (Qbh P) (.hca g m1 (zipX r1 l1) ⟨y1, [], y.an⟩ m2 (zipX r2 l2)) Q σ) (hat : At C M S w O σ a)
  (hQ : ∀ σ' S' w' O' a', Q .normal σ' → At C M S' w' O' σ' a' → Q' .normal a' w') : (Code.region id ops true).wpIn F n P Q' a w := by
 have hgn : g = false → ∀ o ∈ ops, o.guard = none := by
  intro hg o ho
  subst hg
  simp only [Q2, Qd9] at hgd
  have := Array.all_eq_true_iff_forall_mem.1 hgd o ho
  simpa using this
 unfold Qzt at hch
 simp only [Qb, decide_eq_true_eq] at hch
 obtain ⟨⟨⟨⟨⟨hp, ha⟩, e1⟩, e2⟩, hyan⟩, hzan⟩ := hch
 have hL := (Array.getElem?_eq_some_iff.1 ho).1
 have hz1 : (zipX r1 l1).length = l1.length := by simp [zipX, e1]
 have hz2 : (zipX r2 l2).length = ops.size - (l1.length + 1) := by
  have := congrArg Q8 (Qeb h2)
  simp at this
  simp [zipX, ← e2, ← this]
 have hsub1 : ∀ q z, (zipX r1 l1)[q]? = some z → (zipX r1 l1 ++ ⟨y1, [], y.an⟩ :: zipX r2 l2)[0 + q]? = some z := by
  intro q z hz
  rw [Zi, Qi (Qav hz)]; exact hz
 have hsubL : (zipX r1 l1 ++ ⟨y1, [], y.an⟩ :: zipX r2 l2)[l1.length]? = some ⟨y1, [], y.an⟩ := by
  rw [Qo (by omega), hz1, Nat.sub_self]; rfl
 have hsub2 : ∀ q z, (zipX r2 l2)[q]? = some z → (zipX r1 l1 ++ ⟨y1, [], y.an⟩ :: zipX r2 l2)[l1.length + 1 + q]? = some z := by
  intro q z hz
  rw [Qo (by omega), hz1, show l1.length + 1 + q - l1.length = q + 1 by omega]; exact hz
 have hop1 : ∀ q z, (zipX r1 l1)[q]? = some z → ∃ o, ops[0 + q]? = some o ∧ resO P pu M.nm ops o = some { z.o with nid := none } := by
  intro q z hz
  obtain ⟨r, hr, e⟩ := Qtu hz
  rw [e]
  exact Qh0 (off := 0) (cnt := l1.length) (by simpa using h1) q r hr
 have hop2 : ∀ q z, (zipX r2 l2)[q]? = some z → ∃ o, ops[l1.length + 1 + q]? = some o ∧ resO P pu M.nm ops o = some { z.o with nid := none } := by
  intro q z hz
  obtain ⟨r, hr, e⟩ := Qtu hz
  rw [e]
  exact Qh0 (off := l1.length + 1) (cnt := ops.size) (by rw [Qu (by simp)]; exact h2) q r hr
 have hancL : ∀ i, i < l1.length → Anc ops i l1.length := fun i hi =>
  (Qe7 ha _ _ hsubL hL).1 i (by have := Qk.1 hyan i (by simpa using hi); simpa using this)
 have hancU : ∀ u, l1.length < u → u < ops.size → Anc ops l1.length u := by
  intro u h1 h2
  obtain ⟨z, hz⟩ : ∃ z, (zipX r2 l2)[u - (l1.length + 1)]? = some z := ⟨_, Qg (by omega)⟩
  have hz' := hsub2 _ _ hz
  rw [show l1.length + 1 + (u - (l1.length + 1)) = u by omega] at hz'
  exact (Qe7 ha _ _ hz' h2).1 _ (by have := Qk.1 hzan z (Qx hz); simpa using this)
 refine wpIn_region_any hm ?_
 obtain ⟨rest1, τ1, k1, k2, k3, k4, k5, k6⟩ := Qql (k := 0) (M := M) (pu := pu) hsub1 hp ha hop1 rfl hw
 refine Qxu hG hF hgn (pu := pu) (M := M) (U := fun i => l1.length ≤ i ∧ i < ops.size) (extra := ops.size - l1.length) ops.size rest1 _ _ S _ O a ?_ ?_ k3 k4 ?_ ?_ ?_ k5 ⟨hat.sr.size, hat.sr.kept, hat.sr.fr.ext (Qkj _ _ _), Qoc (Qi4 hat.sr.mat _)⟩ ?_
 ·omega
 ·intro i
  rw [k2, hz1]
  constructor
  ·intro h
   rcases Zu i ops.size with h' | h'
   ·omega
   ·simp [Nat.not_lt.2 h'] at h
  ·intro h
   have : i < ops.size := by omega
   simp [this]
 ·intro x hx u hu
  have hxl := ((k2 x.1).1 ⟨x, hx, rfl⟩).2
  rw [hz1] at hxl
  refine ⟨?_, by omega⟩
  rcases Zt hu.1 with h | h
  ·exact (hancL _ (by omega)).trans (hancU u h hu.2)
  ·rw [← h]; exact hancL _ (by omega)
 ·intro i j _ hj
  exfalso
  by_cases h : j < ops.size <;> simp [h] at hj
 ·intro i hi
  simpa using hi
 ·intro fuel' listed' S1 w1 O1 a1 hfu hl hcl hsz hev1 hsr1 hd1
  obtain ⟨fuel, rfl⟩ : ∃ f, fuel' = f + 1 := ⟨fuel' - 1, by omega⟩
  have hLf : listed'.getD l1.length true = false := (hl _).2 ⟨Qj _, hL⟩
  have hlow : ∀ i, i < l1.length → listed'.getD i false = true := by
   intro i hi
   have h3 : ¬ listed'.getD i true = false := fun h => by have := (hl i).1 h; omega
   have h4 := hsz i (by omega)
   simp [h4] at h3 ⊢
   exact h3
  have honly : ∀ i, i ∈ Region.ready .any ops listed' → i = l1.length := by
   intro i hi
   rw [mem_ready] at hi
   obtain ⟨h0, o', ho', hall⟩ := hi
   obtain ⟨h3, h4⟩ := (hl i).1 h0
   rcases Zt h3 with h | h
   ·exfalso
    have h5 : listed'.getD l1.length false = true := by
     cases hancU i h h4 with
     | base ho2 he hb e => rw [ho'] at ho2; cases ho2; rw [← e]; exact hall _ he hb
     | step ho2 he hb e => rw [ho'] at ho2; cases ho2; exact hcl _ _ e (hall _ he hb)
    cases hle : listed'[l1.length]? with
    | none => simp [hle] at hLf
    | some b => simp [hle] at hLf h5; simp_all
   ·exact h.symm
  have hready : l1.length ∈ Region.ready .any ops listed' := by
   rw [mem_ready]
   exact ⟨hLf, o, ho, fun e he hb => hlow _ ((Qe7 ha _ _ hsubL hL).2 o ho e he hb)⟩
  refine ⟨fun hnone => (by rw [hnone] at hready; cases hready), fun i hi => ?_⟩
  have := honly i hi
  subst this
  have hat1 : At C M S1 w1 O1 τ1 a1 := ⟨by rw [hd1]; exact hC.evol hat.ctx hat.sr.mat.lt ((Ql2 S w O).trans hev1) fun y hy => RunD.gh _ _ _ k5 (Qg2 hy), hsr1⟩
  refine Zcc hG hF hC hgn ho hy (K := fun σ2 => runX Γ (Qbh P) g σ2.hp.length (zipX r2 l2) (Qz ((zipX r1 l1).length + 1) ⟨none, []⟩) ⟨σ2.fr, σ2.hp ++ Qz m2 .hole⟩ (Q .normal)) k6 hat1 ?_
  intro σ2 S2 w2 O2 a2 hK2 hat2
  obtain ⟨rest2, τ2, j1, j2, j3, j4, j5, j6⟩ := Qql (k := l1.length + 1) (M := M) (pu := pu) hsub2 hp ha hop2 (by simp [hz1]) hK2
  refine Qp5 hG hF hgn (pu := pu) (M := M) fuel rest2 _ _ S2 _ O2 a2 ?_ ?_ j3 j4 ?_ ?_ j5 ⟨hat2.sr.size, hat2.sr.kept, hat2.sr.fr, Qi4 hat2.sr.mat _⟩ ?_
  ·omega
  ·intro i
   rw [j2, hz2]
   by_cases hi : i = l1.length
   ·subst hi
    have := hsz _ hL
    simp [this]
    omega
   ·rw [getD_set_ne true (Ne.symm hi), hl]
    omega
  ·intro i j hij hj
   by_cases hjL : j = l1.length
   ·subst hjL
    refine getD_set_true ?_
    have := (Qe7 ha _ _ hsubL hL).2 o ho
    cases hij with
    | base ho2 he hb e => rw [ho] at ho2; cases ho2; rw [← e]; exact hlow _ (this _ he hb)
    | step ho2 he hb e => rw [ho] at ho2; cases ho2; exact hcl _ _ e (hlow _ (this _ he hb))
   ·rw [getD_set_ne false (Ne.symm hjL)] at hj
    exact getD_set_true (hcl i j hij hj)
  ·intro i hi
   simpa using hsz i hi
  ·intro S' w' O' a' hev hsr hd
   exact hQ _ _ _ _ _ j6 ⟨by rw [hd]; exact hC.evol hat2.ctx hat2.sr.mat.lt hev fun y hy => RunD.gh _ _ _ j5 (Qg2 hy), hsr⟩
structure ExtN (lo : Nat) (S S' : Nat → Prop) (w w' : World) (O O' : OInfo) : Prop where
 keep : ∀ n, S n → S' n ∧ w'.heap[n]? = w.heap[n]?
 own : ∀ id g ob, id < lo → O id = some (g, ob) → ∃ g' ob', O' id = some (g', ob') ∧ g ≤ g' ∧ (g' = g → ob' = ob ∧
  (∀ b cur e, ob = some b → w.heap[b]? = some (.cells cur e (0, 0)) → ∃ cur', w'.heap[b]? = some (.cells cur' e (0, 0)) ∧ cur'.size = cur.size))
theorem ExtN.refl (lo : Nat) (S : Nat → Prop) (w : World) (O : OInfo) : ExtN lo S S w w O O :=
 ⟨fun _ h => ⟨h, rfl⟩, fun _ g ob _ h => ⟨g, ob, h, Qj _, fun _ => ⟨rfl, fun _ cur _ _ hb => ⟨cur, hb, rfl⟩⟩⟩⟩
theorem ExtN.then {lo : Nat} {S S' S'' : Nat → Prop} {w w' w'' : World} {O O' O'' : OInfo} (h : ExtN lo S S' w w' O O') (k : Ext S' S'' w' w'' O' O'') : ExtN lo S S'' w w'' O O'' := by
 refine ⟨fun n hn => ⟨(k.keep n (h.keep n hn).1).1, ((k.keep n (h.keep n hn).1).2).trans (h.keep n hn).2⟩, fun id g ob hl ho => ?_⟩
 obtain ⟨g', ob', ho', hg, h1⟩ := h.own id g ob hl ho
 obtain ⟨g'', ob'', ho'', hg', h2⟩ := k.own id g' ob' ho'
 refine ⟨g'', ob'', ho'', Qq hg hg', fun e => ?_⟩
 obtain ⟨a1, a2⟩ := h1 (by omega)
 obtain ⟨b1, b2⟩ := h2 (by omega)
 refine ⟨b1.trans a1, fun b cur e hb hh => ?_⟩
 obtain ⟨cur', hh', hs⟩ := a2 b cur e hb hh
 obtain ⟨cur'', hh'', hs'⟩ := b2 b cur' e (a1.trans hb) hh'
 exact ⟨cur'', hh'', hs'.trans hs⟩
theorem ExtN.cut {lo : Nat} {S S' : Nat → Prop} {w w' : World} {O O' : OInfo} (h : ExtN lo S S' w w' O O') {k : Nat} (hk : lo ≤ k) : ExtN lo S (cutS S' O' k) w w' O (Qex O' k) := by
 refine ⟨fun n hn => ⟨.inl (h.keep n hn).1, (h.keep n hn).2⟩, fun id g ob hl ho => ?_⟩
 obtain ⟨g', ob', ho', h1⟩ := h.own id g ob hl ho
 exact ⟨g', ob', by unfold Qex; rw [if_pos (by omega)]; exact ho', h1⟩
theorem ExtN.ext {lo : Nat} {S S' : Nat → Prop} {w w' : World} {O O' : OInfo} (h : ExtN lo S S' w w' O O') (hO : ∀ id x, O id = some x → id < lo) : Ext S S' w w' O O' :=
 ⟨h.keep, fun id g ob ho => h.own id g ob (hO id _ ho) ho⟩
theorem Qkk {S : Nat → Prop} {w : World} {O : OInfo} {L : Nat} (o' : Obj) (hS : ¬ S L) (hO : ¬ Own O L) : Ext S S w (w.putObj L o') O O := by
 have hoth : ∀ k, k ≠ L → (w.putObj L o').heap[k]? = w.heap[k]? := fun k hk => World.putObj_heap_other hk
 refine ⟨fun k hk => ⟨hk, hoth k (by rintro rfl; exact hS hk)⟩, fun id g ob ho => ⟨g, ob, ho, Qj _, fun _ => ⟨rfl, fun b cur e hb hh => ⟨cur, ?_, rfl⟩⟩⟩⟩
 rw [hoth b (by rintro rfl; exact hO ⟨id, g, by rw [ho, hb]⟩)]
 exact hh
theorem Qt5 {S : Nat → Prop} {w : World} {O : OInfo} {hp : List Blk} (h : Mat S w O hp) {L : Nat} (o' : Obj) (hS : ¬ S L) (hO : ¬ Own O L) : Mat S (w.putObj L o') O hp := by
 refine h.keep (Qkk o' hS hO) (by simp) (fun b hb => World.putObj_heap_other (by rintro rfl; exact hO hb)) (fun k hk => by simpa using h.lt k hk) fun k hk ⟨id, g, ho⟩ => (h.own id g k ho).2 hk
theorem Qm8 {S : Nat → Prop} {w : World} {O : OInfo} {σ : St} {a : Act} (h : SR M S w O σ a) {L : Nat} (o' : Obj) (hS : ¬ S L) (hO : ¬ Own O L) : SR M S (w.putObj L o') O σ a :=
 ⟨h.size, h.kept, h.fr.ext (Qkk o' hS hO), Qt5 h.mat o' hS hO⟩
theorem Qe1 (w : World) (o : Obj) (ho : o.isCells = false) : Later w (w.alloc o) :=
 ⟨rfl, rfl, rfl, by simp, fun a => Qdr w o ho a, fun n hn => heap_alloc_old w o hn⟩
theorem Later.trans {w w' w'' : World} (h : Later w w') (k : Later w' w'') : Later w w'' :=
 ⟨k.os.trans h.os, k.tape.trans h.tape, k.output.trans h.output, Qq h.size k.size, fun a => (k.fz a).trans (h.fz a), fun n hn => (k.old n (Zb hn h.size)).trans (h.old n hn)⟩
theorem Qe2 {S : Nat → Prop} {w : World} {O : OInfo} {hp : List Blk} (h : Mat S w O hp) : ∀ k, Own O k → k < w.heap.size := fun k ⟨id, g, ho⟩ => (h.own id g k ho).1
theorem Qod {S : Nat → Prop} {w w' : World} {O : OInfo} {hp : List Blk} (h : Mat S w O hp) (hl : Later w w') : Mat S w' O hp :=
 h.keep (hl.evol h.lt (Qe2 h)).ext hl.size (fun b hb => hl.old b (Qe2 h b hb)) (fun k hk => Zb (h.lt k hk) hl.size) fun k hk ⟨id, g, ho⟩ => (h.own id g k ho).2 hk
theorem Qsx {S : Nat → Prop} {w : World} {O : OInfo} : ∀ (ps : List Tmp) (x : List V) (cx : List Value) (fr : Nat → V) (a : Act), FrM S w O fr a → x.length = ps.length → cx.length = ps.length → (∀ p ∈ ps, p < a.tmps.size) → RepL (fun _ => False) w noO x cx →
  FrM S w O (updL fr ps x) { a with tmps := (ps.zip cx).foldl (fun t (p, v) => t.setIfInBounds p v) a.tmps }
 | [], x, cx, fr, a, h, hx, hc, hp, hr => by
  have : x = [] := Qt (by simpa using hx)
  subst this
  simpa [updL] using h
 | p :: ps, [], cx, fr, a, h, hx, hc, hp, hr => by simp at hx
 | p :: ps, v :: x, [], fr, a, h, hx, hc, hp, hr => by simp at hc
 | p :: ps, v :: x, c :: cx, fr, a, h, hx, hc, hp, hr => by
  simp only [RepL] at hr
  have hrep : Rep S w O v c := Qot (Rep.ext (S := fun _ => False) ⟨fun _ h => h.elim, fun _ _ _ h => by cases h⟩ _ _ hr.1)
  have h1 := FrM.put (dst := some p) (c := c) h (Ext.refl _ _ _) (fun d hd => by cases hd; exact hp p (by simp)) hrep
  have := Qsx ps x cx (upd fr (some p) v) (a.put (some p) c) h1 (by simpa using hx) (by simpa using hc) (fun q hq => by rw [Qcx]; exact hp q (by simp [hq])) hr.2
  simpa [updL, Act.put] using this
theorem Qpy : ∀ (l : List (Tmp × Value)) (t : Array Value), (l.foldl (fun t (p, v) => t.setIfInBounds p v) t).size = t.size
 | [], t => rfl
 | (p, v) :: l, t => by simp [Qpy l]
theorem Qvv : ∀ (l : List (Tmp × Value)) (t : Array Value) (k : Nat), (∀ p ∈ l, p.1 ≠ k) → (l.foldl (fun t (p, v) => t.setIfInBounds p v) t).getD k undef = t.getD k undef
 | [], t, k, _ => rfl
 | (p, v) :: l, t, k, h => by
  rw [List.foldl_cons, Qvv l _ k fun q hq => h q (by simp [hq])]
  have : p ≠ k := h (p, v) (by simp)
  simp [Array.getElem?_setIfInBounds_ne this]
def Qr2 (Γ : Gam) (P : Program) (M : FrI) (F : Fence) (n lo : Nat) (top : Nat) (r' : RC) (c : Code) : Prop :=
 ∀ (C : Ctx) (base : Nat), CtxOk P F n M C lo top base → ∀ (Q : Exit → St → Prop) (Q' : Exit → Act → World → Prop) (σ : St) (S : Nat → Prop) (w : World) (O : OInfo) (a : Act),
  wpR Γ (Qbh P) r' Q σ → At C M S w O σ a → (∀ e σ' S' w' O' a', Q e σ' → At C M S' w' O' σ' a' → Q' e a' w') → c.wpIn F n P Q' a w
theorem Qtb (hF : Qcz F) (l : Nat) : Qcz (F.inRound l) := hF
set_option maxHeartbeats 1000000 in
theorem Qx8 (hG : GOk P Γ) (hF : Qcz F) (hC : CtxOk P F n M C lo 1 base) {f0 : Operand} {f : Od} (hf : rOd P 0 f0 = some f) {ps : Array Tmp} {lo' : Nat} (hlo : lo ≤ lo') (hps : ∀ p ∈ ps.toList, p < M.n ∧ M.md ≤ p) {b' a' : RC} {cx cy : Code}
  (hb : ∀ l, Qr2 Γ P M (F.inRound l) (n - 1 - 1) lo' 0 b' cx) (ha : ∀ l, Qr2 Γ P M (F.inRound l) (n - 1 - 1) lo' 0 a' cy)
  {Q : Exit → St → Prop} {Q' : Exit → Act → World → Prop} {σ : St} {S : Nat → Prop} {w : World} {O : OInfo} {a : Act} (hw : wpR Γ (Qbh P) (.rfn f ps.toList lo' b' a') Q σ) (hat : At C M S w O σ a)
  (hQ : ∀ e σ' S' w' O' a', Q e σ' → At C M S' w' O' σ' a' → Q' e a' w') : (Code.rangeFunc f0 ps cx cy).wpIn F n P Q' a w := by
 simp only [wpR] at hw
 have hrf := Zad hat.sr.fr hf
 split at hw
 ·rename_i gf caps hfv
  rw [hfv] at hrf
  split at hw
  ·rename_i ok ys hΓ
   obtain ⟨hg6, hok, href, hlen, I, hI0, hround, hdone⟩ := hw
   simp only [Rep] at hrf
   obtain ⟨ccs, hcf, hcn, hcr⟩ := hrf
   obtain ⟨hen, hit⟩ := hG.iter gf _ ys hg6 (by rw [hΓ]; exact hok) (by rw [hΓ])
   have hat1 := hat.drp hC hlo
   obtain ⟨S1, hS1⟩ : ∃ S1, S1 = cutS S O lo' := ⟨_, rfl⟩
   obtain ⟨O1, hO1⟩ : ∃ O1, O1 = Qex O lo' := ⟨_, rfl⟩
   obtain ⟨fr0, hfr0⟩ : ∃ fr0 : Nat → V, fr0 = fun t => cutV σ.hp lo' (σ.fr t) := ⟨_, rfl⟩
   rw [← hS1, ← hO1, ← hfr0] at hat1
   rw [← hfr0] at hround hdone
   have hO1lt : ∀ id x, O1 id = some x → id < lo' := fun id x h => by rw [hO1] at h; exact (Qcb h).1
   have hSS1 : ∀ m, S m → S1 m := fun m h => by rw [hS1]; exact .inl h
   refine wpIn_rangeFunc ?_
   intro fn hfn
   rw [hC.rnd rfl]
   obtain ⟨rec, hrec⟩ : ∃ rec : LoopState → Option Code → Loop, rec = fun st pe => { state := st, pending := pe, fn, tmps := a.tmps, params := ps, assign := cx, body := cy, defers := w.heap.size } := ⟨_, rfl⟩
   obtain ⟨W1, hW1⟩ : ∃ W1, (w.alloc (.deferred (some []))).alloc (.loop (rec .ready none)) = W1 := ⟨_, rfl⟩
   obtain ⟨L, hL⟩ : ∃ L, L = w.heap.size + 1 := ⟨_, rfl⟩
   have hL1 : W1.heap[L]? = some (.loop (rec .ready none)) := by
    rw [← hW1, hL]; have := World.alloc_heap_new (w.alloc (.deferred (some []))) (.loop (rec .ready none)); rwa [World.size_alloc] at this
   have hlat : Later w W1 := by rw [← hW1]; exact (Qe1 w _ rfl).trans (Qe1 _ _ rfl)
   have hbase := hC.big rfl hat.ctx
   obtain ⟨J, hJ⟩ : ∃ J : Nat → World → Prop, J = fun k W => ∃ S2 O2 hp, I k hp ∧ C S2 W O2 (col w.heap.size :: a.defers) (ghO hp) ∧ FrM S2 W O2 fr0 a ∧ Mat S2 W O2 hp ∧ (∀ id x, O2 id = some x → id < lo') ∧ ¬ S2 L ∧ ¬ Own O2 L ∧
    W.heap[L]? = some (.loop (rec .ready none)) ∧ (∀ m, S m → S2 m ∧ W.heap[m]? = w.heap[m]?) ∧ W1.heap.size ≤ W.heap.size := ⟨_, rfl⟩
   obtain ⟨Jx, hJx⟩ : ∃ Jx : Nat → World → Prop, Jx = fun _ W => ∃ id S2 O2 hp, Q (.exit id) ⟨fr0, hp⟩ ∧ C S2 W O2 (col w.heap.size :: a.defers) (ghO hp) ∧ FrM S2 W O2 fr0 a ∧ Mat S2 W O2 hp ∧ ¬ S2 L ∧ ¬ Own O2 L ∧
    W.heap[L]? = some (.loop (rec .done (some (.exit id)))) ∧ (∀ m, S m → S2 m ∧ W.heap[m]? = w.heap[m]?) ∧ W1.heap.size ≤ W.heap.size := ⟨_, rfl⟩
   have hJl : ∀ k W W', J k W → Later W W' → J k W' := by
    intro k W W' h hl
    rw [hJ] at h ⊢
    obtain ⟨S2, O2, hp, h1, h2, h3, h4, h5, h6, h7, h8, h9, h10⟩ := h
    have ev := hl.evol h4.lt (Qe2 h4)
    refine ⟨S2, O2, hp, h1, hC.evol h2 h4.lt ev (fun _ h => h), h3.ext ev.ext, Qod h4 hl, h5, h6, h7, (hl.old L (Array.getElem?_eq_some_iff.1 h8).1).trans h8, fun m hm => ⟨(h9 m hm).1, ?_⟩, Qq h10 hl.size⟩
    rw [hl.old m (h4.lt m (h9 m hm).1)]
    exact (h9 m hm).2
   have hJxl : ∀ k W W', Jx k W → Later W W' → Jx k W' := by
    intro k W W' h hl
    rw [hJx] at h ⊢
    obtain ⟨id, S2, O2, hp, h1, h2, h3, h4, h6, h7, h8, h9, h10⟩ := h
    have ev := hl.evol h4.lt (Qe2 h4)
    refine ⟨id, S2, O2, hp, h1, hC.evol h2 h4.lt ev (fun _ h => h), h3.ext ev.ext, Qod h4 hl, h6, h7, (hl.old L (Array.getElem?_eq_some_iff.1 h8).1).trans h8, fun m hm => ⟨(h9 m hm).1, ?_⟩, Qq h10 hl.size⟩
    rw [hl.old m (h4.lt m (h9 m hm).1)]
    exact (h9 m hm).2
   have hJ0 : J 0 W1 := by
    rw [hJ]
    have ev := hlat.evol hat1.sr.mat.lt (Qe2 hat1.sr.mat)
    refine ⟨S1, O1, cutH lo' σ.hp, hI0, ?_, hat1.sr.fr.ext ev.ext, Qod hat1.sr.mat hlat, hO1lt, fun h => ?_, fun h => ?_, hL1, fun m hm => ⟨hSS1 m hm, hlat.old m (hat.sr.mat.lt m hm)⟩, Qj _⟩
    ·rw [← hW1]
     exact hC.enter rfl hat1.ctx hat1.sr.mat.lt (Qe2 hat1.sr.mat)
    ·have := hat1.sr.mat.lt L h; omega
    ·have := Qe2 hat1.sr.mat L h; omega
   have hbL : base ≤ L := by omega
   refine ⟨L, [{ target := .collected w.heap.size, args := #[] }], W1, { target := .fn (.func gf) ccs, args := #[.func (.yield L) #[] #[]] }, W1, gf,
    #[.func (.yield L) #[] #[]] ++ ccs, W1, ?_, ?_, ?_, ?_, fun h => by simp [hF.2.1] at h, ?_⟩
   ·rw [← hW1, hrec, hL]; exact run_enterLoop_outer _ _ _ _ _
   ·simp only [resolve, hcf]
    simp [go_sem]
   ·intro f' hf'; exact hF.1 f'
   ·simp only [invoke]; exact hen _ _
   ·refine (hit F (n - 1) S W1 ccs L J Jx hF (hC.rnd rfl) (fun m hm => Zb (hat.sr.mat.lt m hm) hlat.size) (by simpa using hcn) ?_ hJl hJxl ?_ ?_ hJ0).mono ?_
    ·have h0 := Qja (hp := σ.hp) _ _ href hcr
     exact RepL.ext ⟨fun m hm => ⟨hm, hlat.old m (hat.sr.mat.lt m hm)⟩, fun _ _ _ h => by cases h⟩ _ _ h0
    ·rintro k W (h | h)
     ·rw [hJ] at h
      obtain ⟨S2, O2, hp, h1, h2, h3, h4, h5, h6, h7, h8, h9, h10⟩ := h
      exact ⟨h10, fun m hm => (h9 m hm).2.trans (hlat.old m (hat.sr.mat.lt m hm)).symm⟩
     ·rw [hJx] at h
      obtain ⟨id, S2, O2, hp, h1, h2, h3, h4, h6, h7, h8, h9, h10⟩ := h
      exact ⟨h10, fun m hm => (h9 m hm).2.trans (hlat.old m (hat.sr.mat.lt m hm)).symm⟩
    ·
     intro k x W cxs hx h hxr hxs
     rw [hJ] at h
     obtain ⟨S2, O2, hp, h1, h2, h3, h4, h5, h6, h7, h8, h9, h10⟩ := h
     have hxl : x.length = ps.size := by have := hlen x (Qx hx); simpa using this
     have hy := run_yield (P := P) (args := cxs) h8 (by rw [hrec]; show cxs.size = ps.size; omega)
     rw [hrec] at hy
     refine ⟨fn, _, cx, cy, hy, roundIn_of_wpIn hfn ?_⟩
     obtain ⟨Cb, hCb⟩ : ∃ Cb : Loop → Ctx, Cb = fun r S' W' O' ds' h' => ds' = [] ∧ C S' W' O' (col w.heap.size :: a.defers) h' ∧ ExtN lo' S2 S' W W' O2 O' ∧ ¬ S' L ∧ ¬ Own O' L ∧ W'.heap[L]? = some (.loop r) ∧ W.heap.size ≤ W'.heap.size := ⟨_, rfl⟩
     have hCbOk : ∀ r, CtxOk P (F.inRound L) (n - 1 - 1) M (Cb r) lo' 0 0 := by
      intro r
      rw [hCb]
      refine ⟨?_, ?_, fun h => (by cases h), fun h => (by cases h), fun h => (by cases h), fun h => (by cases h), fun h => (by cases h), fun h => (by cases h)⟩
      ·rintro S' S'' W' W'' O' O'' ds g g' ⟨k1, k2, k3, k4, k5, k6, k7⟩ hlt ev hg
       have hLlt := (Array.getElem?_eq_some_iff.1 k6).1
       refine ⟨k1, hC.evol k2 hlt ev hg, k3.then ev.ext, fun hS => ?_, fun hO => ?_, (ev.old L hLlt k5).trans k6, Qq k7 ev.size⟩
       ·rcases ev.grow L hS with h | h | h
        ·exact k4 h
        ·exact k5 h
        ·omega
       ·rcases ev.fresh L hO with h | h
        ·exact k5 h
        ·omega
      ·rintro S' W' O' ds g g' kk ⟨k1, k2, k3, k4, k5, k6, k7⟩ hkk hg
       refine ⟨k1, hC.cut k2 (Qq hlo hkk) (fun hl => hg (Qq hl hlo)), k3.cut hkk, ?_, fun ⟨id, g2, ho⟩ => k5 ⟨id, g2, (Qcb ho).2⟩, k6, k7⟩
       rintro (h | ⟨id, g2, ho⟩)
       ·exact k4 h
       ·exact k5 ⟨id, g2, (Qc6 ho).2⟩
     have hpsz : ∀ p ∈ ps.toList, p < a.tmps.size := fun p hp => by rw [hat.sr.size]; exact (hps p hp).1
     refine hb L (Cb (rec .ready none)) 0 (hCbOk _) _ _ ⟨updL fr0 ps.toList x, hp⟩ S2 W O2 _ (hround k x hp hx h1) ⟨?_, ⟨?_, ?_, ?_, h4⟩⟩ ?_
     ·rw [hCb]; exact ⟨rfl, h2, ExtN.refl _ _ _ _, h6, h7, h8, Qj _⟩
     ·show ((ps.zip cxs).foldl (fun t (x : Tmp × Value) => t.setIfInBounds x.1 x.2) a.tmps).size = _
      rw [← Array.foldl_toList, Qpy, hat.sr.size]
     ·intro t ht
      show ((ps.zip cxs).foldl (fun t (x : Tmp × Value) => t.setIfInBounds x.1 x.2) a.tmps).getD t undef = _
      rw [← Array.foldl_toList, Qvv]
      ·exact hat.sr.kept t ht
      ·rintro ⟨p, v⟩ hpv
       have : p ∈ ps.toList := by
        rw [Array.toList_zip] at hpv
        exact (List.of_mem_zip hpv).1
       have := (hps p this).2
       intro h
       have h : p = t := h
       rw [h] at this
       exact absurd this (Nat.not_le.2 ht)
     ·have := Qsx ps.toList x cxs.toList fr0 { tmps := a.tmps, defers := [] } h3 (by simpa using hxl) (by simp; omega) hpsz hxr
      have e : (ps.zip cxs).foldl (fun t (x : Tmp × Value) => t.setIfInBounds x.1 x.2) a.tmps = (ps.toList.zip cxs.toList).foldl (fun t (x : Tmp × Value) => t.setIfInBounds x.1 x.2) a.tmps := by
       rw [← Array.foldl_toList, Array.toList_zip]
      show FrM S2 W O2 (updL fr0 ps.toList x) { tmps := (ps.zip cxs).foldl (fun t (x : Tmp × Value) => t.setIfInBounds x.1 x.2) a.tmps, defers := [] }
      rw [e]
      exact this
     ·
      intro e σ1 S3 W3 O3 a3 he hat3
      cases e <;> first | exact he.elim | skip
      have hctx3 := hat3.ctx
      rw [hCb] at hctx3
      obtain ⟨k1, k2, k3, k4, k5, k6, k7⟩ := hctx3
      have hbeg := run_beginRound (P := P) k6 (by rw [hrec])
      refine ⟨_, hbeg, ?_⟩
      have hL3 := (Array.getElem?_eq_some_iff.1 k6).1
      refine ha L (Cb { rec .ready none with state := .busy }) 0 (hCbOk _) _ _ σ1 S3 _ O3 a3 he ⟨?_, Qm8 hat3.sr _ k4 k5⟩ ?_
      ·rw [hCb]
       exact ⟨k1, hC.turn rfl k2 k6 k4 k5 hbL, k3.then (Qkk _ k4 k5), k4, k5, World.putObj_heap_same hL3, by simpa using k7⟩
      ·
       intro e σ5 S5 W5 O5 a5 he5 hat5
       have hctx5 := hat5.ctx
       rw [hCb] at hctx5
       obtain ⟨m1, m2, m3, m4, m5, m6, m7⟩ := hctx5
       have hL5 := (Array.getElem?_eq_some_iff.1 m6).1
       have c4 : ¬ cutS S5 O5 lo' L := by
        rintro (h | ⟨id, g2, ho⟩)
        ·exact m4 h
        ·exact m5 ⟨id, g2, (Qc6 ho).2⟩
       have c5 : ¬ Own (Qex O5 lo') L := fun ⟨id, g2, ho⟩ => m5 ⟨id, g2, (Qcb ho).2⟩
       have hc := hC.cut (h' := ghO (cutH lo' σ5.hp)) m2 hlo fun hl y hy => Qvz hy (by omega)
       have hx5 : Ext S2 (cutS S5 O5 lo') W W5 O2 (Qex O5 lo') := (m3.cut (Qj _)).ext h5
       have common : ∀ r : Loop, C (cutS S5 O5 lo') (W5.putObj L (.loop r)) (Qex O5 lo') (col w.heap.size :: a.defers) (ghO (cutH lo' σ5.hp)) ∧ FrM (cutS S5 O5 lo') (W5.putObj L (.loop r)) (Qex O5 lo') fr0 a ∧
         Mat (cutS S5 O5 lo') (W5.putObj L (.loop r)) (Qex O5 lo') (cutH lo' σ5.hp) := fun r =>
        ⟨hC.turn rfl hc m6 c4 c5 hbL, (h3.ext hx5).ext (Qkk _ c4 c5), Qt5 (Qv4 hat5.sr.mat lo') _ c4 c5⟩
       have hrdy : ∀ jump : Option Code, ({ ({ rec .ready none with state := .busy } : Loop) with state := if jump.isNone then .ready else .done, pending := jump } : Loop) = rec (if jump.isNone then .ready else .done) jump := by
        intro jump; rw [hrec]
       cases e <;> first | exact he5.elim | skip
       case normal =>
        obtain ⟨c1, c2, c3⟩ := common (rec .ready none)
        refine ⟨_, _, run_endRound (P := P) none m6, .inl ⟨rfl, ?_⟩⟩
        rw [hrdy none, hJ]
        simp only [Option.isNone_none, if_true]
        refine ⟨_, _, cutH lo' σ5.hp, he5, c1, c2, c3, fun id x h => (Qcb h).1, c4, c5, World.putObj_heap_same hL5, fun m hm => ?_, ?_⟩
        ·have := hx5.keep m (h9 m hm).1
         refine ⟨this.1, ?_⟩
         rw [World.putObj_heap_other (by rintro rfl; exact c4 this.1), this.2]
         exact (h9 m hm).2
        ·have : W1.heap.size ≤ W5.heap.size := Qq h10 m7
         simpa using this
       case exit id =>
        obtain ⟨c1, c2, c3⟩ := common (rec .done (some (.exit id)))
        refine ⟨_, _, run_endRound (P := P) (some (.exit id)) m6, .inr ⟨rfl, ?_⟩⟩
        rw [hrdy (some (.exit id)), hJx]
        simp only [Option.isNone_some, Bool.false_eq_true, if_false]
        refine ⟨id, _, _, cutH lo' σ5.hp, he5, c1, c2, c3, c4, c5, World.putObj_heap_same hL5, fun m hm => ?_, ?_⟩
        ·have := hx5.keep m (h9 m hm).1
         refine ⟨this.1, ?_⟩
         rw [World.putObj_heap_other (by rintro rfl; exact c4 this.1), this.2]
         exact (h9 m hm).2
        ·have : W1.heap.size ≤ W5.heap.size := Qq h10 m7
         simpa using this
    ·
     rintro e W2 ⟨⟨v, rfl⟩, h | ⟨k, h⟩⟩
     ·rw [hJ] at h
      obtain ⟨S2, O2, hp, h1, h2, h3, h4, h5, h6, h7, h8, h9, h10⟩ := h
      refine ⟨none, _, by have := run_endLoop (P := P) h8 (by rw [hrec]; simp); rw [hrec] at this; exact this, ?_⟩
      have s := Qm8 (σ := ⟨fr0, hp⟩) ⟨hat.sr.size, hat.sr.kept, h3, h4⟩ (.loop { rec .ready none with state := .exhausted }) h6 h7
      rw [hrec] at s
      exact hQ _ ⟨fr0, hp⟩ S2 _ O2 _ (hdone hp h1) ⟨hC.turn rfl h2 h8 h6 h7 hbL, ⟨s.size, s.kept, s.fr, s.mat⟩⟩
     ·rw [hJx] at h
      obtain ⟨id, S2, O2, hp, h1, h2, h3, h4, h6, h7, h8, _, _⟩ := h
      refine ⟨some (.exit id), _, by have := run_endLoop (P := P) h8 (by rw [hrec]; simp); rw [hrec] at this; exact this, ?_⟩
      have s := Qm8 (σ := ⟨fr0, hp⟩) ⟨hat.sr.size, hat.sr.kept, h3, h4⟩ (.loop { rec .done (some (.exit id)) with state := .exhausted }) h6 h7
      rw [hrec] at s
      exact wpIn_exit (hQ _ ⟨fr0, hp⟩ S2 _ O2 _ h1 ⟨hC.turn rfl h2 h8 h6 h7 hbL, ⟨s.size, s.kept, s.fr, s.mat⟩⟩)
  ·exact hw.elim
 ·exact hw.elim
theorem Qqv {α : Type} {l : List α} {i : Nat} {x : α} (h : l[i]? = some x) : l.set i x = l := by
 apply Zv
 intro j
 rw [List.getElem?_set]
 split
 ·rename_i e; subst e
  split
  ·exact h.symm
  ·rename_i hl; rw [Zl (by omega)]
 ·rfl
theorem Qme (hG : GOk P Γ) (hm : P.follows .mixedOrders = true) :
    ∀ (r : RC) (c : Code) (r' : RC) (F : Fence) (n lo : Nat) (top : Nat), Qcz F → comp P pu M.nm lo top r c = some r' → Qr2 Γ P M F n lo top r' c := by
  intro r
  induction r with
  | no =>
    intro c r' F n lo top hF hc C base hC Q Q' σ S w O a hw hat hQ
    simp only [comp, Qf.injEq] at hc
    subst hc
    exact hw.elim
  | skip =>
    intro c r' F n lo top hF hc C base hC Q Q' σ S w O a hw hat hQ
    cases c <;> (try simp only [comp] at hc) <;> try (cases hc; done)
    cases hc
    exact wpIn_skip (hQ _ _ _ _ _ _ hw hat)
  | reg g l =>
    intro c r' F n lo top hF hc C base hC Q Q' σ S w O a hw hat hQ
    cases c <;> (try simp only [comp] at hc) <;> try (cases hc; done)
    case region id ops draw =>
      cases draw <;> (try simp only [comp] at hc) <;> try (cases hc; done)
      split at hc
      · rename_i hgd
        rw [Qa] at hc
        obtain ⟨rs, hrs, rfl⟩ := hc
        have hmap := Qeb hrs
        have hRO : Qup P pu M.nm ops rs := by
          unfold Qup
          rw [hmap]
          apply List.map_congr_left
          intro x hx
          obtain ⟨i, hi⟩ := Qp hx
          have h1 := congrArg (fun l => l[i]?) hmap
          simp only [Qh, hi, Qd] at h1
          rw [Qa] at h1
          obtain ⟨o, _, ho⟩ := h1
          have := Qou ho
          cases x; simp_all
        refine Qrx hG hF hRO (g := g) (base := 0) ?_ hw hat.sr ?_
        · intro hg o ho
          subst hg
          simp only [Q2, Qd9] at hgd
          have := Array.all_eq_true_iff_forall_mem.1 hgd o ho
          simpa using this
        · intro τ S' w' O' a' hK hgh hev hsr hd
          exact hQ _ _ _ _ _ _ hK ⟨by rw [hd]; exact hC.evol hat.ctx hat.sr.mat.lt hev hgh, hsr⟩
      · cases hc
  | nxt d m it =>
    intro c r' F n lo top hF hc C base hC Q Q' σ S w O a hw hat hQ
    cases c <;> (try simp only [comp] at hc) <;> try (cases hc; done)
    case region id ops draw =>
      cases draw <;> (try simp only [comp] at hc) <;> try (cases hc; done)
      split at hc
      · rename_i o1 o2 hops
        split at hc
        · rename_i hx
          cases hc
          refine Qws hF (M := M) (N := M.nm) hops hx hw hat.sr ?_
          intro σ' w' a' hK hev hgh hsr hd
          exact hQ _ _ _ _ _ _ hK ⟨by rw [hd]; exact hC.evol hat.ctx hat.sr.mat.lt hev hgh, hsr⟩
        · cases hc
      · cases hc
  | yrg g l1 y ks l2 =>
    intro c r' F n lo top hF hc C base hC Q Q' σ S w O a hw hat hQ
    cases c <;> (try simp only [comp] at hc) <;> try (cases hc; done)
    case region id ops draw =>
      cases draw <;> (try simp only [comp] at hc) <;> try (cases hc; done)
      split at hc
      · rename_i htg
        simp only [Qb, beq_iff_eq] at htg
        obtain ⟨rfl, hgd⟩ := htg
        split at hc
        · rename_i o ho
          split at hc
          · rename_i r1 y' r2 h1 hy h2
            split at hc
            · rename_i hl
              cases hc
              have hl' : r1.length = l1.length := by simpa using hl
              rw [← hl'] at ho h1 h2
              exact Qxq hG hF hC hgd ho h1 hy h2 hw hat fun σ' S' w' O' a' => hQ _ σ' S' w' O' a'
            · cases hc
          · cases hc
        · cases hc
      · cases hc
  | hcl g l1 y l2 =>
    intro c r' F n lo top hF hc C base hC Q Q' σ S w O a hw hat hQ
    cases c <;> (try simp only [comp] at hc) <;> try (cases hc; done)
    case region id ops draw =>
      cases draw <;> (try simp only [comp] at hc) <;> try (cases hc; done)
      split at hc
      · rename_i hgd
        split at hc
        · rename_i o ho
          split at hc
          · rename_i r1 y' r2 h1 hy h2
            split at hc
            · rename_i hl
              cases hc
              have hl' : r1.length = l1.length := by simpa using hl
              rw [← hl'] at ho h1 h2
              exact Qw3 hG hF hC hgd ho h1 hy h2 hw hat fun σ' S' w' O' a' => hQ _ σ' S' w' O' a'
            · cases hc
          · cases hc
        · cases hc
      · cases hc
  | hca g m1 l1 y m2 l2 =>
    intro c r' F n lo top hF hc C base hC Q Q' σ S w O a hw hat hQ
    cases c <;> (try simp only [comp] at hc) <;> try (cases hc; done)
    case region id ops draw =>
      cases draw <;> (try simp only [comp] at hc) <;> try (cases hc; done)
      split at hc
      · rename_i hgd
        split at hc
        · rename_i o ho
          split at hc
          · rename_i r1 y1 r2 h1 hy h2
            split at hc
            · rename_i hl
              cases hc
              exact Qw2 hG hF hm hC hgd ho h1 hy h2 hl hw hat fun σ' S' w' O' a' => hQ _ σ' S' w' O' a'
            · cases hc
          · cases hc
        · cases hc
      · cases hc
  | crl g l1 y l2 =>
    intro c r' F n lo top hF hc C base hC Q Q' σ S w O a hw hat hQ
    cases c <;> (try simp only [comp] at hc) <;> try (cases hc; done)
    case region id ops draw =>
      cases draw <;> (try simp only [comp] at hc) <;> try (cases hc; done)
      split at hc
      · rename_i hgd
        split at hc
        · rename_i o ho
          split at hc
          · rename_i r1 y' r2 h1 hy h2
            split at hc
            · rename_i hl
              cases hc
              have hl' : r1.length = l1.length := by simpa using hl
              rw [← hl'] at ho h1 h2
              exact Qv2 hG hF hC hgd ho h1 hy h2 hw hat fun σ' S' w' O' a' => hQ _ σ' S' w' O' a'
            · cases hc
          · cases hc
        · cases hc
      · cases hc
  | swp i j r ih =>
    intro c r' F n lo top hF hc C base hC Q Q' σ S w O a hw hat hQ
    simp only [comp] at hc
    split at hc
    · rename_i htl
      simp only [Qb, beq_iff_eq] at htl
      rw [Qa] at hc
      obtain ⟨r1, h1, rfl⟩ := hc
      obtain ⟨hi, hj, hw⟩ := hw
      refine ih c r1 F n lo top hF h1 C base hC Q Q' _ S w (fun id => O (sw i j id)) a hw ⟨hC.ren htl.1 htl.2 hat.ctx fun k ⟨id, g, ho⟩ => ⟨_, g, ho⟩, ⟨hat.sr.size, hat.sr.kept, fun t => ?_, Zd2 hat.sr.mat hi hj⟩⟩ hQ
      exact Qos (fun id => by rw [Qzb]) _ _ (hat.sr.fr t)
    · cases hc
  | any g m l =>
    intro c r' F n lo top hF hc C base hC Q Q' σ S w O a hw hat hQ
    cases c <;> (try simp only [comp] at hc) <;> try (cases hc; done)
    case region id ops draw =>
      cases draw <;> (try simp only [comp] at hc) <;> try (cases hc; done)
      split at hc
      · rename_i hgd
        cases hrs : (ops.toList.mapM fun o => resO P pu M.nm ops o) with
        | none => simp [hrs] at hc
        | some rs =>
          simp only [hrs] at hc
          split at hc
          · rename_i hch
            cases hc
            simp only [Qb, decide_eq_true_eq] at hch
            obtain ⟨⟨h1, h2⟩, h3⟩ := hch
            have hmap := Qeb hrs
            have hAO : Quo P pu M.nm ops (rs.zipWith (fun r (x : AnyOp) => (⟨{ r with nid := x.o.nid }, x.js, x.an⟩ : AnyOp)) l) := by
              unfold Quo
              rw [hmap]
              refine Zv fun i => ?_
              simp only [Qh, Zn]
              cases hi : rs[i]? with
              | none => simp
              | some x =>
                have hlt := Qav hi
                have hll : i < l.length := by
                  rw [List.length_zipWith] at h3; omega
                simp only [Qd, Qg hll, Qf.injEq]
                have h1 := congrArg (fun l => l[i]?) hmap
                simp only [Qh, hi, Qd] at h1
                rw [Qa] at h1
                obtain ⟨o, _, ho⟩ := h1
                have := Qou ho
                cases x; simp_all
            refine Qui hG hF hm hAO h1 h2 (g := g) (base := σ.hp.length) ?_ hw ⟨hat.sr.size, hat.sr.kept, hat.sr.fr, Qi4 hat.sr.mat _⟩ ?_
            · intro hg o ho
              subst hg
              simp only [Q2, Qd9] at hgd
              have := Array.all_eq_true_iff_forall_mem.1 hgd o ho
              simpa using this
            · intro τ S' w' O' a' hK hgh hev hsr hd
              exact hQ _ _ _ _ _ _ hK ⟨by rw [hd]; exact hC.evol hat.ctx hat.sr.mat.lt hev fun y hy => hgh y (Qg2 hy), hsr⟩
          · cases hc
      · cases hc
  | seq r1 r2 ih1 ih2 =>
    intro c r' F n lo top hF hc C base hC Q Q' σ S w O a hw hat hQ
    cases c <;> (try simp only [comp] at hc) <;> try (cases hc; done)
    case seq x y =>
      cases h1 : comp P pu M.nm lo top r1 x with
      | none => simp [h1] at hc
      | some a1 =>
        cases h2 : comp P pu M.nm lo top r2 y with
        | none => simp [h1, h2] at hc
        | some a2 =>
          simp only [h1, h2, Qf.injEq] at hc
          subst hc
          refine wpIn_seq (ih1 x a1 F n lo top hF h1 C base hC _ _ σ S w O a hw hat ?_)
          intro e σ' S' w' O' a' he hat'
          cases e <;> first | exact hQ _ _ _ _ _ _ he hat' | skip
          exact ih2 y a2 F n lo top hF h2 C base hC _ _ σ' S' w' O' a' he hat' hQ
  | mid r1 r2 ih1 ih2 =>
    intro c r' F n lo top hF hc C base hC Q Q' σ S w O a hw hat hQ
    cases c <;> (try simp only [comp] at hc) <;> try (cases hc; done)
    case seq x y =>
      cases h1 : comp P pu M.nm lo top r1 x with
      | none => simp [h1] at hc
      | some a1 =>
        cases h2 : comp P pu M.nm lo top r2 y with
        | none => simp [h1, h2] at hc
        | some a2 =>
          simp only [h1, h2, Qf.injEq] at hc
          subst hc
          obtain ⟨Mid, hw1, hw2⟩ := hw
          refine wpIn_seq (ih1 x a1 F n lo top hF h1 C base hC _ _ σ S w O a hw1 hat ?_)
          intro e σ' S' w' O' a' he hat'
          cases e <;> first | exact hQ _ _ _ _ _ _ he hat' | skip
          exact ih2 y a2 F n lo top hF h2 C base hC _ _ σ' S' w' O' a' (hw2 _ he) hat' hQ
  | cond k r1 r2 ih1 ih2 =>
    intro c r' F n lo top hF hc C base hC Q Q' σ S w O a hw hat hQ
    cases c <;> (try simp only [comp] at hc) <;> try (cases hc; done)
    case cond k' x y =>
      cases h0 : rOd P 0 k' with
      | none => simp [h0] at hc
      | some k1 =>
        cases h1 : comp P pu M.nm lo top r1 x with
        | none => simp [h0, h1] at hc
        | some a1 =>
          cases h2 : comp P pu M.nm lo top r2 y with
          | none => simp [h0, h1, h2] at hc
          | some a2 =>
            simp only [h0, h1, h2, Qf.injEq] at hc
            subst hc
            simp only [wpR] at hw
            cases hk : evO σ.fr k1 <;> simp only [hk] at hw <;> try exact hw.elim
            case b t =>
              refine wpIn_cond_split (Qy1 hat.sr.fr h0 hk) (fun ht => ?_) (fun ht => ?_)
              · exact ih1 x a1 F n lo top hF h1 C base hC Q Q' σ S w O a (hw.1 ht) hat hQ
              · exact ih2 y a2 F n lo top hF h2 C base hC Q Q' σ S w O a (hw.2 ht) hat hQ
  | block id r ih =>
    intro c r' F n lo top hF hc C base hC Q Q' σ S w O a hw hat hQ
    cases c <;> (try simp only [comp] at hc) <;> try (cases hc; done)
    case block id' x =>
      rw [Qa] at hc
      obtain ⟨r1, h1, rfl⟩ := hc
      refine wpIn_block (ih x r1 F n lo top hF h1 C base hC _ _ σ S w O a hw hat ?_)
      intro e σ' S' w' O' a' he hat'
      cases e <;> first | exact hQ _ _ _ _ _ _ he hat' | skip
      case exit id'' =>
        simp only [Qaj] at he
        simp only [Exit.inBlock]
        split
        · rename_i hid; rw [if_pos hid] at he; exact hQ _ _ _ _ _ _ he hat'
        · rename_i hid; rw [if_neg hid] at he; exact hQ _ _ _ _ _ _ he hat'
  | loop l d r ih =>
    intro c r' F n lo top hF hc C base hC Q Q' σ S w O a hw hat hQ
    cases c <;> (try simp only [comp] at hc) <;> try (cases hc; done)
    case loop x =>
      by_cases hlo : dOk lo d = true
      · rw [if_pos hlo] at hc
        rw [Qa] at hc
        obtain ⟨r1, h1, rfl⟩ := hc
        have hd : ∀ k, d = some k → lo ≤ k := by
          rintro k rfl
          exact of_decide_eq_true hlo
        obtain ⟨I, ⟨k0, h0⟩, hround⟩ := hw
        obtain ⟨S1, O1, hat1⟩ := hat.kp hC l d hd
        refine Qum (fun k a w => ∃ σ S O, I k σ ∧ At C M S w O σ a) ⟨k0, _, S1, O1, h0, hat1⟩ ?_
        rintro k a1 w1 ⟨σ1, S1, O1, hI, hat1⟩
        refine ih x r1 F n lo top hF h1 C base hC _ _ σ1 S1 w1 O1 a1 (hround k σ1 hI) hat1 ?_
        intro e σ' S' w' O' a' he hat'
        cases e <;> first | exact hQ _ _ _ _ _ _ he hat' | skip
        obtain ⟨j, hj, hI'⟩ := he
        obtain ⟨S2, O2, hat2⟩ := hat'.kp hC l d hd
        exact ⟨j, hj, _, S2, O2, hI', hat2⟩
      · rw [if_neg hlo] at hc; cases hc
  | exit id =>
    intro c r' F n lo top hF hc C base hC Q Q' σ S w O a hw hat hQ
    cases c <;> (try simp only [comp] at hc) <;> try (cases hc; done)
    cases hc
    exact wpIn_exit (hQ _ _ _ _ _ _ hw hat)
  | ret =>
    intro c r' F n lo top hF hc C base hC Q Q' σ S w O a hw hat hQ
    cases c <;> (try simp only [comp] at hc) <;> try (cases hc; done)
    exact wpIn_ret (hQ _ _ _ _ _ _ (by cases hc; exact hw) hat)
  | keep l r ih =>
    intro c r' F n lo top hF hc C base hC Q Q' σ S w O a hw hat hQ
    simp only [comp] at hc
    rw [Qa] at hc
    obtain ⟨r1, h1, rfl⟩ := hc
    exact ih c r1 F n lo top hF h1 C base hC Q Q' _ S w O a hw (hat.keep l) hQ
  | drp k r ih =>
    intro c r' F n lo top hF hc C base hC Q Q' σ S w O a hw hat hQ
    simp only [comp] at hc
    split at hc
    · rename_i hlo
      rw [Qa] at hc
      obtain ⟨r1, h1, rfl⟩ := hc
      exact ih c r1 F n lo top hF h1 C base hC Q Q' _ _ w (Qex O k) a hw (hat.drp hC hlo) hQ
    · cases hc
  | own t es r ih =>
    intro c r' F n lo top hF hc C base hC Q Q' σ S w O a hw hat hQ
    simp only [comp] at hc
    rw [Qa] at hc
    obtain ⟨r1, h1, rfl⟩ := hc
    simp only [wpR] at hw
    cases ht : σ.fr t <;> simp only [ht] at hw <;> try exact hw.elim
    case z es' =>
      have hO := Qkn hat.sr.mat
      obtain ⟨hev, hmat⟩ := Qks (Qi4 hat.sr.mat [.cells 0 []]) hO (by simp) rfl
      refine ih c r1 F n lo top hF h1 C base hC Q Q' _ S w _ a hw ⟨hC.evol hat.ctx hat.sr.mat.lt hev fun y hy => Qg2 hy, ⟨hat.sr.size, hat.sr.kept, fun t' => ?_, hmat⟩⟩ hQ
      simp only [upd]
      split
      · rename_i e
        subst e
        have := hat.sr.fr t'
        rw [ht] at this
        simp only [Rep] at this ⊢
        obtain ⟨x, hx⟩ := this
        rw [hx]
        exact ⟨rfl, 0, none, (by simp [updO]), Qj _, fun _ => .inr ⟨rfl, trivial, x, rfl⟩⟩
      · exact Rep.ext hev.ext _ _ (hat.sr.fr t')
  | ownc t off es r ih =>
    intro c r' F n lo top hF hc C base hC Q Q' σ S w O a hw hat hQ
    simp only [comp] at hc
    rw [Qa] at hc
    obtain ⟨r1, h1, rfl⟩ := hc
    simp only [wpR] at hw
    cases ht : σ.fr t <;> simp only [ht] at hw <;> try exact hw.elim
    case ad id g o =>
      cases hid : σ.hp[id]? with
      | none => simp [hid] at hw
      | some bk =>
        cases bk <;> simp only [hid] at hw <;> try exact hw.elim
        case cells g' vs =>
          cases hv : vs[o + off]? with
          | none => simp [hv] at hw
          | some v =>
            cases v <;> simp only [hv] at hw <;> try exact hw.elim
            case z es' =>
              obtain ⟨rfl, hw⟩ := hw
              have hO := Qkn hat.sr.mat
              have hidlt := Qav hid
              obtain ⟨hev, hmat⟩ := Qks (Qi4 hat.sr.mat [.cells 0 []]) hO (by simp) rfl
              refine ih c r1 F n lo top hF h1 C base hC Q Q' _ S w _ a hw ⟨hC.evol hat.ctx hat.sr.mat.lt hev fun y hy => Qg2 (Qla hy hid fun _ _ h => by cases h), ⟨hat.sr.size, hat.sr.kept, hat.sr.fr.ext hev.ext, ?_⟩⟩ hQ
              refine ⟨hmat.lt, hmat.own, hmat.inj, fun j gj ob hj => ?_⟩
              have hb := hmat.blk j gj ob hj
              by_cases hji : j = id
              · subst hji
                rw [Qi (by rw [Q4]; exact hidlt), Qv hidlt]
                rw [Qi hidlt, hid] at hb
                simp only [Qbu] at hb ⊢
                refine ⟨hb.1, ?_⟩
                cases ob with
                | none => have := hb.2; simp only at this; rw [this] at hv; simp at hv
                | some b =>
                  obtain ⟨cur, e, hh, hrl, hone⟩ := hb.2
                  refine ⟨cur, e, hh, ?_, hone⟩
                  obtain ⟨cc, hcc, hrep⟩ := RepL.get _ _ _ _ hrl hv
                  have hrep2 : Rep S w (updO O σ.hp.length (0, none)) (.rf σ.hp.length 0 0 0 es) cc := by
                    simp only [Rep] at hrep ⊢
                    obtain ⟨x, hx⟩ := hrep
                    rw [hx]
                    exact ⟨rfl, 0, none, (by simp [updO]), Qj _, fun _ => .inr ⟨rfl, trivial, x, rfl⟩⟩
                  have := RepL.set (o + off) vs cur.toList _ cc hrl hrep2
                  rwa [Qqv hcc] at this
              · have e1 : (σ.hp.set id (Blk.cells g' (vs.set (o + off) (.rf σ.hp.length 0 0 0 es))) ++ [Blk.cells 0 []])[j]? = (σ.hp ++ [Blk.cells 0 []])[j]? := by
                  rw [Q1, Q1, Q4, Q0 (Ne.symm hji)]
                rw [e1]; exact hb
  | owni t i off es r ih =>
    intro c r' F n lo top hF hc C base hC Q Q' σ S w O a hw hat hQ
    simp only [comp] at hc
    rw [Qa] at hc
    obtain ⟨r1, h1, rfl⟩ := hc
    simp only [wpR] at hw
    cases ht : σ.fr t <;> simp only [ht] at hw <;> try exact hw.elim
    case rf id g o len es' =>
     cases hi : σ.fr i <;> simp only [hi] at hw <;> try exact hw.elim
     case i k =>
      cases hid : σ.hp[id]? with
      | none => simp [hid] at hw
      | some bk =>
        cases bk <;> simp only [hid] at hw <;> try exact hw.elim
        case cells g' vs =>
          cases hv : vs[o + k.toNat * es' + off]? with
          | none => simp [hv] at hw
          | some v =>
            cases v <;> simp only [hv] at hw <;> try exact hw.elim
            case z es2 =>
              obtain ⟨rfl, hw⟩ := hw
              have hO := Qkn hat.sr.mat
              have hidlt := Qav hid
              obtain ⟨hev, hmat⟩ := Qks (Qi4 hat.sr.mat [.cells 0 []]) hO (by simp) rfl
              refine ih c r1 F n lo top hF h1 C base hC Q Q' _ S w _ a hw ⟨hC.evol hat.ctx hat.sr.mat.lt hev fun y hy => Qg2 (Qla hy hid fun _ _ h => by cases h), ⟨hat.sr.size, hat.sr.kept, hat.sr.fr.ext hev.ext, ?_⟩⟩ hQ
              refine ⟨hmat.lt, hmat.own, hmat.inj, fun j gj ob hj => ?_⟩
              have hb := hmat.blk j gj ob hj
              by_cases hji : j = id
              · subst hji
                rw [Qi (by rw [Q4]; exact hidlt), Qv hidlt]
                rw [Qi hidlt, hid] at hb
                simp only [Qbu] at hb ⊢
                refine ⟨hb.1, ?_⟩
                cases ob with
                | none => have := hb.2; simp only at this; rw [this] at hv; simp at hv
                | some b =>
                  obtain ⟨cur, e, hh, hrl, hone⟩ := hb.2
                  refine ⟨cur, e, hh, ?_, hone⟩
                  obtain ⟨cc, hcc, hrep⟩ := RepL.get _ _ _ _ hrl hv
                  have hrep2 : Rep S w (updO O σ.hp.length (0, none)) (.rf σ.hp.length 0 0 0 es) cc := by
                    simp only [Rep] at hrep ⊢
                    obtain ⟨x, hx⟩ := hrep
                    rw [hx]
                    exact ⟨rfl, 0, none, (by simp [updO]), Qj _, fun _ => .inr ⟨rfl, trivial, x, rfl⟩⟩
                  have := RepL.set (o + k.toNat * es' + off) vs cur.toList _ cc hrl hrep2
                  rwa [Qqv hcc] at this
              · have e1 : (σ.hp.set id (Blk.cells g' (vs.set (o + k.toNat * es' + off) (.rf σ.hp.length 0 0 0 es))) ++ [Blk.cells 0 []])[j]? = (σ.hp ++ [Blk.cells 0 []])[j]? := by
                  rw [Q1, Q1, Q4, Q0 (Ne.symm hji)]
                rw [e1]; exact hb
  | rfn f ps lo' rb ra ihb iha =>
    intro c r' F n lo top hF hc C base hC Q Q' σ S w O a hw hat hQ
    cases c <;> (try simp only [comp] at hc) <;> try (cases hc; done)
    case rangeFunc f0 ps0 x y =>
      split at hc
      · rename_i hch
        simp only [Qb, decide_eq_true_eq, beq_iff_eq] at hch
        obtain ⟨⟨rfl, hlo⟩, hps⟩ := hch
        cases h0 : rOd P 0 f0 with
        | none => simp [h0] at hc
        | some f1 =>
          cases h1 : comp P pu M.nm lo' 0 rb x with
          | none => simp [h0, h1] at hc
          | some b1 =>
            cases h2 : comp P pu M.nm lo' 0 ra y with
            | none => simp [h0, h1, h2] at hc
            | some a1 =>
              simp only [h0, h1, h2, Qf.injEq] at hc
              subst hc
              refine Qx8 hG hF hC h0 hlo (fun p hp => ?_) (fun l => ihb x b1 _ _ lo' 0 (Qtb hF l) h1) (fun l => iha y a1 _ _ lo' 0 (Qtb hF l) h2) hw hat hQ
              have := Array.all_eq_true_iff_forall_mem.1 hps p (by simpa using hp)
              exact Qdy this
      · cases hc
end
end Go.Fam
