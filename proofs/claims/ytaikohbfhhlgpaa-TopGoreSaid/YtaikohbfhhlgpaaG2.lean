import Derived.Test.YtaikohbfhhlgpaaG1
set_option linter.all false
open List renaming getElem?_zip_eq_some → Qa, mem_cons → Qb, mem_append → Qc, all_eq_true → Qd, range' → Qe, getElem?_range' → Qg, getElem?_map → Qh, getElem_mem → Qj, eq_nil_of_length_eq_zero → Qk, getElem?_append_right → Ql, replicate → Qm, rel_of_pairwise_cons → Qn, pairwise_iff_getElem → Qo, Sublist → Qp, sublist_cons_self → Qq, pairwise_append → Qt, getElem?_of_mem → Qu, mem_of_getElem? → Qv, append_of_mem → Qw, pairwise_cons → Qx, range → Qy, length_cons → Qz, range'_succ → Q0
open Nat renaming le_refl → Q1
open Bool renaming and_eq_true → Qi, or_eq_true → Qs
open Option renaming map_some → Qf, map_eq_some_iff → Qr
namespace Go.Fam
inductive Anc (ops : Array Oper) : Nat → Nat → Prop
 | base {i j : Nat} {o : Oper} {e : Edge} (ho : ops[j]? = some o) (he : e ∈ o.after) (hb : Region.binds .any e = true) (h : e.on = i) : Anc ops i j
 | step {i j : Nat} {o : Oper} {e : Edge} (ho : ops[j]? = some o) (he : e ∈ o.after) (hb : Region.binds .any e = true) (h : Anc ops i e.on) : Anc ops i j
theorem Qis (S : Nat → Prop) (w : World) (O : OInfo) : Ext S S w { w with drawn := w.drawn + 1 } O O :=
 ⟨fun _ h => ⟨h, rfl⟩, fun _ g ob h => ⟨g, ob, h, Q1 _, fun _ => ⟨rfl, fun _ cur _ _ hb => ⟨cur, hb, rfl⟩⟩⟩⟩
theorem Qjb (S : Nat → Prop) (w : World) (O : OInfo) : Evol S S w { w with drawn := w.drawn + 1 } O O :=
 ⟨Qis S w O, rfl, rfl, rfl, Q1 _, fun _ _ => rfl, fun _ _ _ => rfl, fun _ h => .inl h, fun _ h => .inl h⟩
theorem Qm2 {S : Nat → Prop} {w : World} {O : OInfo} {hp : List Blk} (h : Mat S w O hp) : Mat S { w with drawn := w.drawn + 1 } O hp :=
 h.keep (Qis S w O) (Q1 _) (fun _ _ => rfl) h.lt fun k hk ⟨id, g, ho⟩ => (h.own id g k ho).2 hk
section
variable {P : Program} {F : Fence} {n : Nat} {Γ : Gam} {ops : Array Oper} {g : Bool} {base : Nat} {M : FrI} {N : Nat × Nat} {pu : List Nat}
theorem RunD.cons_split {x : Nat × RO × FP} {l : List (Nat × RO × FP)} {σ τ : St} (h : RunD Γ (Qat P) g base (x :: l) σ τ) :
  (eff Γ (Qat P) g base x.2.1 σ).1 ∧ RunD Γ (Qat P) g base l (Qbb Γ (Qat P) g base x.2.1 σ) τ := by
 obtain ⟨k, o, f⟩ := x
 exact ⟨h.1, h.2.2⟩
theorem Qmp (hG : GOk P Γ) (hF : Qbz F) (hg : g = false → ∀ o ∈ ops, o.guard = none) {Q : Exit → Act → World → Prop} {τ : St} :
  ∀ (fuel : Nat) (rest : List (Nat × RO × FP)) (listed : Array Bool) (σ : St) (S : Nat → Prop) (w : World) (O : OInfo) (a : Act),
   rest.length ≤ fuel →
   (∀ i, listed.getD i true = false ↔ ∃ x ∈ rest, x.1 = i) →
   rest.Pairwise (fun x y => x.1 < y.1 ∧ (Anc ops x.1 y.1 ∨ Qmo x y)) →
   (∀ x ∈ rest, ∃ o, ops[x.1]? = some o ∧ resO P pu M.nm ops o = some { x.2.1 with nid := none } ∧ ∀ e ∈ o.after, Region.binds .any e = true → e.on < x.1) →
   (∀ i j, Anc ops i j → listed.getD j false = true → listed.getD i false = true) →
   (∀ i, i < ops.size → i < listed.size) →
   RunD Γ (Qat P) g base rest σ τ → SR M S w O σ a →
   (∀ S' w' O' a', Evol S S' w w' O O' → SR M S' w' O' τ a' → a'.defers = a.defers → Q .normal a' w') →
   wpAnyIn F n P .any ops Q fuel listed a w := by
 intro fuel
 induction fuel with
 | zero =>
  intro rest listed σ S w O a hf hl _ _ _ _ hrun hsr hK
  have hnil : rest = [] := Qk (by omega)
  subst hnil
  simp only [RunD] at hrun
  subst hrun
  refine ⟨?_, hK S w O a (Evol.refl _ _ _) hsr rfl⟩
  rw [List.eq_nil_iff_forall_not_mem]
  intro i hi
  rw [mem_ready] at hi
  obtain ⟨x, hx, _⟩ := (hl i).1 hi.1
  simp at hx
 | succ fuel ih =>
  intro rest listed σ S w O a hf hl hp hr hc hsz hrun hsr hK
  refine ⟨fun hnil => ?_, fun i hi => ?_⟩
  ·cases rest with
   | nil =>
    simp only [RunD] at hrun
    subst hrun
    exact hK S w O a (Evol.refl _ _ _) hsr rfl
   | cons x rest =>
    exfalso
    obtain ⟨o, ho, _, hlt⟩ := hr x (by simp)
    have : x.1 ∈ Region.ready .any ops listed := by
     rw [mem_ready]
     refine ⟨(hl x.1).2 ⟨x, by simp, rfl⟩, o, ho, fun e he hb => ?_⟩
     have h1 := hlt e he hb
     have h2 : ¬ listed.getD e.on true = false := by
      rw [hl]
      rintro ⟨y, hy, hye⟩
      rcases Qb.1 hy with rfl | hy
      ·omega
      ·have := (Qn hp hy).1; omega
     have h3 : x.1 < ops.size := (Array.getElem?_eq_some_iff.1 ho).1
     have h4 := hsz e.on (by omega)
     simp [h4] at h2 ⊢
     exact h2
    rw [hnil] at this
    simp at this
  ·have hready := hi
   rw [mem_ready] at hi
   obtain ⟨h0, o, ho, hall⟩ := hi
   obtain ⟨x, hx, hxi⟩ := (hl i).1 h0
   subst hxi
   obtain ⟨A, B, rfl⟩ := Qw hx
   obtain ⟨o', ho', hro, hlt⟩ := hr x (by simp)
   rw [ho] at ho'
   cases ho'
   have hpa := Qt.1 hp
   have hpb := Qx.1 hpa.2.1
   have hind : ∀ y ∈ A, Qmo y x := by
    intro y hy
    rcases (hpa.2.2 y hy x (by simp)).2 with h | h
    ·exfalso
     have hy0 : listed.getD y.1 true = false := (hl y.1).2 ⟨y, by simp [hy], rfl⟩
     have hy1 : listed.getD y.1 false = true := by
      cases h with
      | base ho' he hb h =>
       rw [ho] at ho'; cases ho'
       rw [← h]
       exact hall _ he hb
      | step ho' he hb h =>
       rw [ho] at ho'; cases ho'
       exact hc _ _ h (hall _ he hb)
     cases hle : listed[y.1]? with
     | none => simp [hle] at hy0
     | some b => simp [hle] at hy0 hy1; simp_all
    ·exact h
   have hmv := RunD.move A σ hrun hind
   obtain ⟨hok, hrest⟩ := hmv.cons_split
   obtain ⟨hs1, hs2⟩ := Qlr hok
   refine Qk2 hG hF ho hro (fun hgf => hg hgf o (Array.mem_of_getElem? ho)) hsr hs1 ?_
   intro S' w' O' a' hev hsr' hdef
   rw [hs2] at hsr'
   refine ih (A ++ B) (listed.setIfInBounds x.1 true) _ S' w' O' a' ?_ ?_ ?_ ?_ ?_ ?_ hrest hsr' ?_
   ·simp at hf ⊢; omega
   ·intro i
    by_cases hix : i = x.1
    ·subst hix
     have hlt' : x.1 < listed.size := hsz _ (Array.getElem?_eq_some_iff.1 ho).1
     simp [hlt']
     intro k r
     refine ⟨fun hm => ?_, fun hm => ?_⟩
     ·have := (hpa.2.2 _ hm x (by simp)).1; simp at this
     ·have := (hpb.1 _ hm).1; simp at this
    ·rw [getD_set_ne true (Ne.symm hix), hl]
     constructor
     ·rintro ⟨y, hy, rfl⟩
      refine ⟨y, ?_, rfl⟩
      simp only [Qc, Qb] at hy ⊢
      rcases hy with h | h | h
      ·exact .inl h
      ·subst h; exact absurd rfl hix
      ·exact .inr h
     ·rintro ⟨y, hy, rfl⟩
      exact ⟨y, by simp only [Qc, Qb] at hy ⊢; rcases hy with h | h <;> simp [h], rfl⟩
   ·refine List.Pairwise.sublist ?_ hp
    exact Qp.append (Qp.refl _) (Qq _ _)
   ·intro y hy
    refine hr y ?_
    simp only [Qc, Qb] at hy ⊢
    rcases hy with h | h <;> simp [h]
   ·intro i j hij hj
    by_cases hjx : j = x.1
    ·subst hjx
     refine getD_set_true ?_
     cases hij with
     | base ho' he hb h =>
      rw [ho] at ho'; cases ho'
      rw [← h]
      exact hall _ he hb
     | step ho' he hb h =>
      rw [ho] at ho'; cases ho'
      exact hc _ _ h (hall _ he hb)
    ·rw [getD_set_ne false (Ne.symm hjx)] at hj
     exact getD_set_true (hc i j hij hj)
   ·intro i hi
    simpa using hsz i hi
   ·intro S'' w'' O'' a'' hev' hsr'' hdef'
    exact hK S'' w'' O'' a'' (hev.trans hev') hsr'' (hdef'.trans hdef)
theorem RunD.gh : ∀ (l : List (Nat × RO × FP)) (σ τ : St) {y : List V × Option (List (List V))}, RunD Γ (Qat P) g base l σ τ → ghO σ.hp = some y → ghO τ.hp = some y
 | [], σ, τ, y, h, hy => by simp only [RunD] at h; subst h; exact hy
 | (k, o, f) :: l, σ, τ, y, h, hy => RunD.gh l _ _ h.2.2 (Qxr h.1 hy)
structure AnyOp where
 o : RO
 js : List Nat
 an : List Nat
def runX (Γ : Gam) (E : TypeId → Nat → Prop) (g : Bool) (base : Nat) : List AnyOp → List FP → St → (St → Prop) → Prop
 | [], _, σ, K => K σ
 | x :: l, done, σ, K => (eff Γ E g base x.o σ).1 ∧ (x.js.all fun j => Qcj (done.getD j ⟨none, []⟩) (fpR Γ g base x.o σ)) = true ∧ runX Γ E g base l (done ++ [fpR Γ g base x.o σ]) (Qbb Γ E g base x.o σ) K
def RX.quiet : RX → Bool | .q _ => true | .w _ => false | .o _ _ => false
def Qqm (l : List AnyOp) : Bool :=
 (Qy l.length).all fun j => match l[j]? with
  | none => true
  | some y => (Qy j).all fun i => match l[i]? with
   | none => true
   | some x => y.an.contains i || (Qmq x.o y.o && (y.js.contains i || (x.o.x.quiet && y.o.x.quiet)))
def ancB (ops : Array Oper) (l : List AnyOp) : Bool :=
 (Qy ops.size).all fun j => match ops[j]?, l[j]? with
  | some o, some y => (o.after.all fun e => !(Region.binds .any e) || decide (e.on < j)) &&
    y.an.all fun i => o.after.any fun e => Region.binds .any e && (e.on == i || match l[e.on]? with | some z => z.an.contains i | none => false)
  | _, _ => false
theorem Qdf {l : List AnyOp} (h : ancB ops l = true) : ∀ (j : Nat) (y : AnyOp), l[j]? = some y → j < ops.size → (∀ i ∈ y.an, Anc ops i j) ∧ ∀ o, ops[j]? = some o → ∀ e ∈ o.after, Region.binds .any e = true → e.on < j := by
 intro j
 induction j using Nat.strongRecOn with
 | _ j ih =>
  intro y hy hj
  have h1 := Qd.1 h j (by simpa using hj)
  obtain ⟨o, ho⟩ : ∃ o, ops[j]? = some o := ⟨ops[j], by simp [hj]⟩
  simp only [ho, hy, Qi] at h1
  have hlt : ∀ e ∈ o.after, Region.binds .any e = true → e.on < j := by
   intro e he hb
   have := Array.all_eq_true_iff_forall_mem.1 h1.1 e he
   simpa [hb] using this
  refine ⟨fun i hi => ?_, fun o' ho' => by rw [ho] at ho'; cases ho'; exact hlt⟩
  have h2 := Qd.1 h1.2 i hi
  rw [Array.any_eq_true] at h2
  obtain ⟨k, hk, h3⟩ := h2
  simp only [Qi, Qs] at h3
  have hmem : o.after[k] ∈ o.after := Array.getElem_mem hk
  rcases h3.2 with h4 | h4
  ·exact .base ho hmem h3.1 (by simpa using h4)
  ·cases hz : l[(o.after[k]).on]? with
   | none => simp [hz] at h4
   | some z =>
    simp only [hz] at h4
    have hl := hlt _ hmem h3.1
    exact .step ho hmem h3.1 ((ih _ hl z hz (by omega)).1 i (by simpa using h4))
theorem Qo0 {l : List AnyOp} : ∀ (k : Nat) (done : List FP) (σ : St) (K : St → Prop), runX Γ (Qat P) g base l done σ K → k = done.length →
  ∃ fs : List FP, ∃ τ, fs.length = l.length ∧ RunD Γ (Qat P) g base ((Qe k l.length).zip ((l.map (·.o)).zip fs)) σ τ ∧ K τ ∧
   ∀ q y f, l[q]? = some y → fs[q]? = some f → ∀ j ∈ y.js, Qcj ((done ++ fs).getD j ⟨none, []⟩) f = true ∨ k + q ≤ j := by
 induction l with
 | nil => intro k done σ K h _; exact ⟨[], σ, rfl, (by simp [RunD]), h, by simp⟩
 | cons x l ih =>
  intro k done σ K h hk
  obtain ⟨h1, h2, h3⟩ := h
  obtain ⟨fs, τ, hl, hrun, hK, hd⟩ := ih (k + 1) _ _ _ h3 (by simp [hk])
  refine ⟨fpR Γ g base x.o σ :: fs, τ, by simp [hl], ?_, hK, ?_⟩
  ·simp only [Qz, Q0, List.map_cons, List.zip_cons_cons, RunD]
   exact ⟨h1, trivial, hrun⟩
  ·intro q y f hy hf j hj
   cases q with
   | zero =>
    simp at hy hf
    subst hy hf
    by_cases hjk : k ≤ j
    ·exact .inr (by omega)
    ·left
     have := Qd.1 h2 j hj
     have hlt : j < done.length := by omega
     simpa [List.getElem?_append_left hlt] using this
   | succ q =>
    simp at hy hf
    have := hd q y f hy hf j hj
    rcases this with h | h
    ·left; simpa using h
    ·right; omega
theorem RunD.quiet : ∀ (l : List (Nat × RO × FP)) (σ τ : St), RunD Γ (Qat P) g base l σ τ → ∀ x ∈ l, x.2.1.x.quiet = true → x.2.2.wr = []
 | [], _, _, _ => by simp
 | (k, o, f) :: l, σ, τ, h => by
  intro x hx hq
  obtain ⟨_, h2, h3⟩ := h
  rcases Qb.1 hx with rfl | hx
  ·simp only at hq ⊢
   rw [← h2]
   unfold fpR
   cases ho : o.x with
   | q q => rfl
   | w q => rw [ho] at hq; cases hq
   | o f xs => rw [ho] at hq; cases hq
  ·exact RunD.quiet l _ _ h3 x hx hq
def Qrt (P : Program) (pu : List Nat) (N : Nat × Nat) (ops : Array Oper) (l : List AnyOp) : Prop :=
 ops.toList.map (fun o => resO P pu N ops o) = l.map fun x => some { x.o with nid := none }
theorem Qrn (hG : GOk P Γ) (hF : Qbz F) (hm : P.follows .mixedOrders = true) {l : List AnyOp} (hl : Qrt P pu M.nm ops l) (hp : Qqm l = true) (ha : ancB ops l = true)
  (hg : g = false → ∀ o ∈ ops, o.guard = none) {Q : Exit → Act → World → Prop} {σ : St} {S : Nat → Prop} {w : World} {O : OInfo} {a : Act} {K : St → Prop} {id : Nat}
  (hrun : runX Γ (Qat P) g base l [] σ K) (hsr : SR M S w O σ a)
  (hK : ∀ τ S' w' O' a', K τ → (∀ y, ghO σ.hp = some y → ghO τ.hp = some y) → Evol S S' w w' O O' → SR M S' w' O' τ a' → a'.defers = a.defers → Q .normal a' w') : (Code.region id ops true).wpIn F n P Q a w := by
 obtain ⟨fs, τ, hfs, hr, hKτ, hd⟩ := Qo0 0 [] σ K hrun rfl
 have hlen : l.length = ops.size := by
  have := congrArg List.length hl
  simpa using this.symm
 refine wpIn_region_any hm ?_
 have hget : ∀ x ∈ (Qe 0 l.length).zip ((l.map (·.o)).zip fs), ∃ y, l[x.1]? = some y ∧ y.o = x.2.1 ∧ fs[x.1]? = some x.2.2 := by
  rintro ⟨i, o, f⟩ hx
  obtain ⟨q, hq⟩ := Qu hx
  rw [Qa] at hq
  obtain ⟨q1, q2⟩ := hq
  rw [Qa] at q2
  obtain ⟨q2, q3⟩ := q2
  have hqi : i = q := by
   rw [Qg] at q1
   ·simpa using q1.symm
   ·have := Qam q1; simpa using this
  subst hqi
  rw [Qh, Qr] at q2
  obtain ⟨y, hy, rfl⟩ := q2
  exact ⟨y, hy, rfl, q3⟩
 have hopl : ∀ (i : Nat) (y : AnyOp), l[i]? = some y → ∃ o, ops[i]? = some o ∧ resO P pu M.nm ops o = some { y.o with nid := none } := by
  intro i y hy
  have hlt : i < ops.size := by rw [← hlen]; exact Qam hy
  refine ⟨ops[i], by simp [hlt], ?_⟩
  have := congrArg (fun l => l[i]?) hl
  simpa [hy, hlt] using this
 have hz : ∀ i x f, l[i]? = some x → fs[i]? = some f → (i, x.o, f) ∈ (Qe 0 l.length).zip ((l.map (·.o)).zip fs) := by
  intro i x f hx hf
  refine Qv (i := i) ?_
  rw [Qa]
  have := Qam hx
  refine ⟨by rw [Qg this]; simp, ?_⟩
  rw [Qa]
  exact ⟨by simp [hx], hf⟩
 have hpairs : ∀ i j x y, l[i]? = some x → l[j]? = some y → i < j → Anc ops i j ∨ ∀ fx fy, fs[i]? = some fx → fs[j]? = some fy → Qmo (i, x.o, fx) (j, y.o, fy) := by
  intro i j x y hx hy hij
  have hjl := Qam hy
  have h1 := Qd.1 hp j (by simpa using hjl)
  simp only [hy] at h1
  have h2 := Qd.1 h1 i (by simpa using hij)
  simp only [hx, Qs, Qi] at h2
  rcases h2 with h2 | ⟨h2, h3⟩
  ·exact .inl ((Qdf ha j y hy (by omega)).1 i (by simpa using h2))
  ·right
   intro fx fy hfx hfy
   refine ⟨h2, ?_⟩
   rcases h3 with h3 | h3
   ·have := hd j y fy hy hfy i (by simpa using h3)
    rcases this with h4 | h4
    ·simpa [hfx] using h4
    ·omega
   ·have e1 := RunD.quiet _ _ _ hr _ (hz i x fx hx hfx) h3.1
    have e2 := RunD.quiet _ _ _ hr _ (hz j y fy hy hfy) h3.2
    simp only at e1 e2
    simp [Qcj, hits, e1, e2]
 refine Qmp hG hF hg (pu := pu) (M := M) ops.size _ _ σ S _ O a ?_ ?_ ?_ ?_ ?_ ?_ hr ?_ ?_
 ·simp [hlen, hfs]
 ·intro i
  constructor
  ·intro h
   have hi : i < ops.size := by
    rcases Nat.lt_or_ge i ops.size with h' | h'
    ·exact h'
    ·simp [Nat.not_lt.2 h'] at h
   have h1 : i < l.length := by omega
   have h2 : i < fs.length := by omega
   exact ⟨_, hz i l[i] fs[i] (by simp [h1]) (by simp [h2]), rfl⟩
  ·rintro ⟨x, hx, rfl⟩
   obtain ⟨y, hy, _⟩ := hget x hx
   have := Qam hy
   have h2 : x.1 < ops.size := by omega
   simp [h2]
 ·rw [Qo]
  intro i j hi hj hij
  obtain ⟨x, hx, hxo, hxf⟩ := hget _ (Qj hi)
  obtain ⟨y, hy, hyo, hyf⟩ := hget _ (Qj hj)
  have ei : (((Qe 0 l.length).zip ((l.map (·.o)).zip fs))[i]).1 = i := by simp
  have ej : (((Qe 0 l.length).zip ((l.map (·.o)).zip fs))[j]).1 = j := by simp
  rw [ei] at hx hxf
  rw [ej] at hy hyf
  rw [ei, ej]
  refine ⟨hij, (hpairs i j x y hx hy hij).imp (fun h => h) fun h => ?_⟩
  have := h _ _ hxf hyf
  rw [hxo, hyo] at this
  exact this
 ·intro x hx
  obtain ⟨y, hy, hyo, _⟩ := hget x hx
  obtain ⟨o, ho, hr'⟩ := hopl _ _ hy
  refine ⟨o, ho, by rw [← hyo]; exact hr', fun e he hb => ?_⟩
  exact (Qdf ha _ y hy (Array.getElem?_eq_some_iff.1 ho).1).2 o ho e he hb
 ·intro i j _ hj
  exfalso
  by_cases h : j < ops.size <;> simp [h] at hj
 ·intro i hi
  simpa using hi
 ·exact ⟨hsr.size, hsr.kept, hsr.fr.ext (Qis _ _ _), Qm2 hsr.mat⟩
 ·intro S' w' O' a' hev hsr' hdef
  exact hK τ S' w' O' a' hKτ (fun y hy => RunD.gh _ _ _ hr hy) ((Qjb S w O).trans hev) hsr' hdef
theorem Qx9 (hG : GOk P Γ) (hF : Qbz F) (hg : g = false → ∀ o ∈ ops, o.guard = none) {Q : Exit → Act → World → Prop} {K : St → Prop} :
  ∀ (l : List RO) (k : Nat) (σ : St) (S : Nat → Prop) (w : World) (O : OInfo) (a : Act), (∀ q r, l[q]? = some r → ∃ o, ops[k + q]? = some o ∧ resO P pu M.nm ops o = some { r with nid := none }) →
   runR Γ (Qat P) g base l σ K → SR M S w O σ a →
   (∀ τ S' w' O' a', K τ → (∀ y, ghO σ.hp = some y → ghO τ.hp = some y) → Evol S S' w w' O O' → SR M S' w' O' τ a' → a'.defers = a.defers → Q .normal a' w') →
   wpOpsIn F n P ops Q (Qe k l.length) a w := by
 intro l
 induction l with
 | nil => intro k σ S w O a _ hrun hsr hK; exact hK σ S w O a hrun (fun _ h => h) (Evol.refl _ _ _) hsr rfl
 | cons r l ih =>
  intro k σ S w O a hops hrun hsr hK
  obtain ⟨hok, hrun⟩ := hrun
  rw [Qz, Q0, wpOpsIn_cons]
  obtain ⟨o, ho, hro⟩ := hops 0 r rfl
  refine Qk2 hG hF ho hro (fun hgf => hg hgf o (Array.mem_of_getElem? ho)) hsr hok ?_
  intro S' w' O' a' hev hsr' hdef
  refine ih (k + 1) _ S' w' O' a' ?_ hrun hsr' fun τ S'' w'' O'' a'' hKτ hgh hev' hsr'' hdef' => hK τ S'' w'' O'' a'' hKτ (fun y hy => hgh y (Qkd hok hy)) (hev.trans hev') hsr'' (hdef'.trans hdef)
  intro q r' hr'
  have := hops (q + 1) r' (by simpa using hr')
  rwa [Nat.add_comm q 1, ← Nat.add_assoc] at this
def Qru (P : Program) (pu : List Nat) (N : Nat × Nat) (ops : Array Oper) (l : List RO) : Prop :=
 ops.toList.map (fun o => resO P pu N ops o) = l.map fun x => some { x with nid := none }
theorem Qpe (hG : GOk P Γ) (hF : Qbz F) {l : List RO} (hl : Qru P pu M.nm ops l)
  (hg : g = false → ∀ o ∈ ops, o.guard = none) {Q : Exit → Act → World → Prop} {σ : St} {S : Nat → Prop} {w : World} {O : OInfo} {a : Act} {K : St → Prop} {id : Nat}
  (hrun : runR Γ (Qat P) g base l σ K) (hsr : SR M S w O σ a)
  (hK : ∀ τ S' w' O' a', K τ → (∀ y, ghO σ.hp = some y → ghO τ.hp = some y) → Evol S S' w w' O O' → SR M S' w' O' τ a' → a'.defers = a.defers → Q .normal a' w') : (Code.region id ops false).wpIn F n P Q a w := by
 have hlen : l.length = ops.size := by
  have := congrArg List.length hl
  simpa using this.symm
 refine wpIn_region ?_
 rw [List.range_eq_range', ← hlen]
 refine Qx9 hG hF hg (pu := pu) (g := g) l 0 σ S w O a ?_ hrun hsr hK
 intro q r hq
 have hlt : q < ops.size := by rw [← hlen]; exact Qam hq
 refine ⟨ops[q], by simp [hlt], ?_⟩
 have := congrArg (fun l => l[q]?) hl
 simpa [hq, hlt] using this
end
end Go.Fam
namespace Go.Fam
def lkp : List (Nat × V) → Nat → V
 | [], _ => .u
 | (k, v) :: l, t => if t = k then v else lkp l t
mutual
def upV (n : Nat) : V → V
 | .ad id g off => if id < n then .u else .ad id g off
 | .rf id g off len es => if id < n then .u else .rf id g off len es
 | .mp id g => if id < n then .u else .mp id g
 | .it id g => if id < n then .u else .it id g
 | .ag cs => .ag (upL n cs)
 | .tp cs => .tp (upL n cs)
 | .fn f cs => .fn f (upL n cs)
 | .gv q v => .gv q (upV n v)
 | v => v
def upL (n : Nat) : List V → List V
 | [] => []
 | v :: vs => upV n v :: upL n vs
end
def upB (n : Nat) : Blk → Blk
 | .cells g vs => .cells g (upL n vs)
 | .map st ks vs => .map st ks (upL n vs)
 | .iter mid k l c => if mid < n then .dead 0 else .iter mid k l c
 | b => b
theorem Qem (n : Nat) : ∀ vs : List V, (upL n vs).length = vs.length
 | [] => rfl
 | _ :: vs => by simp [upL, Qem n vs]
mutual
theorem Qu6 {S : Nat → Prop} {w : World} {O : OInfo} {n : Nat} : ∀ (v : V) (c : Value), Rep S w O v c → Rep S w (Qh3 O n) (upV n v) c
 | .u, _, _ => by simp [upV, Rep]
 | .b x, c, h => by simpa [upV, Rep] using h
 | .i x, c, h => by simpa [upV, Rep] using h
 | .z es, c, h => by simpa [upV, Rep] using h
 | .sl es rows, c, h => by simpa only [upV, Rep] using h
 | .sx es rows, c, h => by simpa only [upV, Rep] using h
 | .pa cs, c, h => by simpa only [upV, Rep] using h
 | .pn, c, h => by simpa [upV, Rep] using h
 | .yl l, c, h => by simpa [upV, Rep] using h
 | .w k n, c, h => by simpa [upV, Rep] using h
 | .ag cs, c, h => by
  simp only [upV, Rep] at h ⊢
  obtain ⟨ccs, hc, hn, hr⟩ := h
  exact ⟨ccs, hc, by rw [Qem]; exact hn, Qi8 cs _ hr⟩
 | .tp cs, c, h => by
  simp only [upV, Rep] at h ⊢
  obtain ⟨ccs, hc, hn, hr⟩ := h
  exact ⟨ccs, hc, by rw [Qem]; exact hn, Qi8 cs _ hr⟩
 | .fn f cs, c, h => by
  simp only [upV, Rep] at h ⊢
  obtain ⟨ccs, hc, hn, hr⟩ := h
  exact ⟨ccs, hc, by rw [Qem]; exact hn, Qi8 cs _ hr⟩
 | .gv q v, c, h => by
  simp only [upV, Rep] at h ⊢
  exact ⟨fun hq => Qu6 v c (h.1 hq), h.2⟩
 | .ad id g off, c, h => by
  simp only [upV]
  split
  ·simp [Rep]
  ·rename_i hl; simpa only [Rep, Qh3, if_neg hl] using h
 | .rf id g off len es, c, h => by
  simp only [upV]
  split
  ·simp [Rep]
  ·rename_i hl; simpa only [Rep, Qh3, if_neg hl] using h
 | .mp id g, c, h => by
  simp only [upV]
  split
  ·simp [Rep]
  ·rename_i hl; simpa only [Rep, Qh3, if_neg hl] using h
 | .it id g, c, h => by
  simp only [upV]
  split
  ·simp [Rep]
  ·rename_i hl; simpa only [Rep, Qh3, if_neg hl] using h
theorem Qi8 {S : Nat → Prop} {w : World} {O : OInfo} {n : Nat} : ∀ (vs : List V) (cs : List Value), RepL S w O vs cs → RepL S w (Qh3 O n) (upL n vs) cs
 | [], _, _ => by simp [upL, RepL]
 | _ :: _, [], h => by simp [RepL] at h
 | v :: vs, c :: cs, h => by
  simp only [upL, RepL] at h ⊢
  exact ⟨Qu6 v c h.1, Qi8 vs cs h.2⟩
end
def hpF (n : Nat) (hp : List Blk) : List Blk := (hp.take n).map (fun _ => .hole) ++ (hp.drop n).map (upB n)
mutual
def cutV (hp : List Blk) (n : Nat) : V → V
 | .ad id g off => if id < n then .ad id g off else vw (hpF n hp) 8 (.ad id g off)
 | .rf id g off len es => if id < n then .rf id g off len es else vw (hpF n hp) 8 (.rf id g off len es)
 | .mp id g => if id < n then .mp id g else .u
 | .it id g => if id < n then .it id g else .u
 | .ag cs => .ag (cutL hp n cs)
 | .tp cs => .tp (cutL hp n cs)
 | .fn f cs => .fn f (cutL hp n cs)
 | .gv q v => .gv q (cutV hp n v)
 | v => v
def cutL (hp : List Blk) (n : Nat) : List V → List V
 | [] => []
 | v :: vs => cutV hp n v :: cutL hp n vs
end
def cutB (hp : List Blk) (n : Nat) : Blk → Blk
 | .cells g vs => .cells g (cutL hp n vs)
 | .map st ks vs => .map st ks (cutL hp n vs)
 | .iter mid k l c => if mid < n then .iter mid k l c else .dead 0
 | b => b
theorem Qdo (hp : List Blk) (n : Nat) : ∀ vs : List V, (cutL hp n vs).length = vs.length
 | [] => rfl
 | _ :: vs => by simp [cutL, Qdo hp n vs]
theorem Qbh {O : OInfo} {n id : Nat} {x : Nat × Option Nat} (h : Qh3 O n id = some x) : n ≤ id ∧ O id = some x := by
 unfold Qh3 at h
 split at h
 ·cases h
 ·rename_i hl; exact ⟨by omega, h⟩
theorem Qbc {O : OInfo} {n id : Nat} {x : Nat × Option Nat} (h : Qc5 O n id = some x) : id < n ∧ O id = some x := by
 unfold Qc5 at h
 split at h
 ·rename_i hl; exact ⟨hl, h⟩
 ·cases h
theorem Qqa {S : Nat → Prop} {w : World} {O : OInfo} {hp : List Blk} (h : Mat S w O hp) (n : Nat) : Mat S w (Qh3 O n) (hpF n hp) := by
 have hx : Ext S S w w O O := Ext.refl S w O
 refine ⟨h.lt, fun id g b ho => h.own id g b (Qbh ho).2, fun id id' g g' b h1 h2 => h.inj id id' g g' b (Qbh h1).2 (Qbh h2).2, fun id g ob ho => ?_⟩
 obtain ⟨hl, ho⟩ := Qbh ho
 have hb := h.blk id g ob ho
 have hlt : id < hp.length := by
  rcases Nat.lt_or_ge id hp.length with h' | h'
  ·exact h'
  ·rw [List.getElem?_eq_none h'] at hb; exact hb.elim
 have hg : (hpF n hp)[id]? = (hp[id]?).map (upB n) := by
  unfold hpF
  rw [Ql (by simp; omega)]
  simp only [List.length_map, List.length_take, Qh, List.getElem?_drop]
  congr 2
  omega
 rw [hg]
 cases hid : hp[id]? with
 | none => rw [hid] at hb; exact hb.elim
 | some b =>
  rw [hid] at hb
  cases b with
  | hole => exact hb.elim
  | gh c y => exact hb.elim
  | dead g' => exact hb
  | map st ks vs =>
   simp only [Qbo, Qf, upB] at hb ⊢
   obtain ⟨h0, b, es, hob, hh, h1, h3, h4, h5⟩ := hb
   exact ⟨h0, b, es, hob, hh, h1, Qi8 _ _ h3, by rw [Qem]; exact h4, h5⟩
  | iter mid k l c =>
   simp only [Qbo, Qf, upB] at hb ⊢
   obtain ⟨h0, b, m, seen, hob, hh, h1, h2⟩ := hb
   by_cases hmid : mid < n
   ·rw [if_pos hmid]; exact h0.symm
   ·rw [if_neg hmid]
    refine ⟨h0, b, m, seen, hob, hh, ?_, h2⟩
    have := Qu6 (n := n) (.mp mid 0) _ h1
    simpa only [upV, if_neg hmid] using this
  | cells g' vs =>
   simp only [Qbo, Qf, upB] at hb ⊢
   refine ⟨hb.1, ?_⟩
   cases ob with
   | none => simp only at hb ⊢; rw [hb.2]; rfl
   | some b =>
    obtain ⟨cur, e, hh, hrl, h1⟩ := hb.2
    exact ⟨cur, e, hh, Qi8 _ _ hrl, h1⟩
mutual
theorem Qhv {S : Nat → Prop} {w : World} {O : OInfo} {hp : List Blk} (hm : Mat S w O hp) (n : Nat) : ∀ (v : V) (c : Value), Rep S w O v c → Rep (cutS S O n) w (Qc5 O n) (cutV hp n v) c
 | .u, _, _ => by simp [cutV, Rep]
 | .b x, c, h => by simpa [cutV, Rep] using h
 | .i x, c, h => by simpa [cutV, Rep] using h
 | .z es, c, h => by simpa [cutV, Rep] using h
 | .sl es rows, c, h => by
  have h' : Rep S w noO (.sl es rows) c := by simpa only [Rep] using h
  simpa only [cutV] using Rep.ext ⟨fun k hk => ⟨.inl hk, rfl⟩, fun _ _ _ h => by cases h⟩ _ _ h'
 | .sx es rows, c, h => by
  have h' : Rep S w noO (.sx es rows) c := by simpa only [Rep] using h
  simpa only [cutV] using Rep.ext ⟨fun k hk => ⟨.inl hk, rfl⟩, fun _ _ _ h => by cases h⟩ _ _ h'
 | .pa cs, c, h => by
  have h' : Rep S w noO (.pa cs) c := by simpa only [Rep] using h
  simpa only [cutV] using Rep.ext ⟨fun k hk => ⟨.inl hk, rfl⟩, fun _ _ _ h => by cases h⟩ _ _ h'
 | .pn, c, h => by simpa [cutV, Rep] using h
 | .yl l, c, h => by simpa [cutV, Rep] using h
 | .w k n, c, h => by simpa [cutV, Rep] using h
 | .ag cs, c, h => by
  simp only [cutV, Rep] at h ⊢
  obtain ⟨ccs, hc, hn, hr⟩ := h
  exact ⟨ccs, hc, by rw [Qdo]; exact hn, Qfn hm n cs _ hr⟩
 | .tp cs, c, h => by
  simp only [cutV, Rep] at h ⊢
  obtain ⟨ccs, hc, hn, hr⟩ := h
  exact ⟨ccs, hc, by rw [Qdo]; exact hn, Qfn hm n cs _ hr⟩
 | .fn f cs, c, h => by
  simp only [cutV, Rep] at h ⊢
  obtain ⟨ccs, hc, hn, hr⟩ := h
  exact ⟨ccs, hc, by rw [Qdo]; exact hn, Qfn hm n cs _ hr⟩
 | .gv q v, c, h => by
  simp only [cutV, Rep] at h ⊢
  exact ⟨fun hq => Qhv hm n v c (h.1 hq), h.2⟩
 | .ad id g off, c, h => by
  simp only [cutV]
  split
  ·rename_i hl; simpa only [Rep, Qc5, if_pos hl] using h
  ·rename_i hl
   have h' : Rep S w (Qh3 O n) (.ad id g off) c := by simpa only [Rep, Qh3, if_neg hl] using h
   exact Qmf (Qlf (Qqa hm n) 8 _ _ h')
 | .rf id g off len es, c, h => by
  simp only [cutV]
  split
  ·rename_i hl; simpa only [Rep, Qc5, if_pos hl] using h
  ·rename_i hl
   have h' : Rep S w (Qh3 O n) (.rf id g off len es) c := by simpa only [Rep, Qh3, if_neg hl] using h
   exact Qmf (Qlf (Qqa hm n) 8 _ _ h')
 | .mp id g, c, h => by
  simp only [cutV]
  split
  ·rename_i hl; simpa only [Rep, Qc5, if_pos hl] using h
  ·simp [Rep]
 | .it id g, c, h => by
  simp only [cutV]
  split
  ·rename_i hl; simpa only [Rep, Qc5, if_pos hl] using h
  ·simp [Rep]
theorem Qfn {S : Nat → Prop} {w : World} {O : OInfo} {hp : List Blk} (hm : Mat S w O hp) (n : Nat) : ∀ (vs : List V) (cs : List Value), RepL S w O vs cs → RepL (cutS S O n) w (Qc5 O n) (cutL hp n vs) cs
 | [], _, _ => by simp [cutL, RepL]
 | _ :: _, [], h => by simp [RepL] at h
 | v :: vs, c :: cs, h => by
  simp only [cutL, RepL] at h ⊢
  exact ⟨Qhv hm n v c h.1, Qfn hm n vs cs h.2⟩
end
theorem Qj8 {S : Nat → Prop} {w : World} {O : OInfo} {hp : List Blk} (h : Mat S w O hp) (n : Nat) : Mat (cutS S O n) w (Qc5 O n) ((hp.take n).map (cutB hp n)) := by
 refine ⟨fun k hk => ?_, fun id g b ho => ?_, fun id id' g g' b h1 h2 => h.inj id id' g g' b (Qbc h1).2 (Qbc h2).2, fun id g ob ho => ?_⟩
 ·rcases hk with hk | ⟨id, g, ho⟩
  ·exact h.lt k hk
  ·exact (h.own id g k (Qbh ho).2).1
 ·obtain ⟨hl, ho⟩ := Qbc ho
  refine ⟨(h.own id g b ho).1, ?_⟩
  rintro (hS | ⟨id', g', ho'⟩)
  ·exact (h.own id g b ho).2 hS
  ·have := h.inj id id' g g' b ho (Qbh ho').2
   have := (Qbh ho').1
   omega
 obtain ⟨hl, ho⟩ := Qbc ho
 have hb := h.blk id g ob ho
 rw [Qh, List.getElem?_take, if_pos hl]
 cases hid : hp[id]? with
 | none => rw [hid] at hb; exact hb.elim
 | some b =>
  rw [hid] at hb
  cases b with
  | hole => exact hb.elim
  | gh c y => exact hb.elim
  | dead g' => exact hb
  | map st ks vs =>
   simp only [Qf, cutB, Qbo] at hb ⊢
   obtain ⟨h0, b, es, hob, hh, h1, h3, h4, h5⟩ := hb
   exact ⟨h0, b, es, hob, hh, h1, Qfn h n _ _ h3, by rw [Qdo]; exact h4, h5⟩
  | iter mid k l c =>
   simp only [Qf, cutB, Qbo] at hb ⊢
   obtain ⟨h0, b, m, seen, hob, hh, h1, h2⟩ := hb
   by_cases hmid : mid < n
   ·rw [if_pos hmid]
    refine ⟨h0, b, m, seen, hob, hh, ?_, h2⟩
    have := Qhv h n (.mp mid 0) _ h1
    simpa only [cutV, if_pos hmid] using this
   ·rw [if_neg hmid]; exact h0.symm
  | cells g' vs =>
   simp only [Qf, cutB, Qbo] at hb ⊢
   refine ⟨hb.1, ?_⟩
   cases ob with
   | none => simp only at hb ⊢; rw [hb.2]; rfl
   | some b =>
    obtain ⟨cur, e, hh, hrl, h1⟩ := hb.2
    exact ⟨cur, e, hh, Qfn h n _ _ hrl, h1⟩
theorem Evol.cut {S S' : Nat → Prop} {w w' : World} {O : OInfo} (h : Evol S S' w w' noO O) (n : Nat) : Evol S (cutS S' O n) w w' noO (Qc5 O n) := by
 refine ⟨⟨fun k hk => ⟨.inl (h.ext.keep k hk).1, (h.ext.keep k hk).2⟩, fun _ _ _ h => (by cases h)⟩, h.os, h.tape, h.output, h.size, h.fz, h.old, fun k ⟨id, g, ho⟩ => h.fresh k ⟨id, g, (Qbc ho).2⟩, ?_⟩
 rintro k (hk | ⟨id, g, ho⟩)
 ·exact h.grow k hk
 ·exact .inr (h.fresh k ⟨id, g, (Qbh ho).2⟩)
theorem Evol.less {S S' : Nat → Prop} {w w' : World} {O O' : OInfo} (h : Evol S S' w w' noO O) (ho : ∀ n, Own O' n → Own O n) : Evol S S' w w' noO O' :=
 ⟨⟨h.ext.keep, fun _ _ _ h => by cases h⟩, h.os, h.tape, h.output, h.size, h.fz, h.old, fun n hn => h.fresh n (ho n hn), h.grow⟩
def cutH (n : Nat) (hp : List Blk) : List Blk := (hp.take n).map (cutB hp n)
def sw (i j : Nat) (k : Nat) : Nat := if k = i then j else if k = j then i else k
mutual
def renV (f : Nat → Nat) : V → V
 | .ad id g off => .ad (f id) g off
 | .rf id g off len es => .rf (f id) g off len es
 | .mp id g => .mp (f id) g
 | .it id g => .it (f id) g
 | .ag cs => .ag (renL f cs)
 | .tp cs => .tp (renL f cs)
 | .fn g cs => .fn g (renL f cs)
 | .gv q v => .gv q (renV f v)
 | v => v
def renL (f : Nat → Nat) : List V → List V
 | [] => []
 | v :: vs => renV f v :: renL f vs
end
def renB (f : Nat → Nat) : Blk → Blk
 | .cells g vs => .cells g (renL f vs)
 | .map st ks vs => .map st ks (renL f vs)
 | .iter mid n l c => .iter (f mid) n l c
 | b => b
def swH (i j : Nat) (hp : List Blk) : List Blk := match hp[i]?, hp[j]? with
 | some a, some b => ((hp.set i b).set j a).map (renB (sw i j))
 | _, _ => []
inductive It where | r (o : RO) | w (o : RO) | h (o : RO)
inductive RC where
 | itm (l : List It)
 | skip | reg (g : Bool) (l : List RO) | any (g : Bool) (m : Nat) (l : List AnyOp) | seq (a b : RC) | mid (a b : RC) | cond (c : Od) (a b : RC)
 | block (id : Nat) (a : RC) | loop (l : List Nat) (d : Option Nat) (a : RC) | exit (id : Nat) | ret
 | keep (l : List Nat) (a : RC) | drp (n : Nat) (a : RC) | own (t es : Nat) (a : RC) | ownc (t off es : Nat) (a : RC) | owni (t i off es : Nat) (a : RC)
 | nxt (d m it : Nat) | rfn (f : Od) (ps : List Nat) (lo : Nat) (b a : RC) | yrg (g : Bool) (l1 : List RO) (y : RO) (ks : List Nat) (l2 : List RO)
 | swp (i j : Nat) (a : RC) | crl (g : Bool) (l1 : List RO) (y : RO) (l2 : List RO) | hcl (g : Bool) (l1 : List RO) (y : RO) (l2 : List RO) | hca (g : Bool) (m1 : Nat) (l1 : List AnyOp) (y : AnyOp) (m2 : Nat) (l2 : List AnyOp) | no
 | owng (t es gs : Nat) (a : RC) | rnl (g : Bool) (l1 : List RO) (y : RO) (l2 : List RO) | scp (a : RC) | dum (a : RC) | yrh (g : Bool) (l1 : List RO) (y : RO) (l2 : List RO) | ycl (lo : Nat) (g : Bool) (l1 : List RO) (y : RO) (l2 : List RO) | rfh (f : Od) (ps : List Nat) (lo zl : Nat) (b a : RC)
instance : Inhabited RC := ⟨.skip⟩
def kp (l : List Nat) (d : Option Nat) (σ : St) : St := match d with
 | none => ⟨lkp (l.map fun t => (t, σ.fr t)), σ.hp⟩
 | some n => ⟨lkp (l.map fun t => (t, cutV σ.hp n (σ.fr t))), cutH n σ.hp⟩
def Qad (K : St → Prop) (Q : Exit → St → Prop) : Exit → St → Prop
 | .normal, σ => K σ
 | e, σ => Q e σ
def Qai (id : Nat) (Q : Exit → St → Prop) : Exit → St → Prop
 | .exit id', σ => if id' = id then Q .normal σ else Q (.exit id') σ
 | e, σ => Q e σ
def rnQ (K : St → Prop) : Exit → St → Prop
 | .normal, σ => K σ
 | _, _ => False
def rndQ (Q : Exit → St → Prop) (lo : Nat) (fr0 : Nat → V) (I : List Blk → Prop) : Exit → St → Prop
 | .normal, σ => I (cutH lo σ.hp)
 | .exit id, σ => Q (.exit id) ⟨fr0, cutH lo σ.hp⟩
 | _, _ => False
def updL (fr : Nat → V) : List Nat → List V → Nat → V
 | p :: ps, v :: vs => updL (upd fr (some p) v) ps vs
 | _, _ => fr
def rndH (Q : Exit → St → Prop) (lo zl : Nat) (fr0 : Nat → V) (z : List V) (al I : List V → Prop) : Exit → St → Prop
 | .normal, σ => ∃ bv, cutH (lo + zl) σ.hp = .hole :: (bv ++ z).map vB ∧ bv.length + 1 = lo ∧ al bv ∧ I bv
 | .exit id, σ => ∃ bv, cutH (lo + zl) σ.hp = .hole :: (bv ++ z).map vB ∧ bv.length + 1 = lo ∧ al bv ∧ Q (.exit id) ⟨fr0, .hole :: bv.map vB⟩
 | _, _ => False
def noGo (Q : Exit → St → Prop) : Exit → St → Prop
 | .goto _, _ => False
 | e, σ => Q e σ
def Qo3 : V → Bool
 | .yl _ => true
 | v => flat v
def yres (gd : Option (Nat × Bool)) (b : Bool) : V := match gd with | none => .b b | some _ => .gv true (.b b)
def Qo6 (l : List Nat) (fr : Nat → V) : List (Nat × V) := l.map fun t => (t, fr t)
def runI (Γ : Gam) (E : TypeId → Nat → Prop) : List It → St → (St → Prop) → Prop
 | [], σ, K => K σ
 | .r o :: l, σ, K => (step Γ E true 0 o σ).1 ∧ runI Γ E l (step Γ E true 0 o σ).2 K
 | .w o :: l, σ, K => match Qb8 σ.fr o.gd with
  | none => False
  | some false => runI Γ E l ⟨upd σ.fr o.dst (.gv false .u), σ.hp⟩ K
  | some true => (step Γ E true 0 o σ).1 ∧ runI Γ E l (step Γ E true 0 o σ).2 K
 | .h o :: l, σ, K => match Qb8 σ.fr o.gd with
  | none => False
  | some false => runI Γ E l ⟨upd σ.fr o.dst (.gv false .u), σ.hp⟩ K
  | some true => match o.x with
   | .o f args => match opv true σ.fr f with
    | .fn gf caps => Qau true o σ.fr ∧ (Γ.h gf (args.map (opv true σ.fr) ++ caps) σ.hp).1 ∧
      ∀ r hp', (Γ.h gf (args.map (opv true σ.fr) ++ caps) σ.hp).2 r hp' → runI Γ E l ⟨upd σ.fr o.dst r, hp'⟩ K
    | _ => False
   | _ => False
def wpR (Γ : Gam) (E : TypeId → Nat → Prop) : RC → (Exit → St → Prop) → St → Prop
 | .skip, Q, σ => Q .normal σ
 | .no, _, _ => False
 | .reg g l, Q, σ => runR Γ E g 0 l σ (Q .normal)
 | .any g m l, Q, σ => runX Γ E g σ.hp.length l [] ⟨σ.fr, σ.hp ++ Qm m .hole⟩ (Q .normal)
 | .seq a b, Q, σ => wpR Γ E a (Qad (wpR Γ E b Q) Q) σ
 | .mid a b, Q, σ => ∃ M : St → Prop, wpR Γ E a (Qad M Q) σ ∧ ∀ σ', M σ' → wpR Γ E b Q σ'
 | .cond c a b, Q, σ => match evO σ.fr c with
  | .b t => (t = true → wpR Γ E a Q σ) ∧ (t = false → wpR Γ E b Q σ)
  | _ => False
 | .block id a, Q, σ => wpR Γ E a (Qai id Q) σ
 | .loop l d a, Q, σ => ∃ I : Nat → St → Prop, (∃ k, I k (kp l d σ)) ∧ ∀ k σ', I k σ' → wpR Γ E a (Qad (fun σ'' => ∃ j, j < k ∧ I j (kp l d σ'')) Q) σ'
 | .exit id, Q, σ => Q (.exit id) σ
 | .ret, Q, σ => Q .ret σ
 | .keep l a, Q, σ => wpR Γ E a Q ⟨lkp (l.map fun t => (t, σ.fr t)), σ.hp⟩
 | .drp n a, Q, σ => wpR Γ E a Q ⟨fun t => cutV σ.hp n (σ.fr t), cutH n σ.hp⟩
 | .owng t es gs a, Q, σ => match σ.fr t with
  | .z _ => wpR Γ E a Q ⟨upd σ.fr (some t) (.rf σ.hp.length gs 0 0 es), σ.hp ++ [.cells gs []]⟩
  | _ => False
 | .own t es a, Q, σ => match σ.fr t with
  | .z _ => wpR Γ E a Q ⟨upd σ.fr (some t) (.rf σ.hp.length 0 0 0 es), σ.hp ++ [.cells 0 []]⟩
  | _ => False
 | .ownc t off es a, Q, σ => match σ.fr t with
  | .ad id g o => match σ.hp[id]? with
   | some (.cells g' vs) => match vs[o + off]? with
    | some (.z _) => g' = g ∧ wpR Γ E a Q ⟨σ.fr, σ.hp.set id (.cells g (vs.set (o + off) (.rf σ.hp.length 0 0 0 es))) ++ [.cells 0 []]⟩
    | _ => False
   | _ => False
  | _ => False
 | .owni t i off es a, Q, σ => match σ.fr t, σ.fr i with
  | .rf id g o _ es', .i k => match σ.hp[id]? with
   | some (.cells g' vs) => match vs[o + k.toNat * es' + off]? with
    | some (.z _) => g' = g ∧ wpR Γ E a Q ⟨σ.fr, σ.hp.set id (.cells g (vs.set (o + k.toNat * es' + off) (.rf σ.hp.length 0 0 0 es))) ++ [.cells 0 []]⟩
    | _ => False
   | _ => False
  | _, _ => False
 | .nxt d m it, Q, σ => match σ.fr it with
  | .it id g => match σ.hp[id]? with
   | some (.iter mid n left _) => match σ.hp[mid]? with
    | some (.map _ ks _) => g = 0 ∧ ks.length = n ∧ (left = [] → Q .normal ⟨upd (upd σ.fr (some d) .u) (some m) (.b false), σ.hp⟩) ∧
      ∀ j ∈ left, Q .normal ⟨upd (upd σ.fr (some d) .u) (some m) (.b true), σ.hp.set id (.iter mid n (left.erase j) (some j))⟩
    | _ => False
   | _ => False
  | _ => False
 | .rfn f ps lo b a, Q, σ => match evO σ.fr f with
  | .fn gf caps => match Γ (2000000 + gf) (caps.map (vw σ.hp 8)) with
   | (ok, .sl 0 ys) => gf < 1000000 ∧ ok ∧ Qa4 caps = false ∧ (∀ x ∈ ys, x.length = ps.length) ∧ ∃ I : Nat → List Blk → Prop, I 0 (cutH lo σ.hp) ∧
     (∀ k x hp, ys[k]? = some x → I k hp → wpR Γ E b (rnQ (wpR Γ E a (rndQ Q lo (fun t => cutV σ.hp lo (σ.fr t)) (I (k + 1))))) ⟨updL (fun t => cutV σ.hp lo (σ.fr t)) ps x, hp⟩) ∧
     ∀ hp, I ys.length hp → Q .normal ⟨fun t => cutV σ.hp lo (σ.fr t), hp⟩
   | _ => False
  | _ => False
 | .itm l, Q, σ => runI Γ E l σ (Q .normal)
 | .rnl g l1 y l2, Q, σ => runR Γ E g 0 l1 σ fun σ1 => match y.x with
  | .q (.len a) => match opv g σ1.fr a with
   | .sl _ rows => Qau g y σ1.fr ∧ ∀ b, (rows ≠ [] → b = false) → runR Γ E g 0 l2 ⟨upd σ1.fr y.dst (.b b), σ1.hp⟩ (Q .normal)
   | .z _ => Qau g y σ1.fr ∧ ∀ b, runR Γ E g 0 l2 ⟨upd σ1.fr y.dst (.b b), σ1.hp⟩ (Q .normal)
   | _ => False
  | _ => False
 | .scp a, Q, σ => wpR Γ E a (noGo Q) σ
 | .dum a, Q, σ => wpR Γ E a Q ⟨σ.fr, σ.hp ++ [.hole]⟩
 | .yrh g l1 y l2, Q, σ => runR Γ E g 0 l1 σ fun σ1 => match Qb8 σ1.fr y.gd with
  | none => False
  | some false => runR Γ E g 0 l2 ⟨upd σ1.fr y.dst (.gv false .u), σ1.hp⟩ (Q .normal)
  | some true => match y.x with
   | .o f args => match opv g σ1.fr f, σ1.hp with
    | .yl l, .gh caps (some ((.b true :: bv) :: [.tp x, .tp z] :: rest)) :: tl => Qau g y σ1.fr ∧ caps[0]? = some (.yl l) ∧ args.map (opv g σ1.fr) = x ∧ tl = (bv ++ z).map vB ∧
      ∀ b bv', Γ.al bv' → runR Γ E g 0 l2 ⟨upd σ1.fr y.dst (yres y.gd b), .gh caps (some ((.b b :: bv') :: if b then rest else [])) :: (bv' ++ z).map vB⟩ (Q .normal)
    | _, _ => False
   | _ => False
 | .ycl lo g l1 y l2, Q, σ => runR Γ E g 0 l1 σ fun σ1 => match y.x with
  | .o f args => match opv g σ1.fr f with
   | .fn gf caps => Qau g y σ1.fr ∧ lo ≤ σ1.hp.length ∧ (Γ.y gf Γ.al (args.map (opv g σ1.fr) ++ caps) σ1.hp).1 ∧
     ∀ r hp', (Γ.y gf Γ.al (args.map (opv g σ1.fr) ++ caps) σ1.hp).2 r hp' → runR Γ E g 0 l2 ⟨upd σ1.fr y.dst r, hp'⟩ (Q .normal)
   | _ => False
  | _ => False
 | .rfh f ps lo zl b a, Q, σ => match cutV σ.hp lo (evO σ.fr f) with
  | .fn gf caps => ∃ (al : List V → Prop) (ys : List (List V × List V)) (bv0 : List V) (I : Nat → List V → Prop), cutH lo σ.hp = .hole :: bv0.map vB ∧ I 0 bv0 ∧
    (∀ k bv, I k bv → al bv) ∧ (∀ bv, al bv → bv.length + 1 = lo ∧ ∀ hp, (bv.map vB).map (cutB hp lo) = bv.map vB) ∧
    (∀ l, (Γ.y gf al (.yl l :: caps) (.gh (.yl l :: caps) (some ((.b true :: bv0) :: ys.map fun y => gyE y.1 y.2)) :: bv0.map vB)).1 ∧
     ∀ r hp', (Γ.y gf al (.yl l :: caps) (.gh (.yl l :: caps) (some ((.b true :: bv0) :: ys.map fun y => gyE y.1 y.2)) :: bv0.map vB)).2 r hp' →
      ∃ (b : Bool) (bv' : List V) (rest : List (List V)) (tl : List Blk), hp' = .gh (.yl l :: caps) (some ((.b b :: bv') :: rest)) :: (bv'.map vB ++ tl) ∧ (b = true → rest = []) ∧ al bv') ∧
    (∀ k x z bv, ys[k]? = some (x, z) → I k bv → x.length = ps.length ∧ z.length ≤ zl ∧
     wpR Γ E b (rnQ (wpR Γ E a (rndH Q lo zl (fun t => cutV σ.hp lo (σ.fr t)) z al (I (k + 1))))) ⟨updL (fun t => cutV σ.hp lo (σ.fr t)) ps x, .hole :: (bv ++ z).map vB⟩) ∧
    ∀ bv, I ys.length bv → Q .normal ⟨fun t => cutV σ.hp lo (σ.fr t), .hole :: bv.map vB⟩
  | _ => False
 | .swp i j a, Q, σ => i < σ.hp.length ∧ j < σ.hp.length ∧ wpR Γ E a Q ⟨fun t => renV (sw i j) (σ.fr t), swH i j σ.hp⟩
 | .crl g l1 y l2, Q, σ => runR Γ E g 0 l1 σ fun σ1 => match y.x with
  | .o f args => match opv g σ1.fr f with
   | .fn gf caps => Qau g y σ1.fr ∧ gf < 1000000 ∧ Qa4 (args.map (opv g σ1.fr) ++ caps) = false ∧ (Γ (3000000 + gf) ((args.map (opv g σ1.fr) ++ caps).map (vw σ1.hp 8))).1 ∧
     ∀ r bs, (Γ (4000000 + gf) (.tp (r :: bs) :: (args.map (opv g σ1.fr) ++ caps).map (vw σ1.hp 8))).1 →
      runR Γ E g 0 l2 ⟨upd σ1.fr y.dst (shV σ1.hp.length r), σ1.hp ++ (bs.map vB).map (shB σ1.hp.length)⟩ (Q .normal)
   | _ => False
  | _ => False
 | .hcl g l1 y l2, Q, σ => runR Γ E g 0 l1 σ fun σ1 => match y.x with
  | .o f args => match opv g σ1.fr f with
   | .fn gf caps => Qau g y σ1.fr ∧ (Γ.h gf (args.map (opv g σ1.fr) ++ caps) σ1.hp).1 ∧
     ∀ r hp', (Γ.h gf (args.map (opv g σ1.fr) ++ caps) σ1.hp).2 r hp' → runR Γ E g 0 l2 ⟨upd σ1.fr y.dst r, hp'⟩ (Q .normal)
   | _ => False
  | _ => False
 | .hca g m1 l1 y m2 l2, Q, σ => runX Γ E g σ.hp.length l1 [] ⟨σ.fr, σ.hp ++ Qm m1 .hole⟩ fun σ1 => match y.o.x with
  | .o f args => match opv g σ1.fr f with
   | .fn gf caps => Qau g y.o σ1.fr ∧ (Γ.h gf (args.map (opv g σ1.fr) ++ caps) σ1.hp).1 ∧
     ∀ r hp', (Γ.h gf (args.map (opv g σ1.fr) ++ caps) σ1.hp).2 r hp' → runX Γ E g hp'.length l2 (Qm (l1.length + 1) ⟨none, []⟩) ⟨upd σ1.fr y.o.dst r, hp' ++ Qm m2 .hole⟩ (Q .normal)
   | _ => False
  | _ => False
 | .yrg g l1 y ks l2, Q, σ => runR Γ E g 0 l1 σ fun σ1 => match Qb8 σ1.fr y.gd with
  | none => False
  | some false => runR Γ E g 0 l2 ⟨upd σ1.fr y.dst (.gv false .u), σ1.hp⟩ (Q .normal)
  | some true => match y.x with
   | .o f args => match opv g σ1.fr f, σ1.hp with
    | .yl l, [.gh caps (some (x :: rest))] => Qau g y σ1.fr ∧ caps[0]? = some (.yl l) ∧ args.map (opv g σ1.fr) = x ∧ Qd3 x = true ∧ (∀ t ∈ ks, Qo3 (σ1.fr t) = true ∨ caps[t]? = some (σ1.fr t)) ∧
      ∀ b, runR Γ E g 0 l2 ⟨upd (lkp (Qo6 ks σ1.fr)) y.dst (yres y.gd b), [.gh caps (if b then some rest else none)]⟩ (Q .normal)
    | _, _ => False
   | _ => False
def Qbs (ops : Array Oper) : Bool := ops.all fun o => o.guard.isNone
def Qwt (N : Nat × Nat) (o1 o2 : Oper) (d m it : Nat) : Bool :=
 (match o1.dst, o1.op, o1.guard with
  | some d', .next (.tmp it') false, none => d' == d && it' == it && Qhx N (some d)
  | _, _, _ => false) &&
 (match o2.dst, o2.op, o2.guard with
  | some m', .extract (.tmp d') 0, none => m' == m && d' == d && Qhx N (some m)
  | _, _, _ => false)
def resY (P : Program) (N : Nat × Nat) (ops : Array Oper) (o : Oper) : Option RO :=
 if Qhx N o.dst && o.dst.isSome then
  match gdOf ops o.guard, Qgo P o with
  | some gd, some x => some ⟨o.dst, gd, o.op.operands.toList.filterMap Qg3, none, .o x.1 x.2⟩
  | _, _ => none
 else none
def resC (P : Program) (N : Nat × Nat) (o : Oper) : Option RO :=
 if Qhx N o.dst && o.guard.isNone then (Qgo P o).map fun x => ⟨o.dst, none, o.op.operands.toList.filterMap Qg3, none, .o x.1 x.2⟩ else none
def resN (P : Program) (N : Nat × Nat) (o : Oper) : Option RO :=
 if Qhx N o.dst && o.guard.isNone then match o.op with
  | .binOp .eql t x (.const (.slice none 0 0)) _ => (elB P t).bind fun _ => (rOd P t x).map fun a => ⟨o.dst, none, o.op.operands.toList.filterMap Qg3, none, .q (.len a)⟩
  | _ => none
 else none
def dOk (lo : Nat) : Option Nat → Bool | some n => decide (lo ≤ n) | none => true
def zipX (rs : List RO) (l : List AnyOp) : List AnyOp := rs.zipWith (fun r (x : AnyOp) => (⟨{ r with nid := x.o.nid }, x.js, x.an⟩ : AnyOp)) l
def Qw9 (ops : Array Oper) (r1 : List RO) (l1 : List AnyOp) (y1 : RO) (y : AnyOp) (r2 : List RO) (l2 : List AnyOp) : Bool :=
 Qqm (zipX r1 l1 ++ ⟨y1, [], y.an⟩ :: zipX r2 l2) && ancB ops (zipX r1 l1 ++ ⟨y1, [], y.an⟩ :: zipX r2 l2) && decide (r1.length = l1.length) && decide (r2.length = l2.length) &&
  (Qy l1.length).all (fun i => y.an.contains i) && (zipX r2 l2).all fun z => z.an.contains l1.length
def resI (P : Program) (pu : List Nat) (N : Nat × Nat) (ops : Array Oper) : It → Oper → Option It
 | .r _, o => (resO P pu N ops o).map .r
 | .w _, o => if Qhx N o.dst then match gdOf ops o.guard with
  | some gd => (resW P o).map fun q => .w ⟨o.dst, gd, o.op.operands.toList.filterMap Qg3, none, .w q⟩
  | none => none
  else none
 | .h _, o => if Qhx N o.dst then match gdOf ops o.guard with
  | some gd => (Qgo P o).map fun x => .h ⟨o.dst, gd, o.op.operands.toList.filterMap Qg3, none, .o x.1 x.2⟩
  | none => none
  else none
def comp (P : Program) (pu : List Nat) (N : Nat × Nat) : Nat → Nat → RC → Code → Option RC
 | lo, top, .keep l a, c => (comp P pu N lo top a c).map (.keep l)
 | lo, top, .drp n a, c => if lo ≤ n then (comp P pu N lo top a c).map (.drp n) else none
 | lo, top, .own t es a, c => (comp P pu N lo top a c).map (.own t es)
 | lo, top, .owng t es gs a, c => (comp P pu N lo top a c).map (.owng t es gs)
 | lo, top, .ownc t off es a, c => (comp P pu N lo top a c).map (.ownc t off es)
 | lo, top, .owni t i off es a, c => (comp P pu N lo top a c).map (.owni t i off es)
 | _, _, .no, _ => some .no
 | _, _, .skip, .skip => some .skip
 | _, _, .skip, .label _ => some .skip
 | _, _, .rnl g l1 _ l2, .region _ ops false => if g || Qbs ops then
   match ops[l1.length]? with
   | some o => match (ops.toList.take l1.length).mapM (fun o => resO P pu N ops o), resN P N o, (ops.toList.drop (l1.length + 1)).mapM (fun o => resO P pu N ops o) with
    | some r1, some y, some r2 => if r1.length == l1.length then some (.rnl g r1 y r2) else none
    | _, _, _ => none
   | none => none
  else none
 | lo, top, .scp a, .scope c => (comp P pu N lo top a c).map .scp
 | lo, top, .dum a, c => (comp P pu N lo top a c).map .dum
 | _, top, .yrh g l1 _ l2, .region _ ops false => if top == 3 && (g || Qbs ops) then
   match ops[l1.length]? with
   | some o => match (ops.toList.take l1.length).mapM (fun o => resO P pu N ops o), resY P N ops o, (ops.toList.drop (l1.length + 1)).mapM (fun o => resO P pu N ops o) with
    | some r1, some y, some r2 => if r1.length == l1.length then some (.yrh g r1 y r2) else none
    | _, _, _ => none
   | none => none
  else none
 | lo, top, .ycl _ g l1 _ l2, .region _ ops false => if top == 3 && (g || Qbs ops) then
   match ops[l1.length]? with
   | some o => match (ops.toList.take l1.length).mapM (fun o => resO P pu N ops o), resC P N o, (ops.toList.drop (l1.length + 1)).mapM (fun o => resO P pu N ops o) with
    | some r1, some y, some r2 => if r1.length == l1.length then some (.ycl lo g r1 y r2) else none
    | _, _, _ => none
   | none => none
  else none
 | _, _, .itm l, .region _ ops false => if l.length == ops.size then ((l.zip ops.toList).mapM fun p => resI P pu N ops p.1 p.2).map .itm else none
 | _, _, .reg g _, .region _ ops false => if g || Qbs ops then (ops.toList.mapM fun o => resO P pu N ops o).map (.reg g) else none
 | _, _, .nxt d m it, .region _ ops false => match ops.toList with
  | [o1, o2] => if Qwt N o1 o2 d m it then some (.nxt d m it) else none
  | _ => none
 | lo, top, .swp i j a, c => if top == 1 && lo == 0 then (comp P pu N lo top a c).map (.swp i j) else none
 | _, _, .crl g l1 _ l2, .region _ ops false => if g || Qbs ops then
   match ops[l1.length]? with
   | some o => match (ops.toList.take l1.length).mapM (fun o => resO P pu N ops o), resC P N o, (ops.toList.drop (l1.length + 1)).mapM (fun o => resO P pu N ops o) with
    | some r1, some y, some r2 => if r1.length == l1.length then some (.crl g r1 y r2) else none
    | _, _, _ => none
   | none => none
  else none
 | _, _, .hcl g l1 _ l2, .region _ ops false => if g || Qbs ops then
   match ops[l1.length]? with
   | some o => match (ops.toList.take l1.length).mapM (fun o => resO P pu N ops o), resC P N o, (ops.toList.drop (l1.length + 1)).mapM (fun o => resO P pu N ops o) with
    | some r1, some y, some r2 => if r1.length == l1.length then some (.hcl g r1 y r2) else none
    | _, _, _ => none
   | none => none
  else none
 | _, _, .hca g m1 l1 y m2 l2, .region _ ops true => if g || Qbs ops then
   match ops[l1.length]? with
   | some o => match (ops.toList.take l1.length).mapM (fun o => resO P pu N ops o), resC P N o, (ops.toList.drop (l1.length + 1)).mapM (fun o => resO P pu N ops o) with
    | some r1, some y1, some r2 =>
     if Qw9 ops r1 l1 y1 y r2 l2 then some (.hca g m1 (zipX r1 l1) ⟨y1, [], y.an⟩ m2 (zipX r2 l2)) else none
    | _, _, _ => none
   | none => none
  else none
 | _, top, .yrg g l1 _ ks l2, .region _ ops false => if top == 2 && (g || Qbs ops) then
   match ops[l1.length]? with
   | some o => match (ops.toList.take l1.length).mapM (fun o => resO P pu N ops o), resY P N ops o, (ops.toList.drop (l1.length + 1)).mapM (fun o => resO P pu N ops o) with
    | some r1, some y, some r2 => if r1.length == l1.length then some (.yrg g r1 y ks r2) else none
    | _, _, _ => none
   | none => none
  else none
 | _, _, .any g m l, .region _ ops true =>
  if (g || Qbs ops) then
   match ops.toList.mapM fun o => resO P pu N ops o with
   | some rs =>
    let l' := rs.zipWith (fun r (x : AnyOp) => (⟨{ r with nid := x.o.nid }, x.js, x.an⟩ : AnyOp)) l
    if Qqm l' && ancB ops l' && decide (l'.length = rs.length) then some (.any g m l') else none
   | none => none
  else none
 | lo, top, .seq a b, .seq x y => match comp P pu N lo top a x, comp P pu N lo top b y with
  | some a', some b' => some (.seq a' b')
  | _, _ => none
 | lo, top, .mid a b, .seq x y => match comp P pu N lo top a x, comp P pu N lo top b y with
  | some a', some b' => some (.mid a' b')
  | _, _ => none
 | lo, top, .cond _ a b, .cond c x y => match rOd P 0 c, comp P pu N lo top a x, comp P pu N lo top b y with
  | some c', some a', some b' => some (.cond c' a' b')
  | _, _, _ => none
 | lo, top, .block _ a, .block id x => (comp P pu N lo top a x).map (.block id)
 | lo, top, .loop l d a, .loop x => if dOk lo d then (comp P pu N lo top a x).map (.loop l d) else none
 | lo, top, .rfh _ _ lo' zl b a, .rangeFunc f ps x y => if top == 1 && decide (lo ≤ lo') && ps.all (fun p => Qhx N (some p)) then
   match rOd P 0 f, comp P pu N (lo' + zl) 0 b x, comp P pu N (lo' + zl) 0 a y with
   | some f', some b', some a' => some (.rfh f' ps.toList lo' zl b' a')
   | _, _, _ => none
  else none
 | lo, top, .rfn _ _ lo' b a, .rangeFunc f ps x y => if top == 1 && decide (lo ≤ lo') && ps.all (fun p => Qhx N (some p)) then
   match rOd P 0 f, comp P pu N lo' 0 b x, comp P pu N lo' 0 a y with
   | some f', some b', some a' => some (.rfn f' ps.toList lo' b' a')
   | _, _, _ => none
  else none
 | _, _, .exit _, .exit id => some (.exit id)
 | _, _, .ret, .ret => some .ret
 | _, _, _, _ => none
end Go.Fam
namespace Go.Fam
section
variable {P : Program} {F : Fence} {n : Nat} {Γ : Gam} {ops : Array Oper} {g : Bool} {base : Nat} {M : FrI} {pu : List Nat}
theorem Qug (hG : GOk P Γ) (hF : Qbz F) (hg : g = false → ∀ o ∈ ops, o.guard = none) {Q : Exit → Act → World → Prop} {τ : St} {U : Nat → Prop} {extra : Nat} :
  ∀ (fuel : Nat) (rest : List (Nat × RO × FP)) (listed : Array Bool) (σ : St) (S : Nat → Prop) (w : World) (O : OInfo) (a : Act),
   rest.length + extra ≤ fuel →
   (∀ i, listed.getD i true = false ↔ (∃ x ∈ rest, x.1 = i) ∨ U i) →
   rest.Pairwise (fun x y => x.1 < y.1 ∧ (Anc ops x.1 y.1 ∨ Qmo x y)) →
   (∀ x ∈ rest, ∃ o, ops[x.1]? = some o ∧ resO P pu M.nm ops o = some { x.2.1 with nid := none } ∧ ∀ e ∈ o.after, Region.binds .any e = true → e.on < x.1) →
   (∀ x ∈ rest, ∀ u, U u → Anc ops x.1 u ∧ x.1 < u) →
   (∀ i j, Anc ops i j → listed.getD j false = true → listed.getD i false = true) →
   (∀ i, i < ops.size → i < listed.size) →
   RunD Γ (Qat P) g base rest σ τ → SR M S w O σ a →
   (∀ fuel' listed' S' w' O' a', extra ≤ fuel' → (∀ i, listed'.getD i true = false ↔ U i) → (∀ i j, Anc ops i j → listed'.getD j false = true → listed'.getD i false = true) → (∀ i, i < ops.size → i < listed'.size) →
    Evol S S' w w' O O' → SR M S' w' O' τ a' → a'.defers = a.defers → wpAnyIn F n P .any ops Q fuel' listed' a' w') →
   wpAnyIn F n P .any ops Q fuel listed a w := by
 intro fuel
 induction fuel with
 | zero =>
  intro rest listed σ S w O a hf hl _ _ _ hc hsz hrun hsr hK
  have hnil : rest = [] := Qk (by omega)
  subst hnil
  simp only [RunD] at hrun
  subst hrun
  exact hK 0 listed S w O a (by omega) (fun i => by rw [hl]; simp) hc hsz (Evol.refl _ _ _) hsr rfl
 | succ fuel ih =>
  intro rest listed σ S w O a hf hl hp hr hU hc hsz hrun hsr hK
  by_cases hnil : rest = []
  ·subst hnil
   simp only [RunD] at hrun
   subst hrun
   exact hK _ listed S w O a (by simpa using hf) (fun i => by rw [hl]; simp) hc hsz (Evol.refl _ _ _) hsr rfl
  refine ⟨fun hnone => ?_, fun i hi => ?_⟩
  ·cases rest with
   | nil => exact absurd rfl hnil
   | cons x rest =>
    exfalso
    obtain ⟨o, ho, _, hlt⟩ := hr x (by simp)
    have : x.1 ∈ Region.ready .any ops listed := by
     rw [mem_ready]
     refine ⟨(hl x.1).2 (.inl ⟨x, by simp, rfl⟩), o, ho, fun e he hb => ?_⟩
     have h1 := hlt e he hb
     have h2 : ¬ listed.getD e.on true = false := by
      rw [hl]
      rintro (⟨y, hy, hye⟩ | hu)
      ·rcases Qb.1 hy with rfl | hy
       ·omega
       ·have := (Qn hp hy).1; omega
      ·have := (hU x (by simp) _ hu).2; omega
     have h3 : x.1 < ops.size := (Array.getElem?_eq_some_iff.1 ho).1
     have h4 := hsz e.on (by omega)
     simp [h4] at h2 ⊢
     exact h2
    rw [hnone] at this
    simp at this
  ·rw [mem_ready] at hi
   obtain ⟨h0, o, ho, hall⟩ := hi
   have hancl : ∀ y j, y = i → Anc ops j y → listed.getD j false = true := by
    rintro y j rfl h
    cases h with
    | base ho' he hb h =>
     rw [ho] at ho'; cases ho'
     rw [← h]
     exact hall _ he hb
    | step ho' he hb h =>
     rw [ho] at ho'; cases ho'
     exact hc _ _ h (hall _ he hb)
   have hcontra : ∀ j, listed.getD j true = false → listed.getD j false = true → False := by
    intro j h1 h2
    cases hle : listed[j]? with
    | none => simp [hle] at h1
    | some b => simp [hle] at h1 h2; simp_all
   obtain ⟨x, hx, hxi⟩ : ∃ x ∈ rest, x.1 = i := ((hl i).1 h0).resolve_right fun hu => by
    obtain ⟨y, ys, rfl⟩ := List.exists_cons_of_ne_nil hnil
    exact hcontra y.1 ((hl y.1).2 (.inl ⟨y, by simp, rfl⟩)) (hancl i y.1 rfl (hU y (by simp) i hu).1)
   subst hxi
   obtain ⟨A, B, rfl⟩ := Qw hx
   obtain ⟨o', ho', hro, hlt⟩ := hr x (by simp)
   rw [ho] at ho'
   cases ho'
   have hpa := Qt.1 hp
   have hpb := Qx.1 hpa.2.1
   have hind : ∀ y ∈ A, Qmo y x := by
    intro y hy
    rcases (hpa.2.2 y hy x (by simp)).2 with h | h
    ·exact (hcontra y.1 ((hl y.1).2 (.inl ⟨y, by simp [hy], rfl⟩)) (hancl x.1 y.1 rfl h)).elim
    ·exact h
   have hmv := RunD.move A σ hrun hind
   obtain ⟨hok, hrest⟩ := hmv.cons_split
   obtain ⟨hs1, hs2⟩ := Qlr hok
   refine Qk2 hG hF ho hro (fun hgf => hg hgf o (Array.mem_of_getElem? ho)) hsr hs1 ?_
   intro S' w' O' a' hev hsr' hdef
   rw [hs2] at hsr'
   have hnotU : ∀ u, U u → u ≠ x.1 := fun u hu => by have := (hU x hx u hu).2; omega
   refine ih (A ++ B) (listed.setIfInBounds x.1 true) _ S' w' O' a' ?_ ?_ ?_ ?_ ?_ ?_ ?_ hrest hsr' ?_
   ·simp at hf ⊢; omega
   ·intro i
    by_cases hix : i = x.1
    ·subst hix
     have hlt' : x.1 < listed.size := hsz _ (Array.getElem?_eq_some_iff.1 ho).1
     have hnot : ¬ ((∃ y ∈ A ++ B, y.1 = x.1) ∨ U x.1) := by
      rintro (⟨y, hy, hye⟩ | hu)
      ·rcases Qc.1 hy with hm | hm
       ·have := (hpa.2.2 _ hm x (by simp)).1; omega
       ·have := (hpb.1 _ hm).1; omega
      ·exact hnotU _ hu rfl
     rw [iff_false_right hnot]
     simp [hlt']
    ·rw [getD_set_ne true (Ne.symm hix), hl]
     refine or_congr ?_ Iff.rfl
     constructor
     ·rintro ⟨y, hy, rfl⟩
      refine ⟨y, ?_, rfl⟩
      simp only [Qc, Qb] at hy ⊢
      rcases hy with h | h | h
      ·exact .inl h
      ·subst h; exact absurd rfl hix
      ·exact .inr h
     ·rintro ⟨y, hy, rfl⟩
      exact ⟨y, by simp only [Qc, Qb] at hy ⊢; rcases hy with h | h <;> simp [h], rfl⟩
   ·refine List.Pairwise.sublist ?_ hp
    exact Qp.append (Qp.refl _) (Qq _ _)
   ·intro y hy
    refine hr y ?_
    simp only [Qc, Qb] at hy ⊢
    rcases hy with h | h <;> simp [h]
   ·intro y hy
    refine hU y ?_
    simp only [Qc, Qb] at hy ⊢
    rcases hy with h | h <;> simp [h]
   ·intro i j hij hj
    by_cases hjx : j = x.1
    ·exact getD_set_true (hancl j i hjx hij)
    ·rw [getD_set_ne false (Ne.symm hjx)] at hj
     exact getD_set_true (hc i j hij hj)
   ·intro i hi
    simpa using hsz i hi
   ·intro fuel' listed' S'' w'' O'' a'' h1 h2 h3 h4 hev' hsr'' hdef'
    exact hK fuel' listed' S'' w'' O'' a'' h1 h2 h3 h4 (hev.trans hev') hsr'' (hdef'.trans hdef)
theorem Qnt {lall l : List AnyOp} {k : Nat} (hsub : ∀ q y, l[q]? = some y → lall[k + q]? = some y) (hp : Qqm lall = true) (ha : ancB ops lall = true)
  (hopl : ∀ q y, l[q]? = some y → ∃ o, ops[k + q]? = some o ∧ resO P pu M.nm ops o = some { y.o with nid := none }) {done : List FP} (hk : k = done.length) {σ : St} {K : St → Prop} (hrun : runX Γ (Qat P) g base l done σ K) :
  ∃ rest τ, rest.length = l.length ∧ (∀ i, (∃ x ∈ rest, x.1 = i) ↔ k ≤ i ∧ i < k + l.length) ∧ rest.Pairwise (fun x y => x.1 < y.1 ∧ (Anc ops x.1 y.1 ∨ Qmo x y)) ∧
   (∀ x ∈ rest, ∃ o, ops[x.1]? = some o ∧ resO P pu M.nm ops o = some { x.2.1 with nid := none } ∧ ∀ e ∈ o.after, Region.binds .any e = true → e.on < x.1) ∧
   RunD Γ (Qat P) g base rest σ τ ∧ K τ := by
 obtain ⟨fs, τ, hfs, hr, hKτ, hd⟩ := Qo0 k done σ K hrun hk
 have hget : ∀ x ∈ (Qe k l.length).zip ((l.map (·.o)).zip fs), ∃ q y, x.1 = k + q ∧ l[q]? = some y ∧ y.o = x.2.1 ∧ fs[q]? = some x.2.2 := by
  rintro ⟨i, o, f⟩ hx
  obtain ⟨q, hq⟩ := Qu hx
  rw [Qa] at hq
  obtain ⟨q1, q2⟩ := hq
  rw [Qa] at q2
  obtain ⟨q2, q3⟩ := q2
  have hqi : i = k + q := by
   rw [Qg] at q1
   ·simpa using q1.symm
   ·have := Qam q1; simpa using this
  subst hqi
  rw [Qh, Qr] at q2
  obtain ⟨y, hy, rfl⟩ := q2
  exact ⟨q, y, rfl, hy, rfl, q3⟩
 have hz : ∀ q x f, l[q]? = some x → fs[q]? = some f → (k + q, x.o, f) ∈ (Qe k l.length).zip ((l.map (·.o)).zip fs) := by
  intro q x f hx hf
  refine Qv (i := q) ?_
  rw [Qa]
  have := Qam hx
  refine ⟨by rw [Qg this]; simp, ?_⟩
  rw [Qa]
  exact ⟨by simp [hx], hf⟩
 have hpairs : ∀ i j x y, l[i]? = some x → l[j]? = some y → i < j → Anc ops (k + i) (k + j) ∨ ∀ fx fy, fs[i]? = some fx → fs[j]? = some fy → Qmo (k + i, x.o, fx) (k + j, y.o, fy) := by
  intro i j x y hx hy hij
  have hy' := hsub j y hy
  have hx' := hsub i x hx
  have hjl := Qam hy'
  have h1 := Qd.1 hp (k + j) (by simpa using hjl)
  simp only [hy'] at h1
  have h2 := Qd.1 h1 (k + i) (by simp; omega)
  simp only [hx', Qs, Qi] at h2
  rcases h2 with h2 | ⟨h2, h3⟩
  ·obtain ⟨o, ho, _⟩ := hopl j y hy
   exact .inl ((Qdf ha (k + j) y hy' (Array.getElem?_eq_some_iff.1 ho).1).1 (k + i) (by simpa using h2))
  ·right
   intro fx fy hfx hfy
   refine ⟨h2, ?_⟩
   rcases h3 with h3 | h3
   ·have := hd j y fy hy hfy (k + i) (by simpa using h3)
    rcases this with h4 | h4
    ·rw [List.getD_eq_getElem?_getD, Ql (by omega)] at h4
     rw [show k + i - done.length = i by omega, hfx] at h4
     exact h4
    ·omega
   ·have e1 := RunD.quiet _ _ _ hr _ (hz i x fx hx hfx) h3.1
    have e2 := RunD.quiet _ _ _ hr _ (hz j y fy hy hfy) h3.2
    simp only at e1 e2
    simp [Qcj, hits, e1, e2]
 refine ⟨_, τ, ?_, ?_, ?_, ?_, hr, hKτ⟩
 ·simp [hfs]
 ·intro i
  constructor
  ·rintro ⟨x, hx, rfl⟩
   obtain ⟨q, y, e, hy, _⟩ := hget x hx
   have := Qam hy
   omega
  ·rintro ⟨h1, h2⟩
   have h3 : i - k < l.length := by omega
   refine ⟨_, hz (i - k) l[i - k] fs[i - k] (by simp [h3]) (by simp [hfs, h3]), ?_⟩
   show k + (i - k) = i
   omega
 ·rw [Qo]
  intro i j hi hj hij
  obtain ⟨qi, x, ex, hx, hxo, hxf⟩ := hget _ (Qj hi)
  obtain ⟨qj, y, ey, hy, hyo, hyf⟩ := hget _ (Qj hj)
  have ei : (((Qe k l.length).zip ((l.map (·.o)).zip fs))[i]).1 = k + i := by simp
  have ej : (((Qe k l.length).zip ((l.map (·.o)).zip fs))[j]).1 = k + j := by simp
  have e1 : qi = i := by omega
  have e2 : qj = j := by omega
  subst e1 e2
  rw [ei, ej]
  refine ⟨by omega, (hpairs qi qj x y hx hy hij).imp (fun h => h) fun h => ?_⟩
  have := h _ _ hxf hyf
  rw [hxo, hyo, ← ex, ← ey] at this
  exact this
 ·intro x hx
  obtain ⟨q, y, ex, hy, hyo, _⟩ := hget x hx
  obtain ⟨o, ho, hr'⟩ := hopl _ _ hy
  rw [← ex] at ho
  refine ⟨o, ho, by rw [← hyo]; exact hr', fun e he hb => ?_⟩
  have := (Qdf ha _ y (hsub q y hy) (by rw [← ex]; exact (Array.getElem?_eq_some_iff.1 ho).1)).2 o (by rw [← ex]; exact ho) e he hb
  omega
end
end Go.Fam
