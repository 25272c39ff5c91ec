import Derived.Test.YthnjkbahffgemaaGreatG2
set_option linter.all false
namespace Go.Fam
theorem resO_nid {P : Program} {pu : List Nat} {N : Nat × Nat} {ops : Array Oper} {o : Oper} {r : RO} (h : resO P pu N ops o = some r) : r.nid = none := by
 unfold resO at h
 split at h
 ·split at h
  ·cases h
  ·split at h
   ·split at h
    ·rw [Option.map_eq_some_iff] at h
     obtain ⟨_, _, rfl⟩ := h
     rfl
    ·cases h
   ·split at h
    ·cases h; rfl
    ·split at h
     ·rw [Option.map_eq_some_iff] at h
      obtain ⟨_, _, rfl⟩ := h
      rfl
     ·cases h
 ·cases h
theorem mapM_some {α β : Type} {f : α → Option β} : ∀ {l : List α} {r : List β}, l.mapM f = some r → l.map f = r.map some
 | [], r, h => by simp at h; subst h; rfl
 | x :: l, r, h => by
  rw [List.mapM_cons] at h
  simp only [Option.bind_eq_bind, Option.bind_eq_some_iff, Option.pure_def, Option.some.injEq] at h
  obtain ⟨y, hy, ys, hys, rfl⟩ := h
  simp [hy, mapM_some hys]
theorem least_ex {p : Nat → Prop} (h : ∃ k, p k) : ∃ k, p k ∧ ∀ j, p j → k ≤ j := by
 obtain ⟨k, hk⟩ := h
 induction k using Nat.strongRecOn with
 | _ k ih =>
  by_cases hj : ∃ j, j < k ∧ p j
  ·obtain ⟨j, hj, hp⟩ := hj
   exact ih j hj hp
  ·exact ⟨k, hk, fun j hpj => Nat.le_of_not_lt fun hlt => hj ⟨j, hlt, hpj⟩⟩
open Classical in
noncomputable def leastN (p : Nat → Prop) : Nat := if h : ∃ k, p k then (least_ex h).choose else 0
theorem leastN_spec {p : Nat → Prop} (h : ∃ k, p k) : p (leastN p) ∧ ∀ j, p j → leastN p ≤ j := by
 unfold leastN
 rw [dif_pos h]
 exact (least_ex h).choose_spec
theorem wpIn_loopN {F : Fence} {n : Nat} {P : Program} {c : Code} {Q : Exit → Act → World → Prop} {a : Act} {w : World} (I : Nat → Act → World → Prop) (h0 : ∃ k, I k a w)
  (round : ∀ k a w, I k a w → c.wpIn F n P (Exit.then (fun a' w' => ∃ j, j < k ∧ I j a' w') Q) a w) : (Code.loop c).wpIn F n P Q a w := by
 refine wpIn_loop (fun a w => ∃ k, I k a w) (fun a w => leastN fun k => I k a w) h0 fun a w h => ?_
 refine wpIn_mono (round _ a w (leastN_spec h).1) fun e a' w' he => ?_
 cases e <;> first | exact he | skip
 obtain ⟨j, hj, hI⟩ := he
 exact ⟨⟨j, hI⟩, Nat.lt_of_le_of_lt ((leastN_spec ⟨j, hI⟩).2 j hI) hj⟩
theorem stepR_scope {b : Frame} {a : Act} {k : List Item} {cs : List Frame} {w : World} {P : Program} {c : Code} : Go.step P (lone (b.atR a (.code (.scope c) :: k)) cs w) = .next (lone (b.atR a (.code c :: .inScope c :: k)) cs w) :=
 step_lone_go (by simp [stepG, stepG.exec, Frame.atR])
theorem stepR_inScope {b : Frame} {a : Act} {k : List Item} {cs : List Frame} {w : World} {P : Program} {c : Code} : Go.step P (lone (b.atR a (.inScope c :: k)) cs w) = .next (lone (b.atR a k) cs w) :=
 step_lone_go (by simp [stepG, stepG.exec, Frame.atR])
def noGoto (Q : Exit → Act → World → Prop) : Exit → Act → World → Prop
 | .goto _, _, _ => False
 | e, a, w => Q e a w
theorem wpIn_scope_straight {F : Fence} {n : Nat} {P : Program} {Q : Exit → Act → World → Prop} {a : Act} {w : World} {c : Code} (h : c.wpIn F n P (noGoto Q) a w) : (Code.scope c).wpIn F n P Q a w := by
 intro b k cs hro hb hr
 have h0 : (lone (b.atR a (.code (.scope c) :: k)) cs w).fenced P F := fenced_calm hb hr rfl
 obtain ⟨e, a₁, w₁, hq, harr⟩ := h b (.inScope c :: k) cs hro hb hr
 cases e with
 | normal => exact ⟨.normal, a₁, w₁, hq, .head h0 stepR_scope (StepsIn.trans harr (.one (fenced_calm hb hr rfl) stepR_inScope))⟩
 | exit id =>
  have hx : exitTo id (.inScope c :: k) = exitTo id k := by simp [exitTo]
  exact ⟨.exit id, a₁, w₁, hq, fun k' hk => .head h0 stepR_scope (harr.1 k' (by rw [hx]; exact hk)),
   fun hr' hk => let ⟨k₁, h1, h2⟩ := harr.2 hr' (by rw [hx]; exact hk); ⟨k₁, h1, .head h0 stepR_scope h2⟩⟩
 | goto l => exact hq.elim
 | ret => exact ⟨_, a₁, w₁, hq, .of_steps (.one h0 stepR_scope) harr⟩
 | panic ch => exact ⟨_, a₁, w₁, hq, .of_steps (.one h0 stepR_scope) harr⟩
 | outgrown => exact ⟨_, a₁, w₁, hq, .of_steps (.one h0 stepR_scope) harr⟩
abbrev Ctx := (Nat → Prop) → World → OInfo → List Deferred → Option (List V × Option (List (List V))) → Prop
abbrev col (D : Nat) : Deferred := { target := .collected D, args := #[] }
abbrev Gh := Option (List V × Option (List (List V)))
structure CtxOk (P : Program) (F : Fence) (n : Nat) (M : FrI) (C : Ctx) (lo : Nat) (top : Nat) (base : Nat) : Prop where
 evol : ∀ {S S' : Nat → Prop} {w w' : World} {O O' : OInfo} {ds : List Deferred} {h h' : Gh}, C S w O ds h → (∀ k, S k → k < w.heap.size) → Evol S S' w w' O O' → (∀ y, h = some y → h' = some y) → C S' w' O' ds h'
 cut : ∀ {S : Nat → Prop} {w : World} {O : OInfo} {ds : List Deferred} {h h' : Gh} {k : Nat}, C S w O ds h → lo ≤ k → (1 ≤ lo → ∀ y, h = some y → h' = some y) → C (cutS S O k) w (restO O k) ds h'
 rnd : top = 1 → F.round = none
 big : top = 1 → ∀ {S : Nat → Prop} {w : World} {O : OInfo} {ds : List Deferred} {h : Gh}, C S w O ds h → base ≤ w.heap.size
 turn : top = 1 → ∀ {S : Nat → Prop} {w : World} {O : OInfo} {ds : List Deferred} {h : Gh} {L : Nat} {r r' : Loop}, C S w O ds h → w.heap[L]? = some (.loop r) → ¬ S L → ¬ Own O L → base ≤ L → C S (w.putObj L (.loop r')) O ds h
 enter : top = 1 → ∀ {S : Nat → Prop} {w : World} {O : OInfo} {ds : List Deferred} {h : Gh} {r : Loop}, C S w O ds h → (∀ k, S k → k < w.heap.size) → (∀ k, Own O k → k < w.heap.size) →
  C S ((w.alloc (.deferred (some []))).alloc (.loop r)) O (col w.heap.size :: ds) h
 ren : top = 1 → lo = 0 → ∀ {S : Nat → Prop} {w : World} {O O' : OInfo} {ds : List Deferred} {h h' : Gh}, C S w O ds h → (∀ k, Own O' k → Own O k) → C S w O' ds h'
 yld : top = 2 → ∀ {S : Nat → Prop} {w : World} {O : OInfo} {ds : List Deferred} {caps x : List V} {rest : List (List V)} {cx : Array Value} {l : Nat}, C S w O ds (some (caps, some (x :: rest))) → (∀ k, S k → k < w.heap.size) → (∀ id, O id = none) → caps[0]? = some (.yl l) →
  RepL (fun _ => False) w noO x cx.toList → cx.size = x.length → YieldAt F (n - 1) P l cx w fun e W' => ∃ b S', e = .returned (.bool b) ∧ C S' W' noO ds (some (caps, if b then some rest else none)) ∧
   (∀ k, S' k → k < W'.heap.size) ∧ ∀ t v, caps[t]? = some v → t < M.md ∧ Rep S' W' noO v (M.T t)
 yldh : top = 3 → ∀ {S : Nat → Prop} {w : World} {O : OInfo} {ds : List Deferred} {caps bv x z : List V} {rest : List (List V)} {cx : Array Value} {l m : Nat}, C S w O ds (some (caps, some (gyA true bv :: gyE x z :: rest))) → Mat S w O (.hole :: (bv ++ z).map vB) →
  caps[0]? = some (.yl l) → RepL S w O x cx.toList → cx.size = x.length → YieldAt F m P l cx w fun e W' => ∃ b S' O' bv', e = .returned (.bool b) ∧ M.al bv' ∧ C S' W' O' ds (some (caps, some (gyA b bv' :: if b then rest else []))) ∧
   Ext S S' w W' O O' ∧ Mat S' W' O' (.hole :: (bv' ++ z).map vB)
 rnd3 : top = 3 → F.round = none
structure At (C : Ctx) (M : FrI) (S : Nat → Prop) (w : World) (O : OInfo) (σ : St) (a : Act) : Prop where
 ctx : C S w O a.defers (ghO σ.hp)
 sr : SR M S w O σ a
section
variable {P : Program} {F : Fence} {n : Nat} {Γ : Gam} {pu : List Nat} {M : FrI} {C : Ctx} {lo base : Nat} {top : Nat}
theorem ghO_cut {hp : List Blk} {y : List V × Option (List (List V))} (h : ghO hp = some y) {k : Nat} (hk : 1 ≤ k) : ghO (cutH k hp) = some y := by
 refine ghO_of ?_
 have := ghO_at h
 unfold cutH
 rw [List.getElem?_map, List.getElem?_take, if_pos (by omega), this]
 rfl
theorem lkp_rep (l : List Nat) (fr : Nat → V) (t : Nat) : lkp (l.map fun t => (t, fr t)) t = fr t ∨ lkp (l.map fun t => (t, fr t)) t = .u := by
 induction l with
 | nil => exact .inr rfl
 | cons k l ih =>
  simp only [List.map_cons, lkp]
  split
  ·rename_i e; subst e; exact .inl rfl
  ·exact ih
theorem lkp_out (l : List Nat) (fr : Nat → V) (t : Nat) (h : t ∉ l) : lkp (l.map fun t => (t, fr t)) t = .u := by
 induction l with
 | nil => rfl
 | cons k l ih =>
  simp only [List.mem_cons, not_or] at h
  simp only [List.map_cons, lkp]
  rw [if_neg h.1]
  exact ih h.2
theorem frM_keep {S : Nat → Prop} {w : World} {O : OInfo} {fr : Nat → V} {a : Act} (h : FrM S w O fr a) (l : List Nat) : FrM S w O (lkp (l.map fun t => (t, fr t))) a := by
 intro t
 rcases lkp_rep l fr t with e | e
 ·rw [e]; exact h t
 ·rw [e]; simp [Rep]
theorem At.keep {S : Nat → Prop} {w : World} {O : OInfo} {σ : St} {a : Act} (h : At C M S w O σ a) (l : List Nat) : At C M S w O ⟨lkp (l.map fun t => (t, σ.fr t)), σ.hp⟩ a :=
 ⟨h.ctx, ⟨h.sr.size, h.sr.kept, frM_keep h.sr.fr l, h.sr.mat⟩⟩
theorem At.drp (hC : CtxOk P F n M C lo top base) {S : Nat → Prop} {w : World} {O : OInfo} {σ : St} {a : Act} (h : At C M S w O σ a) {k : Nat} (hk : lo ≤ k) :
  At C M (cutS S O k) w (restO O k) ⟨fun t => cutV σ.hp k (σ.fr t), cutH k σ.hp⟩ a :=
 ⟨hC.cut h.ctx hk fun hl y hy => ghO_cut hy (by omega), ⟨h.sr.size, h.sr.kept, fun t => cut_rep h.sr.mat k _ _ (h.sr.fr t), cut_mat h.sr.mat k⟩⟩
theorem At.kp (hC : CtxOk P F n M C lo top base) {S : Nat → Prop} {w : World} {O : OInfo} {σ : St} {a : Act} (h : At C M S w O σ a) (l : List Nat) (d : Option Nat) (hd : ∀ k, d = some k → lo ≤ k) :
  ∃ S' O', At C M S' w O' (Fam.kp l d σ) a := by
 cases d with
 | none => exact ⟨S, O, h.keep l⟩
 | some k => exact ⟨_, _, (h.drp hC (hd k rfl)).keep l⟩
theorem Later.evol {S : Nat → Prop} {w w' : World} {O : OInfo} (h : Later w w') (hS : ∀ k, S k → k < w.heap.size) (hO : ∀ k, Own O k → k < w.heap.size) : Evol S S w w' O O :=
 ⟨⟨fun k hk => ⟨hk, h.old k (hS k hk)⟩, fun id g ob ho => ⟨g, ob, ho, Nat.le_refl _, fun _ => ⟨rfl, fun b cur e hb hh => ⟨cur, (h.old b (hO b ⟨id, g, by rw [ho, hb]⟩)).trans hh, rfl⟩⟩⟩⟩,
  h.os, h.tape, h.output, h.size, h.fz, fun k hk _ => h.old k hk, fun _ h => .inl h, fun _ h => .inl h⟩
theorem run_ops' (hG : GOk P Γ) (hF : OpenF F) {ops : Array Oper} {g : Bool} {b0 : Nat} (hg : g = false → ∀ o ∈ ops, o.guard = none) {Q : Exit → Act → World → Prop} {K : St → Prop} (rest : List Nat) :
  ∀ (l : List RO) (k : Nat) (σ : St) (S : Nat → Prop) (w : World) (O : OInfo) (a : Act), (∀ q r, l[q]? = some r → ∃ o, ops[k + q]? = some o ∧ resO P pu M.nm ops o = some { r with nid := none }) →
   runR Γ (EqFlat P) g b0 l σ K → SR M S w O σ a →
   (∀ τ S' w' O' a', K τ → (∀ y, ghO σ.hp = some y → ghO τ.hp = some y) → Evol S S' w w' O O' → SR M S' w' O' τ a' → a'.defers = a.defers → wpOpsIn F n P ops Q rest a' w') →
   wpOpsIn F n P ops Q (List.range' k l.length ++ rest) a w := by
 intro l
 induction l with
 | nil => intro k σ S w O a _ hrun hsr hK; exact hK σ S w O a hrun (fun _ h => h) (Evol.refl _ _ _) hsr rfl
 | cons r l ih =>
  intro k σ S w O a hops hrun hsr hK
  obtain ⟨hok, hrun⟩ := hrun
  rw [List.length_cons, List.range'_succ, List.cons_append, wpOpsIn_cons]
  obtain ⟨o, ho, hro⟩ := hops 0 r rfl
  refine op_step hG hF ho hro (fun hgf => hg hgf o (Array.mem_of_getElem? ho)) hsr hok ?_
  intro S' w' O' a' hev hsr' hdef
  refine ih (k + 1) _ S' w' O' a' ?_ hrun hsr' fun τ S'' w'' O'' a'' hKτ hgh hev' hsr'' hdef' => hK τ S'' w'' O'' a'' hKτ (fun y hy => hgh y (step_gh hok hy)) (hev.trans hev') hsr'' (hdef'.trans hdef)
  intro q r' hr'
  have := hops (q + 1) r' (by simpa using hr')
  rwa [Nat.add_comm q 1, ← Nat.add_assoc] at this
theorem cond_rep {S : Nat → Prop} {w : World} {O : OInfo} {fr : Nat → V} {a : Act} (h : FrM S w O fr a) {k' : Operand} {k1 : Od} {t : Bool} (h0 : rOd P 0 k' = some k1) (hk : evO fr k1 = .b t) : a.eval k' = .bool t := by
 have hrep : Rep S w O (evO fr k1) (a.eval k') := by
  cases k' with
  | tmp t' => simp only [rOd, Option.some.injEq] at h0; subst h0; exact h t'
  | const v =>
   simp only [rOd, Option.map_eq_some_iff] at h0
   obtain ⟨v', hv, rfl⟩ := h0
   exact cV_ok hv S w O
  | func f => simp only [rOd, Option.some.injEq] at h0; subst h0; simp [evO] at hk
  | global g => simp [rOd] at h0
 rw [hk] at hrep
 simpa [Rep] using hrep
theorem evO_rep {S : Nat → Prop} {w : World} {O : OInfo} {fr : Nat → V} {a : Act} (h : FrM S w O fr a) {k' : Operand} {k1 : Od} (h0 : rOd P 0 k' = some k1) : Rep S w O (evO fr k1) (a.eval k') := by
 cases k' with
 | tmp t' => simp only [rOd, Option.some.injEq] at h0; subst h0; exact h t'
 | const v =>
  simp only [rOd, Option.map_eq_some_iff] at h0
  obtain ⟨v', hv, rfl⟩ := h0
  exact cV_ok hv S w O
 | func f =>
  simp only [rOd, Option.some.injEq] at h0
  subst h0
  simp only [evO, Act.eval, Rep]
  exact ⟨#[], rfl, rfl, by simp [RepL]⟩
 | global g => simp [rOd] at h0
theorem dstOk_some {d : Nat} (h : dstOk M.nm (some d) = true) : d < M.n ∧ M.md ≤ d := by
 simp only [dstOk, Bool.and_eq_true] at h
 exact ⟨of_decide_eq_true h.1, of_decide_eq_true h.2⟩
theorem nxt_sound (hF : OpenF F) {N : Nat × Nat} {id' : Nat} {o1 o2 : Oper} {d m it : Nat} {ops : Array Oper} (hops : ops.toList = [o1, o2]) (hx : isNxt M.nm o1 o2 d m it = true)
  {Q : Exit → St → Prop} {Q' : Exit → Act → World → Prop} {σ : St} {S : Nat → Prop} {w : World} {O : OInfo} {a : Act} (hw : wpR Γ (EqFlat P) (.nxt d m it) Q σ) (hsr : SR M S w O σ a)
  (hQ : ∀ σ' w' a', Q .normal σ' → Evol S S w w' O O → (∀ y, ghO σ.hp = some y → ghO σ'.hp = some y) → SR M S w' O σ' a' → a'.defers = a.defers → Q' .normal a' w') : (Code.region id' ops false).wpIn F n P Q' a w := by
 have hops' : ops = #[o1, o2] := by rw [← hops]
 subst hops'
 unfold isNxt at hx
 simp only [Bool.and_eq_true] at hx
 obtain ⟨hx1, hx2⟩ := hx
 split at hx1
 ·rename_i d' it' hd1 hop1 hg1
  split at hx2
  ·rename_i m' d'' hd2 hop2 hg2
   simp only [Bool.and_eq_true, beq_iff_eq] at hx1 hx2
   obtain ⟨⟨rfl, rfl⟩, hdl⟩ := hx1
   obtain ⟨⟨rfl, rfl⟩, hml⟩ := hx2
   have hdl : d'' < M.n ∧ M.md ≤ d'' := dstOk_some hdl
   have hml : m' < M.n ∧ M.md ≤ m' := dstOk_some hml
   simp only [wpR] at hw
   have r1 := hsr.fr it'
   cases hit : σ.fr it' <;> simp only [hit] at hw <;> try exact hw.elim
   case it id g =>
    rw [hit] at r1
    cases hid : σ.hp[id]? with
    | none => simp [hid] at hw
    | some bk =>
     cases bk <;> simp only [hid] at hw <;> try exact hw.elim
     case iter mid nn left cur =>
      cases hmid : σ.hp[mid]? with
      | none => simp [hmid] at hw
      | some bk2 =>
       cases bk2 <;> simp only [hmid] at hw <;> try exact hw.elim
       case map st ks vs =>
        obtain ⟨rfl, hn, hw0, hw1⟩ := hw
        simp only [Rep] at r1
        obtain ⟨_, g', ob, hO, _, h1⟩ := r1
        have hbk := hsr.mat.blk id g' ob hO
        rw [hid] at hbk
        simp only [BlkOk] at hbk
        obtain ⟨rfl, b, mm, seen, rfl, hbi, hmp, hnd, hleft, hcur⟩ := hbk
        obtain ⟨b', hb', hc⟩ := h1 rfl
        cases hb'
        have hmp' : Rep S w O (.mp mid 0) (.map (some mm)) := by simp only [Rep]; exact hmp
        obtain ⟨b2, es, hO2, hc2, hb2, hes, hvs, hvl, hnd2, hst1⟩ := mp_block hsr.mat hmp' hmid rfl
        cases hc2
        have hes' := mapEs_len hes
        have hborn : ∀ x ∈ es.toList, x.born < nn := by
         intro x hx
         obtain ⟨i, hi⟩ := List.getElem?_of_mem hx
         rw [Array.getElem?_toList] at hi
         have h1 := hes.2 i x hi
         have h2 := (Array.getElem?_eq_some_iff.1 hi).1
         omega
        have hmem : ∀ j e, es[j]? = some e → j ∉ seen.toList → e ∈ (leftOf es seen).toList := by
         intro j e he hj
         have := hes.2 j e he
         simp only [leftOf, Array.toList_filter, List.mem_filter]
         refine ⟨by have := Array.mem_of_getElem? he; simpa using this, ?_⟩
         rw [this]; simpa using hj
        have hfr2 : ∀ (c : Value) (bb : Bool) (w' : World), Evol S S w w' O O → Rep S w' O (.b bb) (.bool bb) := fun _ _ _ _ => by simp [Rep]
        have fin : ∀ (tv : Array Value) (bb : Bool) (w' : World) (hp' : List Blk), (execOp a.eval o1).run P w = .ok (.value (.tuple tv)) w' → tv[0]? = some (.bool bb) → Evol S S w w' O O → Mat S w' O hp' →
          (∀ y, ghO σ.hp = some y → ghO hp' = some y) → Q .normal ⟨upd (upd σ.fr (some d'') .u) (some m') (.b bb), hp'⟩ → (Code.region id' #[o1, o2] false).wpIn F n P Q' a w := by
         intro tv bb w' hp' hrun htv hev hmat hgh hQn
         refine wpIn_region ?_
         show wpOpsIn F n P #[o1, o2] Q' [0, 1] a w
         rw [wpOpsIn_cons]
         simp only [wpOpIn, List.getElem?_toArray, List.getElem?_cons_zero]
         have hw1 : Region.wanted o1 (yielded #[o1, o2] a.tmps) = true := by simp [Region.wanted, hg1]
         rw [if_pos hw1]
         refine wpIn_value hF (by simp [hop1]) hrun ?_
         rw [wpOpsIn_cons]
         simp only [wpOpIn, List.getElem?_toArray, List.getElem?_cons_succ, List.getElem?_cons_zero]
         have hw2 : Region.wanted o2 (yielded #[o1, o2] (a.put o1.dst (.tuple tv)).tmps) = true := by simp [Region.wanted, hg2]
         rw [if_pos hw2]
         have hlt : d'' < a.tmps.size := by rw [hsr.size]; exact hdl.1
         have hdv : (a.put o1.dst (.tuple tv)).tmps.getD d'' undef = .tuple tv := by simp [hd1, Act.put, hlt]
         refine wpIn_value (w' := w') (c := .bool bb) hF (by simp [hop2]) ?_ ?_
         ·have : (a.put o1.dst (.tuple tv)).eval (.tmp d'') = .tuple tv := hdv
          simp [execOp, hop2, this, Instr.extract, htv]
         ·rw [wpOpsIn]
          refine hQ _ w' _ hQn hev hgh ⟨by rw [put_size, put_size]; exact hsr.size, ?_, ?_, hmat⟩ (by rw [put_defers, put_defers])
          ·intro t ht
           rw [put_ne _ _ _ _ (by intro d0 h0; rw [hd2] at h0; cases h0; omega), put_ne _ _ _ _ (by intro d0 h0; rw [hd1] at h0; cases h0; omega)]
           exact hsr.kept t ht
          ·have f1 : FrM S w' O (upd σ.fr (some d'') .u) (a.put o1.dst (.tuple tv)) := by
            rw [hd1]
            exact FrM.put hsr.fr hev.ext (fun d0 h0 => by cases h0; exact hlt) (by simp [Rep])
           rw [hd2]
           exact FrM.put (dst := some m') f1 (Ext.refl _ _ _) (fun d0 h0 => by cases h0; rw [put_size, hsr.size]; exact hml.1) (by simp [Rep])
        rcases run_next_at (P := P) w o1.type b mm nn nn seen es es.size hbi hb2 hborn (Nat.le_refl _) with ⟨h0, hrun⟩ | ⟨e, he, w1, hw1', hrun⟩
        ·have hl0 : left = [] := by
          rw [List.eq_nil_iff_forall_not_mem]
          intro j hj
          obtain ⟨hj1, hj2⟩ := (hleft j).1 hj
          obtain ⟨e, he⟩ : ∃ e : MapEntry, es[j]? = some e := ⟨_, Array.getElem?_eq_getElem (by omega)⟩
          have := hmem j e he hj2
          have hz : leftOf es seen = #[] := Array.eq_empty_of_size_eq_zero h0
          rw [hz] at this
          simp at this
         refine fin #[.bool false] false w σ.hp ?_ rfl (Evol.refl _ _ _) hsr.mat (fun _ h => h) (hw0 hl0)
         have hit' : a.eval (.tmp it') = .pointer (some ⟨b, 0, none⟩) := hc
         simp only [execOp, hop1, hit', hrun, Sem.run_bind, Result.andThen_ok, Sem.run_pure]
        ·obtain ⟨j, hj⟩ : ∃ j, es[j]? = some e := by
          simp only [leftOf, Array.toList_filter, List.mem_filter] at he
          obtain ⟨j, hj⟩ := List.getElem?_of_mem he.1
          exact ⟨j, by rwa [Array.getElem?_toList] at hj⟩
         have hjb := hes.2 j e hj
         have hjlt := (Array.getElem?_eq_some_iff.1 hj).1
         have hjs : j ∉ seen.toList := by
          simp only [leftOf, Array.toList_filter, List.mem_filter] at he
          have := he.2
          rw [hjb] at this
          simpa using this
         have hjl : j ∈ left := (hleft j).2 ⟨by omega, hjs⟩
         have hidlt := getElemLt hid
         obtain ⟨ho, hheap⟩ : (∃ ev : Evol S S w w1 O O, True) ∧ w1.heap = w.heap := by
          rcases hw1' with rfl | rfl
          ·exact ⟨⟨Evol.refl _ _ _, trivial⟩, rfl⟩
          ·exact ⟨⟨evol_drew S w O, trivial⟩, rfl⟩
         obtain ⟨ev, _⟩ := ho
         have hm1 : Mat S w1 O σ.hp := by
          rcases hw1' with rfl | rfl
          ·exact hsr.mat
          ·exact mat_drew hsr.mat
         obtain ⟨hev, hmat⟩ := put_obj hm1 hO (o' := .mapIter (some mm) nn (seen.push e.born) nn) (by rw [hheap]; exact hbi) rfl rfl hidlt (x := .iter mid nn (left.erase j) (some j)) fun hx hnew => by
          refine ⟨rfl, b, mm, seen.push e.born, rfl, hnew, ?_, hnd.erase _, fun k => ?_, fun k hk => ?_⟩
          ·exact Rep.ext (ev.ext.trans hx) _ _ hmp'
          ·rw [hnd.mem_erase_iff, hleft k, hjb]
           simp only [Array.toList_push, List.mem_append, List.mem_singleton]
           constructor
           ·rintro ⟨h1, h2, h3⟩; exact ⟨h2, fun h => h.elim h3 h1⟩
           ·rintro ⟨h1, h2⟩; exact ⟨fun h => h2 (.inr h), h1, fun h => h2 (.inl h)⟩
          ·cases hk
           exact ⟨by rw [hjb]; simp, by omega⟩
         refine fin #[.bool true, e.key, e.val] true _ _ ?_ rfl (ev.trans hev) hmat (fun y hy => ghO_set hy hid (fun _ _ h => by cases h)) (hw1 j hjl)
         have hit' : a.eval (.tmp it') = .pointer (some ⟨b, 0, none⟩) := hc
         simp only [execOp, hop1, hit', hrun, Sem.run_bind, Result.andThen_ok, Sem.run_pure]
         rw [hes', hn]
         rfl
  ·cases hx2
 ·cases hx1
theorem sfree_rep {S S' : Nat → Prop} {w w' : World} {O O' : OInfo} {v : V} {c : Value} (h : sfree v = true) (hr : Rep S w O v c) : Rep S' w' O' v c := by
 cases v <;> simp only [sfree] at h <;> first | exact flat_rep _ _ h hr | skip
 case yl l => simpa only [Rep] using hr
theorem resO_at {ops : Array Oper} {off cnt : Nat} {r1 : List RO} (h : ((ops.toList.drop off).take cnt).mapM (fun o => resO P pu M.nm ops o) = some r1) : ∀ q r, r1[q]? = some r → ∃ o, ops[off + q]? = some o ∧ resO P pu M.nm ops o = some { r with nid := none } := by
 intro q r hq
 have hm := mapM_some h
 have h1 := congrArg (fun l => l[q]?) hm
 simp only [List.getElem?_map, hq, Option.map_some, List.getElem?_take, List.getElem?_drop] at h1
 split at h1
 ·rw [Option.map_eq_some_iff] at h1
  obtain ⟨o, ho, hr⟩ := h1
  refine ⟨o, by simpa using ho, ?_⟩
  have := resO_nid hr
  rw [hr]
  cases r; simp_all
 ·cases h1
theorem yrg_sound (hG : GOk P Γ) (hF : OpenF F) (hC : CtxOk P F n M C lo 2 base) {g : Bool} {r1 r2 : List RO} {y : RO} {ks : List Nat} {id : Nat} {ops : Array Oper} {o : Oper} (hgd : (g || noGuard ops) = true)
  (ho : ops[r1.length]? = some o) (h1 : (ops.toList.take r1.length).mapM (fun o => resO P pu M.nm ops o) = some r1) (hy : resY P M.nm ops o = some y) (h2 : (ops.toList.drop (r1.length + 1)).mapM (fun o => resO P pu M.nm ops o) = some r2)
  {Q : Exit → St → Prop} {Q' : Exit → Act → World → Prop} {σ : St} {S : Nat → Prop} {w : World} {O : OInfo} {a : Act} (hw : wpR Γ (EqFlat P) (.yrg g r1 y ks r2) Q σ) (hat : At C M S w O σ a)
  (hQ : ∀ σ' S' w' O' a', Q .normal σ' → At C M S' w' O' σ' a' → Q' .normal a' w') : (Code.region id ops false).wpIn F n P Q' a w := by
 have hgn : g = false → ∀ o ∈ ops, o.guard = none := by
  intro hg o ho
  subst hg
  simp only [Bool.false_or, noGuard] at hgd
  have := Array.all_eq_true_iff_forall_mem.1 hgd o ho
  simpa using this
 have hlt := (Array.getElem?_eq_some_iff.1 ho).1
 have hl2 : r2.length = ops.size - (r1.length + 1) := by
  have := congrArg List.length (mapM_some h2)
  simpa using this.symm
 refine wpIn_region ?_
 have hrange : List.range ops.size = List.range' 0 r1.length ++ (r1.length :: List.range' (r1.length + 1) r2.length) := by
  rw [List.range_eq_range', ← List.range'_succ]
  have := List.range'_append_1 (s := 0) (m := r1.length) (n := r2.length + 1)
  rw [Nat.zero_add] at this
  rw [this]
  congr 1
  omega
 rw [hrange]
 refine run_ops' hG hF (pu := pu) hgn _ r1 0 σ S w O a (resO_at (off := 0) (cnt := r1.length) (by simpa using h1)) hw hat.sr ?_
 intro σ1 S1 w1 O1 a1 hw1 hgh1 hev1 hsr1 hd1
 have hat1 : At C M S1 w1 O1 σ1 a1 := ⟨by rw [hd1]; exact hC.evol hat.ctx hat.sr.mat.lt hev1 hgh1, hsr1⟩
 have rest : ∀ (σ2 : St) S2 w2 O2 a2, At C M S2 w2 O2 σ2 a2 → runR Γ (EqFlat P) g 0 r2 σ2 (Q .normal) → wpOpsIn F n P ops Q' (List.range' (r1.length + 1) r2.length) a2 w2 := by
  intro σ2 S2 w2 O2 a2 hat2 hrun
  have := run_ops' hG hF (pu := pu) (n := n) (Q := Q') hgn [] r2 (r1.length + 1) σ2 S2 w2 O2 a2 (resO_at (off := r1.length + 1) (cnt := ops.size) (by
   rw [List.take_of_length_le (by simp)]; exact h2)) hrun hat2.sr (fun τ S' w' O' a' hK hgh hev hsr hd => by
    rw [wpOpsIn]
    exact hQ τ S' w' O' a' hK ⟨by rw [hd]; exact hC.evol hat2.ctx hat2.sr.mat.lt hev hgh, hsr⟩)
  simpa using this
 have hrO : ∀ (q : Nat) (r : RO), r2[q]? = some r → True := fun _ _ _ => trivial
 rw [wpOpsIn_cons]
 simp only [wpOpIn, ho]
 unfold resY at hy
 split at hy
 ·rename_i hds
  simp only [Bool.and_eq_true] at hds
  obtain ⟨d, hd⟩ : ∃ d, o.dst = some d := by
   cases h : o.dst with
   | none => simp [h] at hds
   | some d => exact ⟨d, rfl⟩
  have hdl : d < M.n ∧ M.md ≤ d := by have := hds.1; rw [hd] at this; exact dstOk_some this
  have hdsz : d < a1.tmps.size := by rw [hsr1.size]; exact hdl.1
  split at hy
  ·rename_i gd fx hgdo hroc
   obtain ⟨f, xs⟩ := fx
   simp only [Option.some.injEq] at hy
   subst hy
   simp only [hd] at hw1
   have hkept : ∀ (c : Value) t, t < M.md → (a1.put o.dst c).tmps.getD t undef = M.T t := fun c t ht => (put_ne a1 o.dst c t fun d' hd' => by rw [hd] at hd'; cases hd'; omega).trans (hsr1.kept t ht)
   have wantc : ∀ c, condB σ1.fr gd = some c → Region.wanted o (yielded ops a1.tmps) = c := by
    intro c hc
    cases hgo : o.guard with
    | none =>
     rw [hgo] at hgdo
     simp only [gdOf, Option.some.injEq] at hgdo
     subst hgdo
     simp only [condB, Option.some.injEq] at hc
     simp [Region.wanted, hgo, ← hc]
    | some jw =>
     obtain ⟨j, want⟩ := jw
     rw [hgo] at hgdo
     simp only [gdOf, Option.map_eq_some_iff] at hgdo
     obtain ⟨s, hs, rfl⟩ := hgdo
     exact yield_cond hsr1.fr hgo hs hc
   cases hc : condB σ1.fr gd with
   | none => simp [hc] at hw1
   | some c =>
    have hwant := wantc c hc
    rw [hwant]
    cases c with
    | false =>
     rw [if_neg (by simp)]
     simp only [hc] at hw1
     refine ⟨fun f _ => hF.1 f, ?_⟩
     refine rest ⟨upd σ1.fr (some d) (.gv false .u), σ1.hp⟩ S1 w1 O1 _ ⟨by rw [put_defers]; exact hat1.ctx, ⟨by rw [put_size]; exact hsr1.size, hkept _, ?_, hsr1.mat⟩⟩ hw1
     rw [hd]
     exact FrM.put (dst := some d) hsr1.fr (Ext.refl _ _ _) (fun d0 h0 => by cases h0; exact hdsz) (by simp only [Rep]; exact ⟨fun h => (by cases h), fun _ => trivial⟩)
    | true =>
     rw [if_pos rfl]
     simp only [hc] at hw1
     split at hw1
     ·rename_i l caps x rs hfv hhp
      obtain ⟨hneed, hc0, hargs, hflat, hks, hK⟩ := hw1
      have hgh : ghO σ1.hp = some (caps, some (x :: rs)) := by rw [hhp]; rfl
      have hno : ∀ id, O1 id = none := by
       intro id
       cases hO : O1 id with
       | none => rfl
       | some p =>
        exfalso
        have hb := hsr1.mat.blk id p.1 p.2 hO
        rw [hhp] at hb
        cases id with
        | zero => exact hb.elim
        | succ id => exact hb.elim
      have hods : OdsOk P S1 w1 O1 (opv g σ1.fr) a1.eval o := by
       cases g with
       | false => exact odsOk_plain hsr1.fr o
       | true => exact odsOk_guard hsr1.fr o hneed
      unfold resOc at hroc
      unfold OdsOk at hods
      cases hop : o.op <;> rw [hop] at hroc hods <;> simp only [Op.operands] at hods <;> first | (simp at hroc; done) | (try dsimp only at hroc)
      case call cl =>
       split at hroc
       ·rename_i f0 hcal
        simp only [Option.bind_eq_bind, Option.bind_eq_some_iff, Option.pure_def, Option.some.injEq, Prod.mk.injEq] at hroc
        obtain ⟨f', hf, ods, hodse, rfl, rfl⟩ := hroc
        have q1 := hods f0 (by simp [Call.operands, hcal]) _ _ hf
        have qs := rOds_rep _ _ _ hodse (fun x hx => hods x (by simp only [Call.operands, Array.mem_append]; exact .inr (by simpa using hx)))
        rw [hfv] at q1
        have hcv : a1.eval f0 = .func (.yield l) #[] #[] := by simpa only [Rep] using q1
        have hxrep : RepL (fun _ => False) w1 noO x (cl.args.map a1.eval).toList := by
         rw [← hargs] at hflat ⊢
         exact flatL_rep _ _ hflat (by simpa using qs.1)
        have hcx : (cl.args.map a1.eval).size = x.length := by rw [← hargs]; simp [qs.2]
        have hyl := hC.yld rfl (by have := hat1.ctx; rw [hgh] at this; exact this) hsr1.mat.lt hno hc0 hxrep hcx
        obtain ⟨fn, tm, as0, bd, hyr, hround⟩ := hyl
        refine ⟨fun f _ => hF.1 f, ?_⟩
        rw [Oper.semAt_eq _ _ _ (by simp [hop])]
        have hex : (execOp a1.eval o).run P w1 = .ok (.round l fn tm as0 bd) w1 := by
         have hdv : (resolve a1.eval cl o.type).run P w1 = .ok { target := .fn (.yield l) #[], args := cl.args.map a1.eval } w1 := by
          simp [resolve, hcal, hcv, Deferred.ofValue]
         simp only [execOp, hop, Sem.run_bind, hdv, Result.andThen_ok, invoke]
         exact hyr
        rw [hex, Oper.uponIn_round]
        refine ⟨fun hh => by simp [hF.2.1] at hh, hround.mono ?_⟩
        rintro e w2 ⟨b, S2, rfl, hctx, hlt2, hcaps⟩
        have := hK b
        refine rest _ S2 w2 noO _ ⟨by rw [put_defers]; exact hctx, ⟨by rw [put_size]; exact hsr1.size, hkept _, ?_, ⟨hlt2, fun _ _ _ h => (by cases h), fun _ _ _ _ _ h => (by cases h), fun _ _ _ h => (by cases h)⟩⟩⟩ this
        intro t
        simp only [hd, upd, Act.put]
        split
        ·rename_i e; subst e
         have : (a1.tmps.setIfInBounds t (.bool b)).getD t undef = .bool b := by simp [hdsz]
         rw [this]
         unfold yres
         cases gd <;> simp [Rep]
        ·rename_i e
         have hne : (a1.tmps.setIfInBounds d (.bool b)).getD t undef = a1.tmps.getD t undef := by simp [Array.getElem?_setIfInBounds_ne (Ne.symm e)]
         rw [hne]
         rcases lkp_rep ks σ1.fr t with h0 | h0
         ·unfold slots
          rw [h0]
          by_cases htk : t ∈ ks
          ·rcases hks t htk with h3 | h3
           ·exact sfree_rep h3 (hsr1.fr t)
           ·obtain ⟨h4, h5⟩ := hcaps t _ h3
            have := hsr1.kept t h4
            rw [this]; exact h5
          ·have : lkp (ks.map fun t => (t, σ1.fr t)) t = .u := lkp_out _ _ _ htk
           rw [← h0, this]; simp [Rep]
         ·unfold slots; rw [h0]; simp [Rep]
       ·cases hroc
     ·exact hw1.elim
  ·cases hy
 ·cases hy
theorem mat_hd {S : Nat → Prop} {w : World} {O : OInfo} {a : Blk} {tl : List Blk} (h : Mat S w O (a :: tl)) (ha : ∀ g ob, ¬ BlkOk S w O g ob (some a)) (b : Blk) : Mat S w O (b :: tl) := by
 refine ⟨h.lt, h.own, h.inj, fun id g ob ho => ?_⟩
 have := h.blk id g ob ho
 cases id with
 | zero => exact absurd this (ha g ob)
 | succ id => exact this
theorem yrh_sound (hG : GOk P Γ) (hF : OpenF F) (hal : ∀ bv, M.al bv → Γ.al bv) (hC : CtxOk P F n M C lo 3 base) {g : Bool} {r1 r2 : List RO} {y : RO} {id : Nat} {ops : Array Oper} {o : Oper} (hgd : (g || noGuard ops) = true)
  (ho : ops[r1.length]? = some o) (h1 : (ops.toList.take r1.length).mapM (fun o => resO P pu M.nm ops o) = some r1) (hy : resY P M.nm ops o = some y) (h2 : (ops.toList.drop (r1.length + 1)).mapM (fun o => resO P pu M.nm ops o) = some r2)
  {Q : Exit → St → Prop} {Q' : Exit → Act → World → Prop} {σ : St} {S : Nat → Prop} {w : World} {O : OInfo} {a : Act} (hw : wpR Γ (EqFlat P) (.yrh g r1 y r2) Q σ) (hat : At C M S w O σ a)
  (hQ : ∀ σ' S' w' O' a', Q .normal σ' → At C M S' w' O' σ' a' → Q' .normal a' w') : (Code.region id ops false).wpIn F n P Q' a w := by
 have hgn : g = false → ∀ o ∈ ops, o.guard = none := by
  intro hg o ho
  subst hg
  simp only [Bool.false_or, noGuard] at hgd
  have := Array.all_eq_true_iff_forall_mem.1 hgd o ho
  simpa using this
 have hlt := (Array.getElem?_eq_some_iff.1 ho).1
 have hl2 : r2.length = ops.size - (r1.length + 1) := by
  have := congrArg List.length (mapM_some h2)
  simpa using this.symm
 refine wpIn_region ?_
 have hrange : List.range ops.size = List.range' 0 r1.length ++ (r1.length :: List.range' (r1.length + 1) r2.length) := by
  rw [List.range_eq_range', ← List.range'_succ]
  have := List.range'_append_1 (s := 0) (m := r1.length) (n := r2.length + 1)
  rw [Nat.zero_add] at this
  rw [this]
  congr 1
  omega
 rw [hrange]
 refine run_ops' hG hF (pu := pu) hgn _ r1 0 σ S w O a (resO_at (off := 0) (cnt := r1.length) (by simpa using h1)) hw hat.sr ?_
 intro σ1 S1 w1 O1 a1 hw1 hgh1 hev1 hsr1 hd1
 have hat1 : At C M S1 w1 O1 σ1 a1 := ⟨by rw [hd1]; exact hC.evol hat.ctx hat.sr.mat.lt hev1 hgh1, hsr1⟩
 have rest : ∀ (σ2 : St) S2 w2 O2 a2, At C M S2 w2 O2 σ2 a2 → runR Γ (EqFlat P) g 0 r2 σ2 (Q .normal) → wpOpsIn F n P ops Q' (List.range' (r1.length + 1) r2.length) a2 w2 := by
  intro σ2 S2 w2 O2 a2 hat2 hrun
  have := run_ops' hG hF (pu := pu) (n := n) (Q := Q') hgn [] r2 (r1.length + 1) σ2 S2 w2 O2 a2 (resO_at (off := r1.length + 1) (cnt := ops.size) (by
   rw [List.take_of_length_le (by simp)]; exact h2)) hrun hat2.sr (fun τ S' w' O' a' hK hgh hev hsr hd => by
    rw [wpOpsIn]
    exact hQ τ S' w' O' a' hK ⟨by rw [hd]; exact hC.evol hat2.ctx hat2.sr.mat.lt hev hgh, hsr⟩)
  simpa using this
 have hrO : ∀ (q : Nat) (r : RO), r2[q]? = some r → True := fun _ _ _ => trivial
 rw [wpOpsIn_cons]
 simp only [wpOpIn, ho]
 unfold resY at hy
 split at hy
 ·rename_i hds
  simp only [Bool.and_eq_true] at hds
  obtain ⟨d, hd⟩ : ∃ d, o.dst = some d := by
   cases h : o.dst with
   | none => simp [h] at hds
   | some d => exact ⟨d, rfl⟩
  have hdl : d < M.n ∧ M.md ≤ d := by have := hds.1; rw [hd] at this; exact dstOk_some this
  have hdsz : d < a1.tmps.size := by rw [hsr1.size]; exact hdl.1
  split at hy
  ·rename_i gd fx hgdo hroc
   obtain ⟨f, xs⟩ := fx
   simp only [Option.some.injEq] at hy
   subst hy
   simp only [hd] at hw1
   have hkept : ∀ (c : Value) t, t < M.md → (a1.put o.dst c).tmps.getD t undef = M.T t := fun c t ht => (put_ne a1 o.dst c t fun d' hd' => by rw [hd] at hd'; cases hd'; omega).trans (hsr1.kept t ht)
   have wantc : ∀ c, condB σ1.fr gd = some c → Region.wanted o (yielded ops a1.tmps) = c := by
    intro c hc
    cases hgo : o.guard with
    | none =>
     rw [hgo] at hgdo
     simp only [gdOf, Option.some.injEq] at hgdo
     subst hgdo
     simp only [condB, Option.some.injEq] at hc
     simp [Region.wanted, hgo, ← hc]
    | some jw =>
     obtain ⟨j, want⟩ := jw
     rw [hgo] at hgdo
     simp only [gdOf, Option.map_eq_some_iff] at hgdo
     obtain ⟨s, hs, rfl⟩ := hgdo
     exact yield_cond hsr1.fr hgo hs hc
   cases hc : condB σ1.fr gd with
   | none => simp [hc] at hw1
   | some c =>
    have hwant := wantc c hc
    rw [hwant]
    cases c with
    | false =>
     rw [if_neg (by simp)]
     simp only [hc] at hw1
     refine ⟨fun f _ => hF.1 f, ?_⟩
     refine rest ⟨upd σ1.fr (some d) (.gv false .u), σ1.hp⟩ S1 w1 O1 _ ⟨by rw [put_defers]; exact hat1.ctx, ⟨by rw [put_size]; exact hsr1.size, hkept _, ?_, hsr1.mat⟩⟩ hw1
     rw [hd]
     exact FrM.put (dst := some d) hsr1.fr (Ext.refl _ _ _) (fun d0 h0 => by cases h0; exact hdsz) (by simp only [Rep]; exact ⟨fun h => (by cases h), fun _ => trivial⟩)
    | true =>
     rw [if_pos rfl]
     simp only [hc] at hw1
     split at hw1
     ·rename_i l caps bv x z rs tl hfv hhp
      obtain ⟨hneed, hc0, hargs, htl, hK⟩ := hw1
      have hgh : ghO σ1.hp = some (caps, some (gyA true bv :: gyE x z :: rs)) := by rw [hhp]; rfl
      have hmat : Mat S1 w1 O1 (.hole :: (bv ++ z).map vB) := by
       have := hsr1.mat
       rw [hhp, htl] at this
       exact mat_hd this (fun _ _ h => h) _
      have hods : OdsOk P S1 w1 O1 (opv g σ1.fr) a1.eval o := by
       cases g with
       | false => exact odsOk_plain hsr1.fr o
       | true => exact odsOk_guard hsr1.fr o hneed
      unfold resOc at hroc
      unfold OdsOk at hods
      cases hop : o.op <;> rw [hop] at hroc hods <;> simp only [Op.operands] at hods <;> first | (simp at hroc; done) | (try dsimp only at hroc)
      case call cl =>
       split at hroc
       ·rename_i f0 hcal
        simp only [Option.bind_eq_bind, Option.bind_eq_some_iff, Option.pure_def, Option.some.injEq, Prod.mk.injEq] at hroc
        obtain ⟨f', hf, ods, hodse, rfl, rfl⟩ := hroc
        have q1 := hods f0 (by simp [Call.operands, hcal]) _ _ hf
        have qs := rOds_rep _ _ _ hodse (fun x hx => hods x (by simp only [Call.operands, Array.mem_append]; exact .inr (by simpa using hx)))
        rw [hfv] at q1
        have hcv : a1.eval f0 = .func (.yield l) #[] #[] := by simpa only [Rep] using q1
        have hxrep : RepL S1 w1 O1 x (cl.args.map a1.eval).toList := by
         rw [← hargs]; simpa using qs.1
        have hcx : (cl.args.map a1.eval).size = x.length := by rw [← hargs]; simp [qs.2]
        have hyl := hC.yldh rfl (m := n - 1) (by have := hat1.ctx; rw [hgh] at this; exact this) hmat hc0 hxrep hcx
        obtain ⟨fn, tm, as0, bd, hyr, hround⟩ := hyl
        refine ⟨fun f _ => hF.1 f, ?_⟩
        rw [Oper.semAt_eq _ _ _ (by simp [hop])]
        have hex : (execOp a1.eval o).run P w1 = .ok (.round l fn tm as0 bd) w1 := by
         have hdv : (resolve a1.eval cl o.type).run P w1 = .ok { target := .fn (.yield l) #[], args := cl.args.map a1.eval } w1 := by
          simp [resolve, hcal, hcv, Deferred.ofValue]
         simp only [execOp, hop, Sem.run_bind, hdv, Result.andThen_ok, invoke]
         exact hyr
        rw [hex, Oper.uponIn_round]
        refine ⟨fun hh => by simp [hF.2.1] at hh, hround.mono ?_⟩
        rintro e w2 ⟨b, S2, O2, bv', rfl, hal2, hctx, hext, hmat2⟩
        have := hK b bv' (hal bv' hal2)
        refine rest _ S2 w2 O2 _ ⟨by rw [put_defers]; exact hctx, ⟨by rw [put_size]; exact hsr1.size, hkept _, ?_, mat_hd hmat2 (fun _ _ h => h) _⟩⟩ this
        rw [hd]
        refine FrM.put (dst := some d) hsr1.fr hext (fun d0 h0 => by cases h0; exact hdsz) ?_
        unfold yres
        cases gd <;> simp [Rep]
       ·cases hroc
     ·exact hw1.elim
  ·cases hy
 ·cases hy
theorem ycl_sound (hG : GOk P Γ) (hF : OpenF F) (hal : ∀ bv, M.al bv → Γ.al bv) (hro : F.round = none) (hC : CtxOk P F n M C lo 3 base) {g : Bool} {r1 r2 : List RO} {y : RO} {id : Nat} {ops : Array Oper} {o : Oper} (hgd : (g || noGuard ops) = true)
  (ho : ops[r1.length]? = some o) (h1 : (ops.toList.take r1.length).mapM (fun o => resO P pu M.nm ops o) = some r1) (hy : resC P M.nm o = some y) (h2 : (ops.toList.drop (r1.length + 1)).mapM (fun o => resO P pu M.nm ops o) = some r2)
  {Q : Exit → St → Prop} {Q' : Exit → Act → World → Prop} {σ : St} {S : Nat → Prop} {w : World} {O : OInfo} {a : Act} (hw : wpR Γ (EqFlat P) (.ycl lo g r1 y r2) Q σ) (hat : At C M S w O σ a)
  (hQ : ∀ σ' S' w' O' a', Q .normal σ' → At C M S' w' O' σ' a' → Q' .normal a' w') : (Code.region id ops false).wpIn F n P Q' a w := by
 have hgn : g = false → ∀ o ∈ ops, o.guard = none := by
  intro hg o ho
  subst hg
  simp only [Bool.false_or, noGuard] at hgd
  have := Array.all_eq_true_iff_forall_mem.1 hgd o ho
  simpa using this
 have hlt := (Array.getElem?_eq_some_iff.1 ho).1
 have hl2 : r2.length = ops.size - (r1.length + 1) := by
  have := congrArg List.length (mapM_some h2)
  simpa using this.symm
 refine wpIn_region ?_
 have hrange : List.range ops.size = List.range' 0 r1.length ++ (r1.length :: List.range' (r1.length + 1) r2.length) := by
  rw [List.range_eq_range', ← List.range'_succ]
  have := List.range'_append_1 (s := 0) (m := r1.length) (n := r2.length + 1)
  rw [Nat.zero_add] at this
  rw [this]
  congr 1
  omega
 rw [hrange]
 refine run_ops' hG hF (pu := pu) hgn _ r1 0 σ S w O a (resO_at (off := 0) (cnt := r1.length) (by simpa using h1)) hw hat.sr ?_
 intro σ1 S1 w1 O1 a1 hw1 hgh1 hev1 hsr1 hd1
 have hat1 : At C M S1 w1 O1 σ1 a1 := ⟨by rw [hd1]; exact hC.evol hat.ctx hat.sr.mat.lt hev1 hgh1, hsr1⟩
 have rest : ∀ (σ2 : St) S2 w2 O2 a2, At C M S2 w2 O2 σ2 a2 → runR Γ (EqFlat P) g 0 r2 σ2 (Q .normal) → wpOpsIn F n P ops Q' (List.range' (r1.length + 1) r2.length) a2 w2 := by
  intro σ2 S2 w2 O2 a2 hat2 hrun
  have := run_ops' hG hF (pu := pu) (n := n) (Q := Q') hgn [] r2 (r1.length + 1) σ2 S2 w2 O2 a2 (resO_at (off := r1.length + 1) (cnt := ops.size) (by
   rw [List.take_of_length_le (by simp)]; exact h2)) hrun hat2.sr (fun τ S' w' O' a' hK hgh hev hsr hd => by
    rw [wpOpsIn]
    exact hQ τ S' w' O' a' hK ⟨by rw [hd]; exact hC.evol hat2.ctx hat2.sr.mat.lt hev hgh, hsr⟩)
  simpa using this
 rw [wpOpsIn_cons]
 simp only [wpOpIn, ho]
 unfold resC at hy
 split at hy
 ·rename_i hds
  simp only [Bool.and_eq_true] at hds
  obtain ⟨hdo, hgo⟩ := hds
  have hgo' : o.guard = none := by simpa using hgo
  rw [Option.map_eq_some_iff] at hy
  obtain ⟨⟨f, xs⟩, hroc, rfl⟩ := hy
  simp only at hw1
  have hdl : ∀ d, o.dst = some d → d < M.n ∧ M.md ≤ d := fun d hd => by rw [hd] at hdo; exact dstOk_some hdo
  have hkept : ∀ (c : Value) t, t < M.md → (a1.put o.dst c).tmps.getD t undef = M.T t := fun c t ht => (put_ne a1 o.dst c t fun d' hd' => by have := (hdl d' hd').2; omega).trans (hsr1.kept t ht)
  have hwant : Region.wanted o (yielded ops a1.tmps) = true := by simp [Region.wanted, hgo']
  rw [if_pos hwant]
  split at hw1
  ·rename_i gf caps hfv
   obtain ⟨hneed, hlen, hpre, hK⟩ := hw1
   obtain ⟨hen, hheap⟩ := hG.yc gf _ _ _ hpre
   have hods : OdsOk P S1 w1 O1 (opv g σ1.fr) a1.eval o := by
    cases g with
    | false => exact odsOk_plain hsr1.fr o
    | true => exact odsOk_guard hsr1.fr o hneed
   unfold resOc at hroc
   unfold OdsOk at hods
   cases hop : o.op <;> rw [hop] at hroc hods <;> simp only [Op.operands] at hods <;> first | (simp at hroc; done) | (try dsimp only at hroc)
   case call cl =>
    split at hroc
    ·rename_i f0 hcal
     simp only [Option.bind_eq_bind, Option.bind_eq_some_iff, Option.pure_def, Option.some.injEq, Prod.mk.injEq] at hroc
     obtain ⟨f', hf, ods, hodse, rfl, rfl⟩ := hroc
     have q1 := hods f0 (by simp [Call.operands, hcal]) _ _ hf
     have qs := rOds_rep _ _ _ hodse (fun x hx => hods x (by simp only [Call.operands, Array.mem_append]; exact .inr (by simpa using hx)))
     rw [hfv] at q1
     simp only [Rep] at q1
     obtain ⟨ccs, hc, hn, hrl⟩ := q1
     have hall := RepL.append _ _ _ _ qs.1 (by simp [qs.2]) hrl
     have hyok : YOk P F Γ.al lo fun S w O h => C S w O a1.defers h := by
      refine ⟨fun h hlt ev hg => hC.evol h hlt ev hg, fun h hk hg => hC.cut h hk fun _ => hg, fun {S w O caps bv x z rest cx l m} h hm hl hx hs => ?_⟩
      obtain ⟨fn, tm, as0, bd, hyr, hround⟩ := hC.yldh rfl (m := m) h hm hl hx hs
      refine ⟨fn, tm, as0, bd, hyr, hround.mono ?_⟩
      rintro e W' ⟨b, S', O', bv', h1, h2, h3⟩
      exact ⟨b, S', O', bv', h1, hal bv' h2, h3⟩
     have hcalls := hheap F (n - 1) lo _ S1 w1 O1 (cl.args.map a1.eval ++ ccs) hF hro hyok hlen hat1.ctx hsr1.mat (by simp [qs.2, hn]) (by simpa using hall)
     refine ⟨fun f _ => hF.1 f, ?_⟩
     rw [Oper.semAt_eq _ _ _ (by simp [hop])]
     have hex : (execOp a1.eval o).run P w1 = .ok (.enter gf (cl.args.map a1.eval ++ ccs)) w1 := by
      have hd : (resolve a1.eval cl o.type).run P w1 = .ok { target := .fn (.func gf) ccs, args := cl.args.map a1.eval } w1 := by
       simp [resolve, hcal, hc, Deferred.ofValue]
      simp only [execOp, hop, Sem.run_bind, hd, Result.andThen_ok, invoke]
      exact hen _ _
     rw [hex]
     refine ⟨fun hh => by simp [hF.2.1] at hh, hcalls.mono ?_⟩
     rintro e w2 ⟨v, S2, O2, r, hp', rfl, hR, hctx, hext, hmat, hrep⟩
     refine rest _ S2 w2 O2 _ ⟨?_, ⟨by rw [put_size]; exact hsr1.size, hkept _, ?_, hmat⟩⟩ (hK r hp' hR)
     ·rw [put_defers]
      exact hctx
     ·exact FrM.put hsr1.fr hext (fun d hd => by rw [hsr1.size]; exact (hdl d hd).1) hrep
    ·cases hroc
  ·exact hw1.elim
 ·cases hy
theorem sw_sw (i j k : Nat) : sw i j (sw i j k) = k := by
 unfold sw
 split
 ·rename_i h
  split
  ·rename_i h2; omega
  ·rw [if_pos rfl]; exact h.symm
 ·rename_i h
  split
  ·rename_i h2; rw [if_pos rfl]; exact h2.symm
  ·rename_i h2; simp [h, h2]
theorem renL_length (f : Nat → Nat) : ∀ vs : List V, (renL f vs).length = vs.length
 | [] => rfl
 | _ :: vs => by simp [renL, renL_length f vs]
mutual
theorem ren_rep {S : Nat → Prop} {w : World} {O O2 : OInfo} {f : Nat → Nat} (h : ∀ id, O2 (f id) = O id) : ∀ (v : V) (c : Value), Rep S w O v c → Rep S w O2 (renV f v) c
 | .u, _, _ => by simp [renV, Rep]
 | .b x, c, hr => by simpa [renV, Rep] using hr
 | .i x, c, hr => by simpa [renV, Rep] using hr
 | .z es, c, hr => by simpa [renV, Rep] using hr
 | .sl es rows, c, hr => by simpa only [renV, Rep] using hr
 | .sx es rows, c, hr => by simpa only [renV, Rep] using hr
 | .pa cs, c, hr => by simpa only [renV, Rep] using hr
 | .pn, c, hr => by simpa [renV, Rep] using hr
 | .yl l, c, hr => by simpa [renV, Rep] using hr
 | .pm _ _ _, c, hr => by simpa only [renV, Rep] using hr
 | .fb _ _, c, hr => by simpa only [renV, Rep] using hr
 | .w k n, c, hr => by simpa [renV, Rep] using hr
 | .ag cs, c, hr => by
  simp only [renV, Rep] at hr ⊢
  obtain ⟨ccs, hc, hn, hr⟩ := hr
  exact ⟨ccs, hc, by rw [renL_length]; exact hn, renL_rep h cs _ hr⟩
 | .tp cs, c, hr => by
  simp only [renV, Rep] at hr ⊢
  obtain ⟨ccs, hc, hn, hr⟩ := hr
  exact ⟨ccs, hc, by rw [renL_length]; exact hn, renL_rep h cs _ hr⟩
 | .fn g cs, c, hr => by
  simp only [renV, Rep] at hr ⊢
  obtain ⟨ccs, hc, hn, hr⟩ := hr
  exact ⟨ccs, hc, by rw [renL_length]; exact hn, renL_rep h cs _ hr⟩
 | .gv q v, c, hr => by
  simp only [renV, Rep] at hr ⊢
  exact ⟨fun hq => ren_rep h v c (hr.1 hq), hr.2⟩
 | .ad id g off, c, hr => by simpa only [renV, Rep, h id] using hr
 | .rf id g off len es, c, hr => by simpa only [renV, Rep, h id] using hr
 | .mp id g, c, hr => by simpa only [renV, Rep, h id] using hr
 | .it id g, c, hr => by simpa only [renV, Rep, h id] using hr
theorem renL_rep {S : Nat → Prop} {w : World} {O O2 : OInfo} {f : Nat → Nat} (h : ∀ id, O2 (f id) = O id) : ∀ (vs : List V) (cs : List Value), RepL S w O vs cs → RepL S w O2 (renL f vs) cs
 | [], _, _ => by simp [renL, RepL]
 | _ :: _, [], hr => by simp [RepL] at hr
 | v :: vs, c :: cs, hr => by
  simp only [renL, RepL] at hr ⊢
  exact ⟨ren_rep h v c hr.1, renL_rep h vs cs hr.2⟩
end
theorem ren_blk {S : Nat → Prop} {w : World} {O O2 : OInfo} {f : Nat → Nat} {g : Nat} {ob : Option Nat} (h : ∀ id, O2 (f id) = O id) {x : Option Blk} (hx : BlkOk S w O g ob x) : BlkOk S w O2 g ob (x.map (renB f)) := by
 unfold BlkOk at hx
 split at hx
 ·rename_i g' vs
  simp only [Option.map_some, renB, BlkOk]
  refine ⟨hx.1, ?_⟩
  cases ob with
  | none => have := hx.2; simp only at this ⊢; rw [this]; rfl
  | some b =>
   obtain ⟨cur, e, hb, hr, h1⟩ := hx.2
   exact ⟨cur, e, hb, renL_rep h _ _ hr, h1⟩
 ·simp only [Option.map_some, renB, BlkOk]
  obtain ⟨h0, b, es, hob, hb, h1, h3, h4, h5⟩ := hx
  exact ⟨h0, b, es, hob, hb, h1, renL_rep h _ _ h3, by rw [renL_length]; exact h4, h5⟩
 ·rename_i mid n left cur
  simp only [Option.map_some, renB, BlkOk]
  obtain ⟨h0, b, m, seen, hob, hb, h1, h2⟩ := hx
  exact ⟨h0, b, m, seen, hob, hb, ren_rep h (.mp mid 0) _ h1, h2⟩
 ·exact hx.elim
 ·simpa only [Option.map_some, renB, BlkOk] using hx
 ·exact hx.elim
 ·exact hx.elim
theorem swH_get {i j : Nat} {hp : List Blk} (hi : i < hp.length) (hj : j < hp.length) (k : Nat) : (swH i j hp)[k]? = (hp[sw i j k]?).map (renB (sw i j)) := by
 unfold swH
 rw [List.getElem?_eq_getElem hi, List.getElem?_eq_getElem hj]
 simp only [List.getElem?_map]
 congr 1
 unfold sw
 by_cases h2 : k = j
 ·subst h2
  rw [List.getElem?_set_self (by rw [List.length_set]; exact hj)]
  split
  ·rename_i h; subst h; rw [List.getElem?_eq_getElem hi]
  ·rw [if_pos rfl, List.getElem?_eq_getElem hi]
 ·rw [List.getElem?_set_ne (Ne.symm h2)]
  by_cases h1 : k = i
  ·subst h1
   rw [List.getElem?_set_self hi, if_pos rfl, List.getElem?_eq_getElem hj]
  ·rw [List.getElem?_set_ne (Ne.symm h1), if_neg h1, if_neg h2]
theorem sw_mat {S : Nat → Prop} {w : World} {O : OInfo} {hp : List Blk} (h : Mat S w O hp) {i j : Nat} (hi : i < hp.length) (hj : j < hp.length) : Mat S w (fun id => O (sw i j id)) (swH i j hp) := by
 refine ⟨h.lt, fun id g b ho => h.own _ g b ho, fun id id' g g' b h1 h2 => ?_, fun id g ob ho => ?_⟩
 ·have := h.inj _ _ g g' b h1 h2
  rw [← sw_sw i j id, this, sw_sw]
 ·rw [swH_get hi hj]
  exact ren_blk (fun id => by rw [sw_sw]) (h.blk _ g ob ho)
theorem crl_sound (hG : GOk P Γ) (hF : OpenF F) (hC : CtxOk P F n M C lo top base) {g : Bool} {r1 r2 : List RO} {y : RO} {id : Nat} {ops : Array Oper} {o : Oper} (hgd : (g || noGuard ops) = true)
  (ho : ops[r1.length]? = some o) (h1 : (ops.toList.take r1.length).mapM (fun o => resO P pu M.nm ops o) = some r1) (hy : resC P M.nm o = some y) (h2 : (ops.toList.drop (r1.length + 1)).mapM (fun o => resO P pu M.nm ops o) = some r2)
  {Q : Exit → St → Prop} {Q' : Exit → Act → World → Prop} {σ : St} {S : Nat → Prop} {w : World} {O : OInfo} {a : Act} (hw : wpR Γ (EqFlat P) (.crl g r1 y r2) Q σ) (hat : At C M S w O σ a)
  (hQ : ∀ σ' S' w' O' a', Q .normal σ' → At C M S' w' O' σ' a' → Q' .normal a' w') : (Code.region id ops false).wpIn F n P Q' a w := by
 have hgn : g = false → ∀ o ∈ ops, o.guard = none := by
  intro hg o ho
  subst hg
  simp only [Bool.false_or, noGuard] at hgd
  have := Array.all_eq_true_iff_forall_mem.1 hgd o ho
  simpa using this
 have hlt := (Array.getElem?_eq_some_iff.1 ho).1
 have hl2 : r2.length = ops.size - (r1.length + 1) := by
  have := congrArg List.length (mapM_some h2)
  simpa using this.symm
 refine wpIn_region ?_
 have hrange : List.range ops.size = List.range' 0 r1.length ++ (r1.length :: List.range' (r1.length + 1) r2.length) := by
  rw [List.range_eq_range', ← List.range'_succ]
  have := List.range'_append_1 (s := 0) (m := r1.length) (n := r2.length + 1)
  rw [Nat.zero_add] at this
  rw [this]
  congr 1
  omega
 rw [hrange]
 refine run_ops' hG hF (pu := pu) hgn _ r1 0 σ S w O a (resO_at (off := 0) (cnt := r1.length) (by simpa using h1)) hw hat.sr ?_
 intro σ1 S1 w1 O1 a1 hw1 hgh1 hev1 hsr1 hd1
 have hat1 : At C M S1 w1 O1 σ1 a1 := ⟨by rw [hd1]; exact hC.evol hat.ctx hat.sr.mat.lt hev1 hgh1, hsr1⟩
 have rest : ∀ (σ2 : St) S2 w2 O2 a2, At C M S2 w2 O2 σ2 a2 → runR Γ (EqFlat P) g 0 r2 σ2 (Q .normal) → wpOpsIn F n P ops Q' (List.range' (r1.length + 1) r2.length) a2 w2 := by
  intro σ2 S2 w2 O2 a2 hat2 hrun
  have := run_ops' hG hF (pu := pu) (n := n) (Q := Q') hgn [] r2 (r1.length + 1) σ2 S2 w2 O2 a2 (resO_at (off := r1.length + 1) (cnt := ops.size) (by
   rw [List.take_of_length_le (by simp)]; exact h2)) hrun hat2.sr (fun τ S' w' O' a' hK hgh hev hsr hd => by
    rw [wpOpsIn]
    exact hQ τ S' w' O' a' hK ⟨by rw [hd]; exact hC.evol hat2.ctx hat2.sr.mat.lt hev hgh, hsr⟩)
  simpa using this
 rw [wpOpsIn_cons]
 simp only [wpOpIn, ho]
 unfold resC at hy
 split at hy
 ·rename_i hds
  simp only [Bool.and_eq_true] at hds
  obtain ⟨hdo, hgo⟩ := hds
  have hgo' : o.guard = none := by simpa using hgo
  rw [Option.map_eq_some_iff] at hy
  obtain ⟨⟨f, xs⟩, hroc, rfl⟩ := hy
  simp only at hw1
  have hdl : ∀ d, o.dst = some d → d < M.n ∧ M.md ≤ d := fun d hd => by rw [hd] at hdo; exact dstOk_some hdo
  have hkept : ∀ (c : Value) t, t < M.md → (a1.put o.dst c).tmps.getD t undef = M.T t := fun c t ht => (put_ne a1 o.dst c t fun d' hd' => by have := (hdl d' hd').2; omega).trans (hsr1.kept t ht)
  have hwant : Region.wanted o (yielded ops a1.tmps) = true := by simp [Region.wanted, hgo']
  rw [if_pos hwant]
  split at hw1
  ·rename_i gf caps hfv
   obtain ⟨hneed, hg6, href, hpre, hK⟩ := hw1
   obtain ⟨hen, hrel⟩ := hG.rel gf _ hg6 hpre
   have hods : OdsOk P S1 w1 O1 (opv g σ1.fr) a1.eval o := by
    cases g with
    | false => exact odsOk_plain hsr1.fr o
    | true => exact odsOk_guard hsr1.fr o hneed
   unfold resOc at hroc
   unfold OdsOk at hods
   cases hop : o.op <;> rw [hop] at hroc hods <;> simp only [Op.operands] at hods <;> first | (simp at hroc; done) | (try dsimp only at hroc)
   case call cl =>
    split at hroc
    ·rename_i f0 hcal
     simp only [Option.bind_eq_bind, Option.bind_eq_some_iff, Option.pure_def, Option.some.injEq, Prod.mk.injEq] at hroc
     obtain ⟨f', hf, ods, hodse, rfl, rfl⟩ := hroc
     have q1 := hods f0 (by simp [Call.operands, hcal]) _ _ hf
     have qs := rOds_rep _ _ _ hodse (fun x hx => hods x (by simp only [Call.operands, Array.mem_append]; exact .inr (by simpa using hx)))
     rw [hfv] at q1
     simp only [Rep] at q1
     obtain ⟨ccs, hc, hn, hrl⟩ := q1
     have hall := RepL.append _ _ _ _ qs.1 (by simp [qs.2]) hrl
     have hcalls := rel_call hrel hsr1.mat (cargs := cl.args.map a1.eval ++ ccs) (by simp [qs.2, hn]) (vwL_noref _ _ href (by simpa using hall))
     refine wpIn_enter (w' := w1) (f := gf) (args := cl.args.map a1.eval ++ ccs) hF (by simp [hop]) ?_ (hcalls.mono ?_)
     ·have hd : (resolve a1.eval cl o.type).run P w1 = .ok { target := .fn (.func gf) ccs, args := cl.args.map a1.eval } w1 := by
       simp [resolve, hcal, hc, Deferred.ofValue]
      simp only [execOp, hop, Sem.run_bind, hd, Result.andThen_ok, invoke]
      exact hen _ _
     ·rintro e w2 ⟨v, S2, O2, r, bs0, rfl, ⟨bs, rfl, hR⟩, hev, hmat, hrep⟩
      refine ⟨v, rfl, rest _ S2 w2 O2 _ ⟨?_, ⟨by rw [put_size]; exact hsr1.size, hkept _, ?_, hmat⟩⟩ (hK r bs hR)⟩
      ·rw [put_defers]
       exact hC.evol hat1.ctx hsr1.mat.lt hev fun y hy => ghO_app hy
      ·exact FrM.put hsr1.fr hev.ext (fun d hd => by rw [hsr1.size]; exact (hdl d hd).1) hrep
    ·cases hroc
  ·exact hw1.elim
 ·cases hy
theorem hcl_sound (hG : GOk P Γ) (hF : OpenF F) (hC : CtxOk P F n M C lo top base) {g : Bool} {r1 r2 : List RO} {y : RO} {id : Nat} {ops : Array Oper} {o : Oper} (hgd : (g || noGuard ops) = true)
  (ho : ops[r1.length]? = some o) (h1 : (ops.toList.take r1.length).mapM (fun o => resO P pu M.nm ops o) = some r1) (hy : resC P M.nm o = some y) (h2 : (ops.toList.drop (r1.length + 1)).mapM (fun o => resO P pu M.nm ops o) = some r2)
  {Q : Exit → St → Prop} {Q' : Exit → Act → World → Prop} {σ : St} {S : Nat → Prop} {w : World} {O : OInfo} {a : Act} (hw : wpR Γ (EqFlat P) (.hcl g r1 y r2) Q σ) (hat : At C M S w O σ a)
  (hQ : ∀ σ' S' w' O' a', Q .normal σ' → At C M S' w' O' σ' a' → Q' .normal a' w') : (Code.region id ops false).wpIn F n P Q' a w := by
 have hgn : g = false → ∀ o ∈ ops, o.guard = none := by
  intro hg o ho
  subst hg
  simp only [Bool.false_or, noGuard] at hgd
  have := Array.all_eq_true_iff_forall_mem.1 hgd o ho
  simpa using this
 have hlt := (Array.getElem?_eq_some_iff.1 ho).1
 have hl2 : r2.length = ops.size - (r1.length + 1) := by
  have := congrArg List.length (mapM_some h2)
  simpa using this.symm
 refine wpIn_region ?_
 have hrange : List.range ops.size = List.range' 0 r1.length ++ (r1.length :: List.range' (r1.length + 1) r2.length) := by
  rw [List.range_eq_range', ← List.range'_succ]
  have := List.range'_append_1 (s := 0) (m := r1.length) (n := r2.length + 1)
  rw [Nat.zero_add] at this
  rw [this]
  congr 1
  omega
 rw [hrange]
 refine run_ops' hG hF (pu := pu) hgn _ r1 0 σ S w O a (resO_at (off := 0) (cnt := r1.length) (by simpa using h1)) hw hat.sr ?_
 intro σ1 S1 w1 O1 a1 hw1 hgh1 hev1 hsr1 hd1
 have hat1 : At C M S1 w1 O1 σ1 a1 := ⟨by rw [hd1]; exact hC.evol hat.ctx hat.sr.mat.lt hev1 hgh1, hsr1⟩
 have rest : ∀ (σ2 : St) S2 w2 O2 a2, At C M S2 w2 O2 σ2 a2 → runR Γ (EqFlat P) g 0 r2 σ2 (Q .normal) → wpOpsIn F n P ops Q' (List.range' (r1.length + 1) r2.length) a2 w2 := by
  intro σ2 S2 w2 O2 a2 hat2 hrun
  have := run_ops' hG hF (pu := pu) (n := n) (Q := Q') hgn [] r2 (r1.length + 1) σ2 S2 w2 O2 a2 (resO_at (off := r1.length + 1) (cnt := ops.size) (by
   rw [List.take_of_length_le (by simp)]; exact h2)) hrun hat2.sr (fun τ S' w' O' a' hK hgh hev hsr hd => by
    rw [wpOpsIn]
    exact hQ τ S' w' O' a' hK ⟨by rw [hd]; exact hC.evol hat2.ctx hat2.sr.mat.lt hev hgh, hsr⟩)
  simpa using this
 rw [wpOpsIn_cons]
 simp only [wpOpIn, ho]
 unfold resC at hy
 split at hy
 ·rename_i hds
  simp only [Bool.and_eq_true] at hds
  obtain ⟨hdo, hgo⟩ := hds
  have hgo' : o.guard = none := by simpa using hgo
  rw [Option.map_eq_some_iff] at hy
  obtain ⟨⟨f, xs⟩, hroc, rfl⟩ := hy
  simp only at hw1
  have hdl : ∀ d, o.dst = some d → d < M.n ∧ M.md ≤ d := fun d hd => by rw [hd] at hdo; exact dstOk_some hdo
  have hkept : ∀ (c : Value) t, t < M.md → (a1.put o.dst c).tmps.getD t undef = M.T t := fun c t ht => (put_ne a1 o.dst c t fun d' hd' => by have := (hdl d' hd').2; omega).trans (hsr1.kept t ht)
  have hwant : Region.wanted o (yielded ops a1.tmps) = true := by simp [Region.wanted, hgo']
  rw [if_pos hwant]
  split at hw1
  ·rename_i gf caps hfv
   obtain ⟨hneed, hpre, hK⟩ := hw1
   obtain ⟨hen, hgh, hheap⟩ := hG.heap gf _ _ hpre
   have hods : OdsOk P S1 w1 O1 (opv g σ1.fr) a1.eval o := by
    cases g with
    | false => exact odsOk_plain hsr1.fr o
    | true => exact odsOk_guard hsr1.fr o hneed
   unfold resOc at hroc
   unfold OdsOk at hods
   cases hop : o.op <;> rw [hop] at hroc hods <;> simp only [Op.operands] at hods <;> first | (simp at hroc; done) | (try dsimp only at hroc)
   case call cl =>
    split at hroc
    ·rename_i f0 hcal
     simp only [Option.bind_eq_bind, Option.bind_eq_some_iff, Option.pure_def, Option.some.injEq, Prod.mk.injEq] at hroc
     obtain ⟨f', hf, ods, hodse, rfl, rfl⟩ := hroc
     have q1 := hods f0 (by simp [Call.operands, hcal]) _ _ hf
     have qs := rOds_rep _ _ _ hodse (fun x hx => hods x (by simp only [Call.operands, Array.mem_append]; exact .inr (by simpa using hx)))
     rw [hfv] at q1
     simp only [Rep] at q1
     obtain ⟨ccs, hc, hn, hrl⟩ := q1
     have hall := RepL.append _ _ _ _ qs.1 (by simp [qs.2]) hrl
     have hcalls := hheap S1 w1 O1 (cl.args.map a1.eval ++ ccs) hsr1.mat (by simp [qs.2, hn]) (by simpa using hall)
     refine wpIn_enter (w' := w1) (f := gf) (args := cl.args.map a1.eval ++ ccs) hF (by simp [hop]) ?_ (hcalls.mono ?_)
     ·have hd : (resolve a1.eval cl o.type).run P w1 = .ok { target := .fn (.func gf) ccs, args := cl.args.map a1.eval } w1 := by
       simp [resolve, hcal, hc, Deferred.ofValue]
      simp only [execOp, hop, Sem.run_bind, hd, Result.andThen_ok, invoke]
      exact hen _ _
     ·rintro e w2 ⟨v, S2, O2, r, hp', rfl, hR, hev, hmat, hrep⟩
      refine ⟨v, rfl, rest _ S2 w2 O2 _ ⟨?_, ⟨by rw [put_size]; exact hsr1.size, hkept _, ?_, hmat⟩⟩ (hK r hp' hR)⟩
      ·rw [put_defers]
       exact hC.evol hat1.ctx hsr1.mat.lt hev (hgh r hp' hR)
      ·exact FrM.put hsr1.fr hev.ext (fun d hd => by rw [hsr1.size]; exact (hdl d hd).1) hrep
    ·cases hroc
  ·exact hw1.elim
 ·cases hy
theorem run_eql_slice_nil' (w : World) (t e : TypeId) (a : Option Addr) (l c : Nat) (h : P.underlying t = some (.slice e)) : (binOp .eql t (.slice a l c) (.slice none 0 0)).run P w = .ok (.bool a.isNone) w := by
 have h1 : ∀ d, (Op.equalIn (d + 1) t (.slice a l c) (.slice none 0 0)).run P w = .ok a.isNone w := fun d => by
  cases a <;> simp [Op.equalIn, run_underlying h]
 simp only [binOp]
 simp [Op.equal, Op.maxDepth, h1 9999]
theorem rnl_sound (hG : GOk P Γ) (hF : OpenF F) (hC : CtxOk P F n M C lo top base) {g : Bool} {r1 r2 : List RO} {y : RO} {id : Nat} {ops : Array Oper} {o : Oper} (hgd : (g || noGuard ops) = true)
  (ho : ops[r1.length]? = some o) (h1 : (ops.toList.take r1.length).mapM (fun o => resO P pu M.nm ops o) = some r1) (hy : resN P M.nm o = some y) (h2 : (ops.toList.drop (r1.length + 1)).mapM (fun o => resO P pu M.nm ops o) = some r2)
  {Q : Exit → St → Prop} {Q' : Exit → Act → World → Prop} {σ : St} {S : Nat → Prop} {w : World} {O : OInfo} {a : Act} (hw : wpR Γ (EqFlat P) (.rnl g r1 y r2) Q σ) (hat : At C M S w O σ a)
  (hQ : ∀ σ' S' w' O' a', Q .normal σ' → At C M S' w' O' σ' a' → Q' .normal a' w') : (Code.region id ops false).wpIn F n P Q' a w := by
 have hgn : g = false → ∀ o ∈ ops, o.guard = none := by
  intro hg o ho
  subst hg
  simp only [Bool.false_or, noGuard] at hgd
  have := Array.all_eq_true_iff_forall_mem.1 hgd o ho
  simpa using this
 have hlt := (Array.getElem?_eq_some_iff.1 ho).1
 have hl2 : r2.length = ops.size - (r1.length + 1) := by
  have := congrArg List.length (mapM_some h2)
  simpa using this.symm
 refine wpIn_region ?_
 have hrange : List.range ops.size = List.range' 0 r1.length ++ (r1.length :: List.range' (r1.length + 1) r2.length) := by
  rw [List.range_eq_range', ← List.range'_succ]
  have := List.range'_append_1 (s := 0) (m := r1.length) (n := r2.length + 1)
  rw [Nat.zero_add] at this
  rw [this]
  congr 1
  omega
 rw [hrange]
 refine run_ops' hG hF (pu := pu) hgn _ r1 0 σ S w O a (resO_at (off := 0) (cnt := r1.length) (by simpa using h1)) hw hat.sr ?_
 intro σ1 S1 w1 O1 a1 hw1 hgh1 hev1 hsr1 hd1
 have hat1 : At C M S1 w1 O1 σ1 a1 := ⟨by rw [hd1]; exact hC.evol hat.ctx hat.sr.mat.lt hev1 hgh1, hsr1⟩
 have rest : ∀ (σ2 : St) S2 w2 O2 a2, At C M S2 w2 O2 σ2 a2 → runR Γ (EqFlat P) g 0 r2 σ2 (Q .normal) → wpOpsIn F n P ops Q' (List.range' (r1.length + 1) r2.length) a2 w2 := by
  intro σ2 S2 w2 O2 a2 hat2 hrun
  have := run_ops' hG hF (pu := pu) (n := n) (Q := Q') hgn [] r2 (r1.length + 1) σ2 S2 w2 O2 a2 (resO_at (off := r1.length + 1) (cnt := ops.size) (by
   rw [List.take_of_length_le (by simp)]; exact h2)) hrun hat2.sr (fun τ S' w' O' a' hK hgh hev hsr hd => by
    rw [wpOpsIn]
    exact hQ τ S' w' O' a' hK ⟨by rw [hd]; exact hC.evol hat2.ctx hat2.sr.mat.lt hev hgh, hsr⟩)
  simpa using this
 rw [wpOpsIn_cons]
 simp only [wpOpIn, ho]
 unfold resN at hy
 split at hy
 ·rename_i hds
  simp only [Bool.and_eq_true] at hds
  obtain ⟨hdo, hgo⟩ := hds
  have hgo' : o.guard = none := by simpa using hgo
  have hdl : ∀ d, o.dst = some d → d < M.n ∧ M.md ≤ d := fun d hd => by rw [hd] at hdo; exact dstOk_some hdo
  have hkept : ∀ (c : Value) t, t < M.md → (a1.put o.dst c).tmps.getD t undef = M.T t := fun c t ht => (put_ne a1 o.dst c t fun d' hd' => by have := (hdl d' hd').2; omega).trans (hsr1.kept t ht)
  have hwant : Region.wanted o (yielded ops a1.tmps) = true := by simp [Region.wanted, hgo']
  rw [if_pos hwant]
  split at hy
  ·rename_i t x yt hop
   simp only [Option.bind_eq_some_iff, Option.map_eq_some_iff] at hy
   obtain ⟨e, he, f, hf, rfl⟩ := hy
   have ht : P.underlying t = some (.slice e) := by
    unfold elB at he
    split at he
    ·rename_i e' h'; cases he; exact h'
    ·cases he
   simp only at hw1
   have key : ∀ v, opv g σ1.fr f = v → needW g ⟨o.dst, none, o.op.operands.toList.filterMap tmpOf, none, .q (.len f)⟩ σ1.fr → Rep S1 w1 O1 v (a1.eval x) := by
    intro v hv hneed
    have hods : OdsOk P S1 w1 O1 (opv g σ1.fr) a1.eval o := by
     cases g with
     | false => exact odsOk_plain hsr1.fr o
     | true => exact odsOk_guard hsr1.fr o hneed
    have := hods x (by rw [hop]; simp [Op.operands]) _ _ hf
    rw [hv] at this
    exact this
   have fin : ∀ (ad : Option Addr) (m c : Nat), a1.eval x = .slice ad m c → runR Γ (EqFlat P) g 0 r2 ⟨upd σ1.fr o.dst (.b ad.isNone), σ1.hp⟩ (Q .normal) →
     o.wpIn F n P a1 w1 (wpOpsIn F n P ops Q' (List.range' (r1.length + 1) r2.length)) Q' := by
    intro ad m c hx hrun
    refine wpIn_value (c := .bool ad.isNone) (w' := w1) hF (by simp [hop]) ?_ ?_
    ·have hb := run_eql_slice_nil' (P := P) w1 t e ad m c ht
     have h2 : a1.eval (.const (.slice none 0 0)) = .slice none 0 0 := rfl
     have hg2 : (do eqGuard .eql t x (.const (.slice none 0 0)) (.slice ad m c) (.slice none 0 0); binOp .eql t (.slice ad m c) (.slice none 0 0) : Sem Value).run P w1 = .ok (.bool ad.isNone) w1 := by
      simp [eqGuard, hb]
     simp only [execOp, hop, hx, h2, Sem.run_bind, Sem.run_pure]
     simp only [Sem.run_bind] at hg2
     rw [hg2]; rfl
    ·refine rest ⟨upd σ1.fr o.dst (.b ad.isNone), σ1.hp⟩ S1 w1 O1 _ ⟨by rw [put_defers]; exact hat1.ctx, ⟨by rw [put_size]; exact hsr1.size, hkept _, ?_, hsr1.mat⟩⟩ hrun
     exact FrM.put hsr1.fr (Ext.refl _ _ _) (fun d hd => by rw [hsr1.size]; exact (hdl d hd).1) (by simp [Rep])
   split at hw1
   ·rename_i es rows hfv
    have hr := key _ hfv hw1.1
    simp only [Rep] at hr
    obtain ⟨ad, cap, hc, _, hrow⟩ := hr
    refine fin ad _ _ hc (hw1.2 _ fun hne => ?_)
    rcases hrow with h | ⟨blk, off, cur, e', fr, h, _⟩
    ·exact absurd h hne
    ·rw [h]; rfl
   ·rename_i es hfv
    have hr := key _ hfv hw1.1
    simp only [Rep] at hr
    obtain ⟨ad, hc⟩ := hr
    exact fin ad _ _ hc (hw1.2 _)
   ·exact hw1.elim
  ·cases hy
 ·cases hy
theorem Anc.trans {ops : Array Oper} {i j k : Nat} (h : Anc ops i j) (h' : Anc ops j k) : Anc ops i k := by
 induction h' with
 | base ho he hb e => exact .step ho he hb (e ▸ h)
 | step ho he hb _ ih => exact .step ho he hb ih
theorem hcl_op (hG : GOk P Γ) (hF : OpenF F) (hC : CtxOk P F n M C lo top base) {g : Bool} {y : RO} {ops : Array Oper} {i : Nat} {o : Oper} (hgn : g = false → ∀ o ∈ ops, o.guard = none)
  (ho : ops[i]? = some o) (hy : resC P M.nm o = some y) {K : St → Prop} {Q' : Exit → Act → World → Prop} {σ1 : St} {S1 : Nat → Prop} {w1 : World} {O1 : OInfo} {a1 : Act}
  (hw1 : match y.x with
   | .o f args => match opv g σ1.fr f with
    | .fn gf caps => needW g y σ1.fr ∧ (Γ.h gf (args.map (opv g σ1.fr) ++ caps) σ1.hp).1 ∧ ∀ r hp', (Γ.h gf (args.map (opv g σ1.fr) ++ caps) σ1.hp).2 r hp' → K ⟨upd σ1.fr y.dst r, hp'⟩
    | _ => False
   | _ => False) (hat1 : At C M S1 w1 O1 σ1 a1) {KK : Act → World → Prop} (hK0 : ∀ σ2 S2 w2 O2 a2, K σ2 → At C M S2 w2 O2 σ2 a2 → KK a2 w2) : wpOpIn F n P ops Q' i KK a1 w1 := by
 have hsr1 := hat1.sr
 simp only [wpOpIn, ho]
 unfold resC at hy
 split at hy
 ·rename_i hds
  simp only [Bool.and_eq_true] at hds
  obtain ⟨hdo, hgo⟩ := hds
  have hgo' : o.guard = none := by simpa using hgo
  rw [Option.map_eq_some_iff] at hy
  obtain ⟨⟨f, xs⟩, hroc, rfl⟩ := hy
  simp only at hw1
  have hdl : ∀ d, o.dst = some d → d < M.n ∧ M.md ≤ d := fun d hd => by rw [hd] at hdo; exact dstOk_some hdo
  have hkept : ∀ (c : Value) t, t < M.md → (a1.put o.dst c).tmps.getD t undef = M.T t := fun c t ht => (put_ne a1 o.dst c t fun d' hd' => by have := (hdl d' hd').2; omega).trans (hsr1.kept t ht)
  have hwant : Region.wanted o (yielded ops a1.tmps) = true := by simp [Region.wanted, hgo']
  rw [if_pos hwant]
  split at hw1
  ·rename_i gf caps hfv
   obtain ⟨hneed, hpre, hK⟩ := hw1
   obtain ⟨hen, hgh, hheap⟩ := hG.heap gf _ _ hpre
   have hods : OdsOk P S1 w1 O1 (opv g σ1.fr) a1.eval o := by
    cases g with
    | false => exact odsOk_plain hsr1.fr o
    | true => exact odsOk_guard hsr1.fr o hneed
   unfold resOc at hroc
   unfold OdsOk at hods
   cases hop : o.op <;> rw [hop] at hroc hods <;> simp only [Op.operands] at hods <;> first | (simp at hroc; done) | (try dsimp only at hroc)
   case call cl =>
    split at hroc
    ·rename_i f0 hcal
     simp only [Option.bind_eq_bind, Option.bind_eq_some_iff, Option.pure_def, Option.some.injEq, Prod.mk.injEq] at hroc
     obtain ⟨f', hf, ods, hodse, rfl, rfl⟩ := hroc
     have q1 := hods f0 (by simp [Call.operands, hcal]) _ _ hf
     have qs := rOds_rep _ _ _ hodse (fun x hx => hods x (by simp only [Call.operands, Array.mem_append]; exact .inr (by simpa using hx)))
     rw [hfv] at q1
     simp only [Rep] at q1
     obtain ⟨ccs, hc, hn, hrl⟩ := q1
     have hall := RepL.append _ _ _ _ qs.1 (by simp [qs.2]) hrl
     have hcalls := hheap S1 w1 O1 (cl.args.map a1.eval ++ ccs) hsr1.mat (by simp [qs.2, hn]) (by simpa using hall)
     refine wpIn_enter (w' := w1) (f := gf) (args := cl.args.map a1.eval ++ ccs) hF (by simp [hop]) ?_ (hcalls.mono ?_)
     ·have hd : (resolve a1.eval cl o.type).run P w1 = .ok { target := .fn (.func gf) ccs, args := cl.args.map a1.eval } w1 := by
       simp [resolve, hcal, hc, Deferred.ofValue]
      simp only [execOp, hop, Sem.run_bind, hd, Result.andThen_ok, invoke]
      exact hen _ _
     ·rintro e w2 ⟨v, S2, O2, r, hp', rfl, hR, hev, hmat, hrep⟩
      refine ⟨v, rfl, hK0 _ S2 w2 O2 _ (hK r hp' hR) ⟨?_, ⟨by rw [put_size]; exact hsr1.size, hkept _, ?_, hmat⟩⟩⟩
      ·rw [put_defers]
       exact hC.evol hat1.ctx hsr1.mat.lt hev (hgh r hp' hR)
      ·exact FrM.put hsr1.fr hev.ext (fun d hd => by rw [hsr1.size]; exact (hdl d hd).1) hrep
    ·cases hroc
  ·exact hw1.elim
 ·cases hy
theorem zipX_get {rs : List RO} {l : List AnyOp} {q : Nat} {z : AnyOp} (h : (zipX rs l)[q]? = some z) : ∃ r, rs[q]? = some r ∧ ({ z.o with nid := none } : RO) = { r with nid := none } := by
 unfold zipX at h
 rw [List.getElem?_zipWith] at h
 cases hr : rs[q]? with
 | none => simp [hr] at h
 | some r =>
  cases hl : l[q]? with
  | none => simp [hr, hl] at h
  | some x =>
   simp only [hr, hl, Option.some.injEq] at h
   subst h
   exact ⟨r, rfl, rfl⟩
theorem hca_sound (hG : GOk P Γ) (hF : OpenF F) (hm : P.follows .mixedOrders = true) (hC : CtxOk P F n M C lo top base) {g : Bool} {m1 m2 : Nat} {l1 l2 : List AnyOp} {r1 r2 : List RO} {y1 : RO} {y : AnyOp} {id : Nat} {ops : Array Oper} {o : Oper}
  (hgd : (g || noGuard ops) = true) (ho : ops[l1.length]? = some o) (h1 : (ops.toList.take l1.length).mapM (fun o => resO P pu M.nm ops o) = some r1) (hy : resC P M.nm o = some y1) (h2 : (ops.toList.drop (l1.length + 1)).mapM (fun o => resO P pu M.nm ops o) = some r2)
  (hch : anyLB ops r1 l1 y1 y r2 l2 = true) {Q : Exit → St → Prop} {Q' : Exit → Act → World → Prop} {σ : St} {S : Nat → Prop} {w : World} {O : OInfo} {a : Act} (hw : wpR Γ (EqFlat P) (.hca g m1 (zipX r1 l1) ⟨y1, [], y.an⟩ m2 (zipX r2 l2)) Q σ) (hat : At C M S w O σ a)
  (hQ : ∀ σ' S' w' O' a', Q .normal σ' → At C M S' w' O' σ' a' → Q' .normal a' w') : (Code.region id ops true).wpIn F n P Q' a w := by
 have hgn : g = false → ∀ o ∈ ops, o.guard = none := by
  intro hg o ho
  subst hg
  simp only [Bool.false_or, noGuard] at hgd
  have := Array.all_eq_true_iff_forall_mem.1 hgd o ho
  simpa using this
 unfold anyLB at hch
 simp only [Bool.and_eq_true, decide_eq_true_eq] at hch
 obtain ⟨⟨⟨⟨⟨hp, ha⟩, e1⟩, e2⟩, hyan⟩, hzan⟩ := hch
 have hL := (Array.getElem?_eq_some_iff.1 ho).1
 have hz1 : (zipX r1 l1).length = l1.length := by simp [zipX, e1]
 have hz2 : (zipX r2 l2).length = ops.size - (l1.length + 1) := by
  have := congrArg List.length (mapM_some h2)
  simp at this
  simp [zipX, ← e2, ← this]
 have hsub1 : ∀ q z, (zipX r1 l1)[q]? = some z → (zipX r1 l1 ++ ⟨y1, [], y.an⟩ :: zipX r2 l2)[0 + q]? = some z := by
  intro q z hz
  rw [Nat.zero_add, List.getElem?_append_left (getElemLt hz)]; exact hz
 have hsubL : (zipX r1 l1 ++ ⟨y1, [], y.an⟩ :: zipX r2 l2)[l1.length]? = some ⟨y1, [], y.an⟩ := by
  rw [List.getElem?_append_right (by omega), hz1, Nat.sub_self]; rfl
 have hsub2 : ∀ q z, (zipX r2 l2)[q]? = some z → (zipX r1 l1 ++ ⟨y1, [], y.an⟩ :: zipX r2 l2)[l1.length + 1 + q]? = some z := by
  intro q z hz
  rw [List.getElem?_append_right (by omega), hz1, show l1.length + 1 + q - l1.length = q + 1 by omega]; exact hz
 have hop1 : ∀ q z, (zipX r1 l1)[q]? = some z → ∃ o, ops[0 + q]? = some o ∧ resO P pu M.nm ops o = some { z.o with nid := none } := by
  intro q z hz
  obtain ⟨r, hr, e⟩ := zipX_get hz
  rw [e]
  exact resO_at (off := 0) (cnt := l1.length) (by simpa using h1) q r hr
 have hop2 : ∀ q z, (zipX r2 l2)[q]? = some z → ∃ o, ops[l1.length + 1 + q]? = some o ∧ resO P pu M.nm ops o = some { z.o with nid := none } := by
  intro q z hz
  obtain ⟨r, hr, e⟩ := zipX_get hz
  rw [e]
  exact resO_at (off := l1.length + 1) (cnt := ops.size) (by rw [List.take_of_length_le (by simp)]; exact h2) q r hr
 have hancL : ∀ i, i < l1.length → Anc ops i l1.length := fun i hi =>
  (ancB_spec ha _ _ hsubL hL).1 i (by have := List.all_eq_true.1 hyan i (by simpa using hi); simpa using this)
 have hancU : ∀ u, l1.length < u → u < ops.size → Anc ops l1.length u := by
  intro u h1 h2
  obtain ⟨z, hz⟩ : ∃ z, (zipX r2 l2)[u - (l1.length + 1)]? = some z := ⟨_, List.getElem?_eq_getElem (by omega)⟩
  have hz' := hsub2 _ _ hz
  rw [show l1.length + 1 + (u - (l1.length + 1)) = u by omega] at hz'
  exact (ancB_spec ha _ _ hz' h2).1 _ (by have := List.all_eq_true.1 hzan z (List.mem_of_getElem? hz); simpa using this)
 refine wpIn_region_any hm ?_
 obtain ⟨rest1, τ1, k1, k2, k3, k4, k5, k6⟩ := part_rest (k := 0) (M := M) (pu := pu) hsub1 hp ha hop1 rfl hw
 refine any_part hG hF hgn (pu := pu) (M := M) (U := fun i => l1.length ≤ i ∧ i < ops.size) (extra := ops.size - l1.length) ops.size rest1 _ _ S _ O a ?_ ?_ k3 k4 ?_ ?_ ?_ k5 ⟨hat.sr.size, hat.sr.kept, hat.sr.fr.ext (ext_drew _ _ _), mat_drew (mat_app hat.sr.mat _)⟩ ?_
 ·omega
 ·intro i
  rw [k2, hz1]
  constructor
  ·intro h
   rcases Nat.lt_or_ge i ops.size with h' | h'
   ·omega
   ·simp [Nat.not_lt.2 h'] at h
  ·intro h
   have : i < ops.size := by omega
   simp [this]
 ·intro x hx u hu
  have hxl := ((k2 x.1).1 ⟨x, hx, rfl⟩).2
  rw [hz1] at hxl
  refine ⟨?_, by omega⟩
  rcases Nat.lt_or_eq_of_le hu.1 with h | h
  ·exact (hancL _ (by omega)).trans (hancU u h hu.2)
  ·rw [← h]; exact hancL _ (by omega)
 ·intro i j _ hj
  exfalso
  by_cases h : j < ops.size <;> simp [h] at hj
 ·intro i hi
  simpa using hi
 ·intro fuel' listed' S1 w1 O1 a1 hfu hl hcl hsz hev1 hsr1 hd1
  obtain ⟨fuel, rfl⟩ : ∃ f, fuel' = f + 1 := ⟨fuel' - 1, by omega⟩
  have hLf : listed'.getD l1.length true = false := (hl _).2 ⟨Nat.le_refl _, hL⟩
  have hlow : ∀ i, i < l1.length → listed'.getD i false = true := by
   intro i hi
   have h3 : ¬ listed'.getD i true = false := fun h => by have := (hl i).1 h; omega
   have h4 := hsz i (by omega)
   simp [h4] at h3 ⊢
   exact h3
  have honly : ∀ i, i ∈ Region.ready .any ops listed' → i = l1.length := by
   intro i hi
   rw [mem_ready] at hi
   obtain ⟨h0, o', ho', hall⟩ := hi
   obtain ⟨h3, h4⟩ := (hl i).1 h0
   rcases Nat.lt_or_eq_of_le h3 with h | h
   ·exfalso
    have h5 : listed'.getD l1.length false = true := by
     cases hancU i h h4 with
     | base ho2 he hb e => rw [ho'] at ho2; cases ho2; rw [← e]; exact hall _ he hb
     | step ho2 he hb e => rw [ho'] at ho2; cases ho2; exact hcl _ _ e (hall _ he hb)
    cases hle : listed'[l1.length]? with
    | none => simp [hle] at hLf
    | some b => simp [hle] at hLf h5; simp_all
   ·exact h.symm
  have hready : l1.length ∈ Region.ready .any ops listed' := by
   rw [mem_ready]
   exact ⟨hLf, o, ho, fun e he hb => hlow _ ((ancB_spec ha _ _ hsubL hL).2 o ho e he hb)⟩
  refine ⟨fun hnone => (by rw [hnone] at hready; cases hready), fun i hi => ?_⟩
  have := honly i hi
  subst this
  have hat1 : At C M S1 w1 O1 τ1 a1 := ⟨by rw [hd1]; exact hC.evol hat.ctx hat.sr.mat.lt ((evol_drew S w O).trans hev1) fun y hy => RunD.gh _ _ _ k5 (ghO_app hy), hsr1⟩
  refine hcl_op hG hF hC hgn ho hy (K := fun σ2 => runX Γ (EqFlat P) g σ2.hp.length (zipX r2 l2) (List.replicate ((zipX r1 l1).length + 1) ⟨none, []⟩) ⟨σ2.fr, σ2.hp ++ List.replicate m2 .hole⟩ (Q .normal)) k6 hat1 ?_
  intro σ2 S2 w2 O2 a2 hK2 hat2
  obtain ⟨rest2, τ2, j1, j2, j3, j4, j5, j6⟩ := part_rest (k := l1.length + 1) (M := M) (pu := pu) hsub2 hp ha hop2 (by simp [hz1]) hK2
  refine any_order hG hF hgn (pu := pu) (M := M) fuel rest2 _ _ S2 _ O2 a2 ?_ ?_ j3 j4 ?_ ?_ j5 ⟨hat2.sr.size, hat2.sr.kept, hat2.sr.fr, mat_app hat2.sr.mat _⟩ ?_
  ·omega
  ·intro i
   rw [j2, hz2]
   by_cases hi : i = l1.length
   ·subst hi
    have := hsz _ hL
    simp [this]
    omega
   ·rw [getD_set_ne true (Ne.symm hi), hl]
    omega
  ·intro i j hij hj
   by_cases hjL : j = l1.length
   ·subst hjL
    refine getD_set_true ?_
    have := (ancB_spec ha _ _ hsubL hL).2 o ho
    cases hij with
    | base ho2 he hb e => rw [ho] at ho2; cases ho2; rw [← e]; exact hlow _ (this _ he hb)
    | step ho2 he hb e => rw [ho] at ho2; cases ho2; exact hcl _ _ e (hlow _ (this _ he hb))
   ·rw [getD_set_ne false (Ne.symm hjL)] at hj
    exact getD_set_true (hcl i j hij hj)
  ·intro i hi
   simpa using hsz i hi
  ·intro S' w' O' a' hev hsr hd
   exact hQ _ _ _ _ _ j6 ⟨by rw [hd]; exact hC.evol hat2.ctx hat2.sr.mat.lt hev fun y hy => RunD.gh _ _ _ j5 (ghO_app hy), hsr⟩
theorem yra_op (hF : OpenF F) (hC : CtxOk P F n M C lo 2 base) {g : Bool} {y : RO} {ks : List Nat} {ops : Array Oper} {i : Nat} {o : Oper} (hgn : g = false → ∀ o ∈ ops, o.guard = none)
  (ho : ops[i]? = some o) (hy : resC P M.nm o = some y) {K : St → Prop} {Q' : Exit → Act → World → Prop} {σ1 : St} {S1 : Nat → Prop} {w1 : World} {O1 : OInfo} {a1 : Act}
  (hw1 : match y.x with
   | .o f args => match opv g σ1.fr f, σ1.hp with
    | .yl l, [.gh caps (some (x :: rest))] => needW g y σ1.fr ∧ caps[0]? = some (.yl l) ∧ args.map (opv g σ1.fr) = x ∧ flatL x = true ∧ (∀ t ∈ ks, sfree (σ1.fr t) = true ∨ caps[t]? = some (σ1.fr t)) ∧
      ∀ b : Bool, K ⟨upd (lkp (slots ks σ1.fr)) y.dst (.b b), [.gh caps (if b then some rest else none)]⟩
    | _, _ => False
   | _ => False) (hat1 : At C M S1 w1 O1 σ1 a1) {KK : Act → World → Prop} (hK0 : ∀ σ2 S2 w2 O2 a2, K σ2 → At C M S2 w2 O2 σ2 a2 → KK a2 w2) : wpOpIn F n P ops Q' i KK a1 w1 := by
 have hsr1 := hat1.sr
 simp only [wpOpIn, ho]
 unfold resC at hy
 split at hy
 ·rename_i hds
  simp only [Bool.and_eq_true] at hds
  obtain ⟨hdo, hgo⟩ := hds
  have hgo' : o.guard = none := by simpa using hgo
  rw [Option.map_eq_some_iff] at hy
  obtain ⟨⟨f, xs⟩, hroc, rfl⟩ := hy
  simp only at hw1
  have hdl : ∀ d, o.dst = some d → d < M.n ∧ M.md ≤ d := fun d hd => by rw [hd] at hdo; exact dstOk_some hdo
  have hkept : ∀ (c : Value) t, t < M.md → (a1.put o.dst c).tmps.getD t undef = M.T t := fun c t ht => (put_ne a1 o.dst c t fun d' hd' => by have := (hdl d' hd').2; omega).trans (hsr1.kept t ht)
  have hwant : Region.wanted o (yielded ops a1.tmps) = true := by simp [Region.wanted, hgo']
  rw [if_pos hwant]
  split at hw1
  ·rename_i l caps x rs hfv hhp
   obtain ⟨hneed, hc0, hargs, hflat, hks, hK⟩ := hw1
   have hgh : ghO σ1.hp = some (caps, some (x :: rs)) := by rw [hhp]; rfl
   have hno : ∀ id, O1 id = none := by
    intro id
    cases hO : O1 id with
    | none => rfl
    | some p =>
     exfalso
     have hb := hsr1.mat.blk id p.1 p.2 hO
     rw [hhp] at hb
     cases id with
     | zero => exact hb.elim
     | succ id => exact hb.elim
   have hods : OdsOk P S1 w1 O1 (opv g σ1.fr) a1.eval o := by
    cases g with
    | false => exact odsOk_plain hsr1.fr o
    | true => exact odsOk_guard hsr1.fr o hneed
   unfold resOc at hroc
   unfold OdsOk at hods
   cases hop : o.op <;> rw [hop] at hroc hods <;> simp only [Op.operands] at hods <;> first | (simp at hroc; done) | (try dsimp only at hroc)
   case call cl =>
    split at hroc
    ·rename_i f0 hcal
     simp only [Option.bind_eq_bind, Option.bind_eq_some_iff, Option.pure_def, Option.some.injEq, Prod.mk.injEq] at hroc
     obtain ⟨f', hf, ods, hodse, rfl, rfl⟩ := hroc
     have q1 := hods f0 (by simp [Call.operands, hcal]) _ _ hf
     have qs := rOds_rep _ _ _ hodse (fun x hx => hods x (by simp only [Call.operands, Array.mem_append]; exact .inr (by simpa using hx)))
     rw [hfv] at q1
     have hcv : a1.eval f0 = .func (.yield l) #[] #[] := by simpa only [Rep] using q1
     have hxrep : RepL (fun _ => False) w1 noO x (cl.args.map a1.eval).toList := by
      rw [← hargs] at hflat ⊢
      exact flatL_rep _ _ hflat (by simpa using qs.1)
     have hcx : (cl.args.map a1.eval).size = x.length := by rw [← hargs]; simp [qs.2]
     have hyl := hC.yld rfl (by have := hat1.ctx; rw [hgh] at this; exact this) hsr1.mat.lt hno hc0 hxrep hcx
     obtain ⟨fn, tm, as0, bd, hyr, hround⟩ := hyl
     refine ⟨fun f _ => hF.1 f, ?_⟩
     rw [Oper.semAt_eq _ _ _ (by simp [hop])]
     have hex : (execOp a1.eval o).run P w1 = .ok (.round l fn tm as0 bd) w1 := by
      have hdv : (resolve a1.eval cl o.type).run P w1 = .ok { target := .fn (.yield l) #[], args := cl.args.map a1.eval } w1 := by
       simp [resolve, hcal, hcv, Deferred.ofValue]
      simp only [execOp, hop, Sem.run_bind, hdv, Result.andThen_ok, invoke]
      exact hyr
     rw [hex, Oper.uponIn_round]
     refine ⟨fun hh => by simp [hF.2.1] at hh, hround.mono ?_⟩
     rintro e w2 ⟨b, S2, rfl, hctx, hlt2, hcaps⟩
     have hfr2 : FrM S2 w2 noO (lkp (slots ks σ1.fr)) a1 := by
      intro t
      rcases lkp_rep ks σ1.fr t with h0 | h0
      ·unfold slots
       rw [h0]
       by_cases htk : t ∈ ks
       ·rcases hks t htk with h3 | h3
        ·exact sfree_rep h3 (hsr1.fr t)
        ·obtain ⟨h4, h5⟩ := hcaps t _ h3
         have := hsr1.kept t h4
         rw [this]; exact h5
       ·have : lkp (ks.map fun t => (t, σ1.fr t)) t = .u := lkp_out _ _ _ htk
        rw [← h0, this]; simp [Rep]
      ·unfold slots; rw [h0]; simp [Rep]
     refine hK0 _ S2 w2 noO _ (hK b) ⟨by rw [put_defers]; exact hctx, ⟨by rw [put_size]; exact hsr1.size, hkept _, ?_, ⟨hlt2, fun _ _ _ h => (by cases h), fun _ _ _ _ _ h => (by cases h), fun _ _ _ h => (by cases h)⟩⟩⟩
     exact FrM.put hfr2 (Ext.refl _ _ _) (fun d hd => by rw [hsr1.size]; exact (hdl d hd).1) (by simp [Rep])
    ·cases hroc
  ·exact hw1.elim
 ·cases hy
theorem yra_sound (hG : GOk P Γ) (hF : OpenF F) (hm : P.follows .mixedOrders = true) (hC : CtxOk P F n M C lo 2 base) {ks : List Nat} {g : Bool} {m1 m2 : Nat} {l1 l2 : List AnyOp} {r1 r2 : List RO} {y1 : RO} {y : AnyOp} {id : Nat} {ops : Array Oper} {o : Oper}
  (hgd : (g || noGuard ops) = true) (ho : ops[l1.length]? = some o) (h1 : (ops.toList.take l1.length).mapM (fun o => resO P pu M.nm ops o) = some r1) (hy : resC P M.nm o = some y1) (h2 : (ops.toList.drop (l1.length + 1)).mapM (fun o => resO P pu M.nm ops o) = some r2)
  (hch : anyLB ops r1 l1 y1 y r2 l2 = true) {Q : Exit → St → Prop} {Q' : Exit → Act → World → Prop} {σ : St} {S : Nat → Prop} {w : World} {O : OInfo} {a : Act} (hw : wpR Γ (EqFlat P) (.yra g m1 (zipX r1 l1) ⟨y1, [], y.an⟩ ks m2 (zipX r2 l2)) Q σ) (hat : At C M S w O σ a)
  (hQ : ∀ σ' S' w' O' a', Q .normal σ' → At C M S' w' O' σ' a' → Q' .normal a' w') : (Code.region id ops true).wpIn F n P Q' a w := by
 have hgn : g = false → ∀ o ∈ ops, o.guard = none := by
  intro hg o ho
  subst hg
  simp only [Bool.false_or, noGuard] at hgd
  have := Array.all_eq_true_iff_forall_mem.1 hgd o ho
  simpa using this
 unfold anyLB at hch
 simp only [Bool.and_eq_true, decide_eq_true_eq] at hch
 obtain ⟨⟨⟨⟨⟨hp, ha⟩, e1⟩, e2⟩, hyan⟩, hzan⟩ := hch
 have hL := (Array.getElem?_eq_some_iff.1 ho).1
 have hz1 : (zipX r1 l1).length = l1.length := by simp [zipX, e1]
 have hz2 : (zipX r2 l2).length = ops.size - (l1.length + 1) := by
  have := congrArg List.length (mapM_some h2)
  simp at this
  simp [zipX, ← e2, ← this]
 have hsub1 : ∀ q z, (zipX r1 l1)[q]? = some z → (zipX r1 l1 ++ ⟨y1, [], y.an⟩ :: zipX r2 l2)[0 + q]? = some z := by
  intro q z hz
  rw [Nat.zero_add, List.getElem?_append_left (getElemLt hz)]; exact hz
 have hsubL : (zipX r1 l1 ++ ⟨y1, [], y.an⟩ :: zipX r2 l2)[l1.length]? = some ⟨y1, [], y.an⟩ := by
  rw [List.getElem?_append_right (by omega), hz1, Nat.sub_self]; rfl
 have hsub2 : ∀ q z, (zipX r2 l2)[q]? = some z → (zipX r1 l1 ++ ⟨y1, [], y.an⟩ :: zipX r2 l2)[l1.length + 1 + q]? = some z := by
  intro q z hz
  rw [List.getElem?_append_right (by omega), hz1, show l1.length + 1 + q - l1.length = q + 1 by omega]; exact hz
 have hop1 : ∀ q z, (zipX r1 l1)[q]? = some z → ∃ o, ops[0 + q]? = some o ∧ resO P pu M.nm ops o = some { z.o with nid := none } := by
  intro q z hz
  obtain ⟨r, hr, e⟩ := zipX_get hz
  rw [e]
  exact resO_at (off := 0) (cnt := l1.length) (by simpa using h1) q r hr
 have hop2 : ∀ q z, (zipX r2 l2)[q]? = some z → ∃ o, ops[l1.length + 1 + q]? = some o ∧ resO P pu M.nm ops o = some { z.o with nid := none } := by
  intro q z hz
  obtain ⟨r, hr, e⟩ := zipX_get hz
  rw [e]
  exact resO_at (off := l1.length + 1) (cnt := ops.size) (by rw [List.take_of_length_le (by simp)]; exact h2) q r hr
 have hancL : ∀ i, i < l1.length → Anc ops i l1.length := fun i hi =>
  (ancB_spec ha _ _ hsubL hL).1 i (by have := List.all_eq_true.1 hyan i (by simpa using hi); simpa using this)
 have hancU : ∀ u, l1.length < u → u < ops.size → Anc ops l1.length u := by
  intro u h1 h2
  obtain ⟨z, hz⟩ : ∃ z, (zipX r2 l2)[u - (l1.length + 1)]? = some z := ⟨_, List.getElem?_eq_getElem (by omega)⟩
  have hz' := hsub2 _ _ hz
  rw [show l1.length + 1 + (u - (l1.length + 1)) = u by omega] at hz'
  exact (ancB_spec ha _ _ hz' h2).1 _ (by have := List.all_eq_true.1 hzan z (List.mem_of_getElem? hz); simpa using this)
 refine wpIn_region_any hm ?_
 obtain ⟨rest1, τ1, k1, k2, k3, k4, k5, k6⟩ := part_rest (k := 0) (M := M) (pu := pu) hsub1 hp ha hop1 rfl hw
 refine any_part hG hF hgn (pu := pu) (M := M) (U := fun i => l1.length ≤ i ∧ i < ops.size) (extra := ops.size - l1.length) ops.size rest1 _ _ S _ O a ?_ ?_ k3 k4 ?_ ?_ ?_ k5 ⟨hat.sr.size, hat.sr.kept, hat.sr.fr.ext (ext_drew _ _ _), mat_drew (mat_app hat.sr.mat _)⟩ ?_
 ·omega
 ·intro i
  rw [k2, hz1]
  constructor
  ·intro h
   rcases Nat.lt_or_ge i ops.size with h' | h'
   ·omega
   ·simp [Nat.not_lt.2 h'] at h
  ·intro h
   have : i < ops.size := by omega
   simp [this]
 ·intro x hx u hu
  have hxl := ((k2 x.1).1 ⟨x, hx, rfl⟩).2
  rw [hz1] at hxl
  refine ⟨?_, by omega⟩
  rcases Nat.lt_or_eq_of_le hu.1 with h | h
  ·exact (hancL _ (by omega)).trans (hancU u h hu.2)
  ·rw [← h]; exact hancL _ (by omega)
 ·intro i j _ hj
  exfalso
  by_cases h : j < ops.size <;> simp [h] at hj
 ·intro i hi
  simpa using hi
 ·intro fuel' listed' S1 w1 O1 a1 hfu hl hcl hsz hev1 hsr1 hd1
  obtain ⟨fuel, rfl⟩ : ∃ f, fuel' = f + 1 := ⟨fuel' - 1, by omega⟩
  have hLf : listed'.getD l1.length true = false := (hl _).2 ⟨Nat.le_refl _, hL⟩
  have hlow : ∀ i, i < l1.length → listed'.getD i false = true := by
   intro i hi
   have h3 : ¬ listed'.getD i true = false := fun h => by have := (hl i).1 h; omega
   have h4 := hsz i (by omega)
   simp [h4] at h3 ⊢
   exact h3
  have honly : ∀ i, i ∈ Region.ready .any ops listed' → i = l1.length := by
   intro i hi
   rw [mem_ready] at hi
   obtain ⟨h0, o', ho', hall⟩ := hi
   obtain ⟨h3, h4⟩ := (hl i).1 h0
   rcases Nat.lt_or_eq_of_le h3 with h | h
   ·exfalso
    have h5 : listed'.getD l1.length false = true := by
     cases hancU i h h4 with
     | base ho2 he hb e => rw [ho'] at ho2; cases ho2; rw [← e]; exact hall _ he hb
     | step ho2 he hb e => rw [ho'] at ho2; cases ho2; exact hcl _ _ e (hall _ he hb)
    cases hle : listed'[l1.length]? with
    | none => simp [hle] at hLf
    | some b => simp [hle] at hLf h5; simp_all
   ·exact h.symm
  have hready : l1.length ∈ Region.ready .any ops listed' := by
   rw [mem_ready]
   exact ⟨hLf, o, ho, fun e he hb => hlow _ ((ancB_spec ha _ _ hsubL hL).2 o ho e he hb)⟩
  refine ⟨fun hnone => (by rw [hnone] at hready; cases hready), fun i hi => ?_⟩
  have := honly i hi
  subst this
  have hat1 : At C M S1 w1 O1 τ1 a1 := ⟨by rw [hd1]; exact hC.evol hat.ctx hat.sr.mat.lt ((evol_drew S w O).trans hev1) fun y hy => RunD.gh _ _ _ k5 (ghO_app hy), hsr1⟩
  refine yra_op hF hC (ks := ks) hgn ho hy (K := fun σ2 => runX Γ (EqFlat P) g σ2.hp.length (zipX r2 l2) (List.replicate ((zipX r1 l1).length + 1) ⟨none, []⟩) ⟨σ2.fr, σ2.hp ++ List.replicate m2 .hole⟩ (Q .normal)) k6 hat1 ?_
  intro σ2 S2 w2 O2 a2 hK2 hat2
  obtain ⟨rest2, τ2, j1, j2, j3, j4, j5, j6⟩ := part_rest (k := l1.length + 1) (M := M) (pu := pu) hsub2 hp ha hop2 (by simp [hz1]) hK2
  refine any_order hG hF hgn (pu := pu) (M := M) fuel rest2 _ _ S2 _ O2 a2 ?_ ?_ j3 j4 ?_ ?_ j5 ⟨hat2.sr.size, hat2.sr.kept, hat2.sr.fr, mat_app hat2.sr.mat _⟩ ?_
  ·omega
  ·intro i
   rw [j2, hz2]
   by_cases hi : i = l1.length
   ·subst hi
    have := hsz _ hL
    simp [this]
    omega
   ·rw [getD_set_ne true (Ne.symm hi), hl]
    omega
  ·intro i j hij hj
   by_cases hjL : j = l1.length
   ·subst hjL
    refine getD_set_true ?_
    have := (ancB_spec ha _ _ hsubL hL).2 o ho
    cases hij with
    | base ho2 he hb e => rw [ho] at ho2; cases ho2; rw [← e]; exact hlow _ (this _ he hb)
    | step ho2 he hb e => rw [ho] at ho2; cases ho2; exact hcl _ _ e (hlow _ (this _ he hb))
   ·rw [getD_set_ne false (Ne.symm hjL)] at hj
    exact getD_set_true (hcl i j hij hj)
  ·intro i hi
   simpa using hsz i hi
  ·intro S' w' O' a' hev hsr hd
   exact hQ _ _ _ _ _ j6 ⟨by rw [hd]; exact hC.evol hat2.ctx hat2.sr.mat.lt hev fun y hy => RunD.gh _ _ _ j5 (ghO_app hy), hsr⟩
theorem yrx_op (hF : OpenF F) (hal : ∀ bv, M.al bv → Γ.al bv) (hC : CtxOk P F n M C lo 3 base) {g : Bool} {y : RO} {ops : Array Oper} {i : Nat} {o : Oper} (hgn : g = false → ∀ o ∈ ops, o.guard = none)
  (ho : ops[i]? = some o) (hy : resC P M.nm o = some y) {K : St → Prop} {Q' : Exit → Act → World → Prop} {σ1 : St} {S1 : Nat → Prop} {w1 : World} {O1 : OInfo} {a1 : Act}
  (hw1 : match y.x with
   | .o f args => match opv g σ1.fr f, σ1.hp with
    | .yl l, .gh caps (some ((.b true :: bv) :: [.tp x, .tp z] :: rest)) :: tl => needW g y σ1.fr ∧ caps[0]? = some (.yl l) ∧ args.map (opv g σ1.fr) = x ∧ tl = (bv ++ z).map vB ∧
      ∀ (b : Bool) bv', Γ.al bv' → K ⟨upd σ1.fr y.dst (.b b), .gh caps (some ((.b b :: bv') :: if b then rest else [])) :: (bv' ++ z).map vB⟩
    | _, _ => False
   | _ => False) (hat1 : At C M S1 w1 O1 σ1 a1) {KK : Act → World → Prop} (hK0 : ∀ σ2 S2 w2 O2 a2, K σ2 → At C M S2 w2 O2 σ2 a2 → KK a2 w2) : wpOpIn F n P ops Q' i KK a1 w1 := by
 have hsr1 := hat1.sr
 simp only [wpOpIn, ho]
 unfold resC at hy
 split at hy
 ·rename_i hds
  simp only [Bool.and_eq_true] at hds
  obtain ⟨hdo, hgo⟩ := hds
  have hgo' : o.guard = none := by simpa using hgo
  rw [Option.map_eq_some_iff] at hy
  obtain ⟨⟨f, xs⟩, hroc, rfl⟩ := hy
  simp only at hw1
  have hdl : ∀ d, o.dst = some d → d < M.n ∧ M.md ≤ d := fun d hd => by rw [hd] at hdo; exact dstOk_some hdo
  have hkept : ∀ (c : Value) t, t < M.md → (a1.put o.dst c).tmps.getD t undef = M.T t := fun c t ht => (put_ne a1 o.dst c t fun d' hd' => by have := (hdl d' hd').2; omega).trans (hsr1.kept t ht)
  have hwant : Region.wanted o (yielded ops a1.tmps) = true := by simp [Region.wanted, hgo']
  rw [if_pos hwant]
  split at hw1
  ·rename_i l caps bv x z rs tl hfv hhp
   obtain ⟨hneed, hc0, hargs, htl, hK⟩ := hw1
   have hgh : ghO σ1.hp = some (caps, some (gyA true bv :: gyE x z :: rs)) := by rw [hhp]; rfl
   have hmat : Mat S1 w1 O1 (.hole :: (bv ++ z).map vB) := by
    have := hsr1.mat
    rw [hhp, htl] at this
    exact mat_hd this (fun _ _ h => h) _
   have hods : OdsOk P S1 w1 O1 (opv g σ1.fr) a1.eval o := by
    cases g with
    | false => exact odsOk_plain hsr1.fr o
    | true => exact odsOk_guard hsr1.fr o hneed
   unfold resOc at hroc
   unfold OdsOk at hods
   cases hop : o.op <;> rw [hop] at hroc hods <;> simp only [Op.operands] at hods <;> first | (simp at hroc; done) | (try dsimp only at hroc)
   case call cl =>
    split at hroc
    ·rename_i f0 hcal
     simp only [Option.bind_eq_bind, Option.bind_eq_some_iff, Option.pure_def, Option.some.injEq, Prod.mk.injEq] at hroc
     obtain ⟨f', hf, ods, hodse, rfl, rfl⟩ := hroc
     have q1 := hods f0 (by simp [Call.operands, hcal]) _ _ hf
     have qs := rOds_rep _ _ _ hodse (fun x hx => hods x (by simp only [Call.operands, Array.mem_append]; exact .inr (by simpa using hx)))
     rw [hfv] at q1
     have hcv : a1.eval f0 = .func (.yield l) #[] #[] := by simpa only [Rep] using q1
     have hxrep : RepL S1 w1 O1 x (cl.args.map a1.eval).toList := by
      rw [← hargs]; simpa using qs.1
     have hcx : (cl.args.map a1.eval).size = x.length := by rw [← hargs]; simp [qs.2]
     have hyl := hC.yldh rfl (m := n - 1) (by have := hat1.ctx; rw [hgh] at this; exact this) hmat hc0 hxrep hcx
     obtain ⟨fn, tm, as0, bd, hyr, hround⟩ := hyl
     refine ⟨fun f _ => hF.1 f, ?_⟩
     rw [Oper.semAt_eq _ _ _ (by simp [hop])]
     have hex : (execOp a1.eval o).run P w1 = .ok (.round l fn tm as0 bd) w1 := by
      have hdv : (resolve a1.eval cl o.type).run P w1 = .ok { target := .fn (.yield l) #[], args := cl.args.map a1.eval } w1 := by
       simp [resolve, hcal, hcv, Deferred.ofValue]
      simp only [execOp, hop, Sem.run_bind, hdv, Result.andThen_ok, invoke]
      exact hyr
     rw [hex, Oper.uponIn_round]
     refine ⟨fun hh => by simp [hF.2.1] at hh, hround.mono ?_⟩
     rintro e w2 ⟨b, S2, O2, bv', rfl, hal2, hctx, hext, hmat2⟩
     refine hK0 _ S2 w2 O2 _ (hK b bv' (hal bv' hal2)) ⟨by rw [put_defers]; exact hctx, ⟨by rw [put_size]; exact hsr1.size, hkept _, ?_, mat_hd hmat2 (fun _ _ h => h) _⟩⟩
     exact FrM.put hsr1.fr hext (fun d hd => by rw [hsr1.size]; exact (hdl d hd).1) (by simp [Rep])
    ·cases hroc
  ·exact hw1.elim
 ·cases hy
theorem yrx_sound (hG : GOk P Γ) (hF : OpenF F) (hal : ∀ bv, M.al bv → Γ.al bv) (hm : P.follows .mixedOrders = true) (hC : CtxOk P F n M C lo 3 base) {g : Bool} {m1 m2 : Nat} {l1 l2 : List AnyOp} {r1 r2 : List RO} {y1 : RO} {y : AnyOp} {id : Nat} {ops : Array Oper} {o : Oper}
  (hgd : (g || noGuard ops) = true) (ho : ops[l1.length]? = some o) (h1 : (ops.toList.take l1.length).mapM (fun o => resO P pu M.nm ops o) = some r1) (hy : resC P M.nm o = some y1) (h2 : (ops.toList.drop (l1.length + 1)).mapM (fun o => resO P pu M.nm ops o) = some r2)
  (hch : anyLB ops r1 l1 y1 y r2 l2 = true) {Q : Exit → St → Prop} {Q' : Exit → Act → World → Prop} {σ : St} {S : Nat → Prop} {w : World} {O : OInfo} {a : Act} (hw : wpR Γ (EqFlat P) (.yrx g m1 (zipX r1 l1) ⟨y1, [], y.an⟩ m2 (zipX r2 l2)) Q σ) (hat : At C M S w O σ a)
  (hQ : ∀ σ' S' w' O' a', Q .normal σ' → At C M S' w' O' σ' a' → Q' .normal a' w') : (Code.region id ops true).wpIn F n P Q' a w := by
 have hgn : g = false → ∀ o ∈ ops, o.guard = none := by
  intro hg o ho
  subst hg
  simp only [Bool.false_or, noGuard] at hgd
  have := Array.all_eq_true_iff_forall_mem.1 hgd o ho
  simpa using this
 unfold anyLB at hch
 simp only [Bool.and_eq_true, decide_eq_true_eq] at hch
 obtain ⟨⟨⟨⟨⟨hp, ha⟩, e1⟩, e2⟩, hyan⟩, hzan⟩ := hch
 have hL := (Array.getElem?_eq_some_iff.1 ho).1
 have hz1 : (zipX r1 l1).length = l1.length := by simp [zipX, e1]
 have hz2 : (zipX r2 l2).length = ops.size - (l1.length + 1) := by
  have := congrArg List.length (mapM_some h2)
  simp at this
  simp [zipX, ← e2, ← this]
 have hsub1 : ∀ q z, (zipX r1 l1)[q]? = some z → (zipX r1 l1 ++ ⟨y1, [], y.an⟩ :: zipX r2 l2)[0 + q]? = some z := by
  intro q z hz
  rw [Nat.zero_add, List.getElem?_append_left (getElemLt hz)]; exact hz
 have hsubL : (zipX r1 l1 ++ ⟨y1, [], y.an⟩ :: zipX r2 l2)[l1.length]? = some ⟨y1, [], y.an⟩ := by
  rw [List.getElem?_append_right (by omega), hz1, Nat.sub_self]; rfl
 have hsub2 : ∀ q z, (zipX r2 l2)[q]? = some z → (zipX r1 l1 ++ ⟨y1, [], y.an⟩ :: zipX r2 l2)[l1.length + 1 + q]? = some z := by
  intro q z hz
  rw [List.getElem?_append_right (by omega), hz1, show l1.length + 1 + q - l1.length = q + 1 by omega]; exact hz
 have hop1 : ∀ q z, (zipX r1 l1)[q]? = some z → ∃ o, ops[0 + q]? = some o ∧ resO P pu M.nm ops o = some { z.o with nid := none } := by
  intro q z hz
  obtain ⟨r, hr, e⟩ := zipX_get hz
  rw [e]
  exact resO_at (off := 0) (cnt := l1.length) (by simpa using h1) q r hr
 have hop2 : ∀ q z, (zipX r2 l2)[q]? = some z → ∃ o, ops[l1.length + 1 + q]? = some o ∧ resO P pu M.nm ops o = some { z.o with nid := none } := by
  intro q z hz
  obtain ⟨r, hr, e⟩ := zipX_get hz
  rw [e]
  exact resO_at (off := l1.length + 1) (cnt := ops.size) (by rw [List.take_of_length_le (by simp)]; exact h2) q r hr
 have hancL : ∀ i, i < l1.length → Anc ops i l1.length := fun i hi =>
  (ancB_spec ha _ _ hsubL hL).1 i (by have := List.all_eq_true.1 hyan i (by simpa using hi); simpa using this)
 have hancU : ∀ u, l1.length < u → u < ops.size → Anc ops l1.length u := by
  intro u h1 h2
  obtain ⟨z, hz⟩ : ∃ z, (zipX r2 l2)[u - (l1.length + 1)]? = some z := ⟨_, List.getElem?_eq_getElem (by omega)⟩
  have hz' := hsub2 _ _ hz
  rw [show l1.length + 1 + (u - (l1.length + 1)) = u by omega] at hz'
  exact (ancB_spec ha _ _ hz' h2).1 _ (by have := List.all_eq_true.1 hzan z (List.mem_of_getElem? hz); simpa using this)
 refine wpIn_region_any hm ?_
 obtain ⟨rest1, τ1, k1, k2, k3, k4, k5, k6⟩ := part_rest (k := 0) (M := M) (pu := pu) hsub1 hp ha hop1 rfl hw
 refine any_part hG hF hgn (pu := pu) (M := M) (U := fun i => l1.length ≤ i ∧ i < ops.size) (extra := ops.size - l1.length) ops.size rest1 _ _ S _ O a ?_ ?_ k3 k4 ?_ ?_ ?_ k5 ⟨hat.sr.size, hat.sr.kept, hat.sr.fr.ext (ext_drew _ _ _), mat_drew (mat_app hat.sr.mat _)⟩ ?_
 ·omega
 ·intro i
  rw [k2, hz1]
  constructor
  ·intro h
   rcases Nat.lt_or_ge i ops.size with h' | h'
   ·omega
   ·simp [Nat.not_lt.2 h'] at h
  ·intro h
   have : i < ops.size := by omega
   simp [this]
 ·intro x hx u hu
  have hxl := ((k2 x.1).1 ⟨x, hx, rfl⟩).2
  rw [hz1] at hxl
  refine ⟨?_, by omega⟩
  rcases Nat.lt_or_eq_of_le hu.1 with h | h
  ·exact (hancL _ (by omega)).trans (hancU u h hu.2)
  ·rw [← h]; exact hancL _ (by omega)
 ·intro i j _ hj
  exfalso
  by_cases h : j < ops.size <;> simp [h] at hj
 ·intro i hi
  simpa using hi
 ·intro fuel' listed' S1 w1 O1 a1 hfu hl hcl hsz hev1 hsr1 hd1
  obtain ⟨fuel, rfl⟩ : ∃ f, fuel' = f + 1 := ⟨fuel' - 1, by omega⟩
  have hLf : listed'.getD l1.length true = false := (hl _).2 ⟨Nat.le_refl _, hL⟩
  have hlow : ∀ i, i < l1.length → listed'.getD i false = true := by
   intro i hi
   have h3 : ¬ listed'.getD i true = false := fun h => by have := (hl i).1 h; omega
   have h4 := hsz i (by omega)
   simp [h4] at h3 ⊢
   exact h3
  have honly : ∀ i, i ∈ Region.ready .any ops listed' → i = l1.length := by
   intro i hi
   rw [mem_ready] at hi
   obtain ⟨h0, o', ho', hall⟩ := hi
   obtain ⟨h3, h4⟩ := (hl i).1 h0
   rcases Nat.lt_or_eq_of_le h3 with h | h
   ·exfalso
    have h5 : listed'.getD l1.length false = true := by
     cases hancU i h h4 with
     | base ho2 he hb e => rw [ho'] at ho2; cases ho2; rw [← e]; exact hall _ he hb
     | step ho2 he hb e => rw [ho'] at ho2; cases ho2; exact hcl _ _ e (hall _ he hb)
    cases hle : listed'[l1.length]? with
    | none => simp [hle] at hLf
    | some b => simp [hle] at hLf h5; simp_all
   ·exact h.symm
  have hready : l1.length ∈ Region.ready .any ops listed' := by
   rw [mem_ready]
   exact ⟨hLf, o, ho, fun e he hb => hlow _ ((ancB_spec ha _ _ hsubL hL).2 o ho e he hb)⟩
  refine ⟨fun hnone => (by rw [hnone] at hready; cases hready), fun i hi => ?_⟩
  have := honly i hi
  subst this
  have hat1 : At C M S1 w1 O1 τ1 a1 := ⟨by rw [hd1]; exact hC.evol hat.ctx hat.sr.mat.lt ((evol_drew S w O).trans hev1) fun y hy => RunD.gh _ _ _ k5 (ghO_app hy), hsr1⟩
  refine yrx_op hF hal hC hgn ho hy (K := fun σ2 => runX Γ (EqFlat P) g σ2.hp.length (zipX r2 l2) (List.replicate ((zipX r1 l1).length + 1) ⟨none, []⟩) ⟨σ2.fr, σ2.hp ++ List.replicate m2 .hole⟩ (Q .normal)) k6 hat1 ?_
  intro σ2 S2 w2 O2 a2 hK2 hat2
  obtain ⟨rest2, τ2, j1, j2, j3, j4, j5, j6⟩ := part_rest (k := l1.length + 1) (M := M) (pu := pu) hsub2 hp ha hop2 (by simp [hz1]) hK2
  refine any_order hG hF hgn (pu := pu) (M := M) fuel rest2 _ _ S2 _ O2 a2 ?_ ?_ j3 j4 ?_ ?_ j5 ⟨hat2.sr.size, hat2.sr.kept, hat2.sr.fr, mat_app hat2.sr.mat _⟩ ?_
  ·omega
  ·intro i
   rw [j2, hz2]
   by_cases hi : i = l1.length
   ·subst hi
    have := hsz _ hL
    simp [this]
    omega
   ·rw [getD_set_ne true (Ne.symm hi), hl]
    omega
  ·intro i j hij hj
   by_cases hjL : j = l1.length
   ·subst hjL
    refine getD_set_true ?_
    have := (ancB_spec ha _ _ hsubL hL).2 o ho
    cases hij with
    | base ho2 he hb e => rw [ho] at ho2; cases ho2; rw [← e]; exact hlow _ (this _ he hb)
    | step ho2 he hb e => rw [ho] at ho2; cases ho2; exact hcl _ _ e (hlow _ (this _ he hb))
   ·rw [getD_set_ne false (Ne.symm hjL)] at hj
    exact getD_set_true (hcl i j hij hj)
  ·intro i hi
   simpa using hsz i hi
  ·intro S' w' O' a' hev hsr hd
   exact hQ _ _ _ _ _ j6 ⟨by rw [hd]; exact hC.evol hat2.ctx hat2.sr.mat.lt hev fun y hy => RunD.gh _ _ _ j5 (ghO_app hy), hsr⟩
structure ExtN (lo : Nat) (S S' : Nat → Prop) (w w' : World) (O O' : OInfo) : Prop where
 keep : ∀ n, S n → S' n ∧ w'.heap[n]? = w.heap[n]?
 own : ∀ id g ob, id < lo → O id = some (g, ob) → ∃ g' ob', O' id = some (g', ob') ∧ g ≤ g' ∧ (g' = g → ob' = ob ∧
  (∀ b cur e, ob = some b → w.heap[b]? = some (.cells cur e (0, 0)) → ∃ cur', w'.heap[b]? = some (.cells cur' e (0, 0)) ∧ cur'.size = cur.size))
theorem ExtN.refl (lo : Nat) (S : Nat → Prop) (w : World) (O : OInfo) : ExtN lo S S w w O O :=
 ⟨fun _ h => ⟨h, rfl⟩, fun _ g ob _ h => ⟨g, ob, h, Nat.le_refl _, fun _ => ⟨rfl, fun _ cur _ _ hb => ⟨cur, hb, rfl⟩⟩⟩⟩
theorem ExtN.then {lo : Nat} {S S' S'' : Nat → Prop} {w w' w'' : World} {O O' O'' : OInfo} (h : ExtN lo S S' w w' O O') (k : Ext S' S'' w' w'' O' O'') : ExtN lo S S'' w w'' O O'' := by
 refine ⟨fun n hn => ⟨(k.keep n (h.keep n hn).1).1, ((k.keep n (h.keep n hn).1).2).trans (h.keep n hn).2⟩, fun id g ob hl ho => ?_⟩
 obtain ⟨g', ob', ho', hg, h1⟩ := h.own id g ob hl ho
 obtain ⟨g'', ob'', ho'', hg', h2⟩ := k.own id g' ob' ho'
 refine ⟨g'', ob'', ho'', Nat.le_trans hg hg', fun e => ?_⟩
 obtain ⟨a1, a2⟩ := h1 (by omega)
 obtain ⟨b1, b2⟩ := h2 (by omega)
 refine ⟨b1.trans a1, fun b cur e hb hh => ?_⟩
 obtain ⟨cur', hh', hs⟩ := a2 b cur e hb hh
 obtain ⟨cur'', hh'', hs'⟩ := b2 b cur' e (a1.trans hb) hh'
 exact ⟨cur'', hh'', hs'.trans hs⟩
theorem ExtN.cut {lo : Nat} {S S' : Nat → Prop} {w w' : World} {O O' : OInfo} (h : ExtN lo S S' w w' O O') {k : Nat} (hk : lo ≤ k) : ExtN lo S (cutS S' O' k) w w' O (restO O' k) := by
 refine ⟨fun n hn => ⟨.inl (h.keep n hn).1, (h.keep n hn).2⟩, fun id g ob hl ho => ?_⟩
 obtain ⟨g', ob', ho', h1⟩ := h.own id g ob hl ho
 exact ⟨g', ob', by unfold restO; rw [if_pos (by omega)]; exact ho', h1⟩
theorem ExtN.ext {lo : Nat} {S S' : Nat → Prop} {w w' : World} {O O' : OInfo} (h : ExtN lo S S' w w' O O') (hO : ∀ id x, O id = some x → id < lo) : Ext S S' w w' O O' :=
 ⟨h.keep, fun id g ob ho => h.own id g ob (hO id _ ho) ho⟩
theorem ext_turn {S : Nat → Prop} {w : World} {O : OInfo} {L : Nat} (o' : Obj) (hS : ¬ S L) (hO : ¬ Own O L) : Ext S S w (w.putObj L o') O O := by
 have hoth : ∀ k, k ≠ L → (w.putObj L o').heap[k]? = w.heap[k]? := fun k hk => World.putObj_heap_other hk
 refine ⟨fun k hk => ⟨hk, hoth k (by rintro rfl; exact hS hk)⟩, fun id g ob ho => ⟨g, ob, ho, Nat.le_refl _, fun _ => ⟨rfl, fun b cur e hb hh => ⟨cur, ?_, rfl⟩⟩⟩⟩
 rw [hoth b (by rintro rfl; exact hO ⟨id, g, by rw [ho, hb]⟩)]
 exact hh
theorem mat_turn {S : Nat → Prop} {w : World} {O : OInfo} {hp : List Blk} (h : Mat S w O hp) {L : Nat} (o' : Obj) (hS : ¬ S L) (hO : ¬ Own O L) : Mat S (w.putObj L o') O hp := by
 refine h.keep (ext_turn o' hS hO) (by simp) (fun b hb => World.putObj_heap_other (by rintro rfl; exact hO hb)) (fun k hk => by simpa using h.lt k hk) fun k hk ⟨id, g, ho⟩ => (h.own id g k ho).2 hk
theorem sr_turn {S : Nat → Prop} {w : World} {O : OInfo} {σ : St} {a : Act} (h : SR M S w O σ a) {L : Nat} (o' : Obj) (hS : ¬ S L) (hO : ¬ Own O L) : SR M S (w.putObj L o') O σ a :=
 ⟨h.size, h.kept, h.fr.ext (ext_turn o' hS hO), mat_turn h.mat o' hS hO⟩
theorem later_alloc (w : World) (o : Obj) (ho : o.isCells = false) : Later w (w.alloc o) :=
 ⟨rfl, rfl, rfl, by simp, fun a _ => frozen_alloc_other w o ho a, fun n hn => heap_alloc_old w o hn⟩
theorem Later.trans {w w' w'' : World} (h : Later w w') (k : Later w' w'') : Later w w'' :=
 ⟨k.os.trans h.os, k.tape.trans h.tape, k.output.trans h.output, Nat.le_trans h.size k.size, fun a ha => (k.fz a (Nat.lt_of_lt_of_le ha h.size)).trans (h.fz a ha), fun n hn => (k.old n (Nat.lt_of_lt_of_le hn h.size)).trans (h.old n hn)⟩
theorem mat_own_lt {S : Nat → Prop} {w : World} {O : OInfo} {hp : List Blk} (h : Mat S w O hp) : ∀ k, Own O k → k < w.heap.size := fun k ⟨id, g, ho⟩ => (h.own id g k ho).1
theorem mat_evol {S : Nat → Prop} {w w' : World} {O : OInfo} {hp : List Blk} (h : Mat S w O hp) (hl : Later w w') : Mat S w' O hp :=
 h.keep (hl.evol h.lt (mat_own_lt h)).ext hl.size (fun b hb => hl.old b (mat_own_lt h b hb)) (fun k hk => Nat.lt_of_lt_of_le (h.lt k hk) hl.size) fun k hk ⟨id, g, ho⟩ => (h.own id g k ho).2 hk
theorem fold_frM {S : Nat → Prop} {w : World} {O : OInfo} : ∀ (ps : List Tmp) (x : List V) (cx : List Value) (fr : Nat → V) (a : Act), FrM S w O fr a → x.length = ps.length → cx.length = ps.length → (∀ p ∈ ps, p < a.tmps.size) → RepL (fun _ => False) w noO x cx →
  FrM S w O (updL fr ps x) { a with tmps := (ps.zip cx).foldl (fun t (p, v) => t.setIfInBounds p v) a.tmps }
 | [], x, cx, fr, a, h, hx, hc, hp, hr => by
  have : x = [] := List.eq_nil_of_length_eq_zero (by simpa using hx)
  subst this
  simpa [updL] using h
 | p :: ps, [], cx, fr, a, h, hx, hc, hp, hr => by simp at hx
 | p :: ps, v :: x, [], fr, a, h, hx, hc, hp, hr => by simp at hc
 | p :: ps, v :: x, c :: cx, fr, a, h, hx, hc, hp, hr => by
  simp only [RepL] at hr
  have hrep : Rep S w O v c := rep_noO (Rep.ext (S := fun _ => False) ⟨fun _ h => h.elim, fun _ _ _ h => by cases h⟩ _ _ hr.1)
  have h1 := FrM.put (dst := some p) (c := c) h (Ext.refl _ _ _) (fun d hd => by cases hd; exact hp p (by simp)) hrep
  have := fold_frM ps x cx (upd fr (some p) v) (a.put (some p) c) h1 (by simpa using hx) (by simpa using hc) (fun q hq => by rw [put_size]; exact hp q (by simp [hq])) hr.2
  simpa [updL, Act.put] using this
theorem fold_size : ∀ (l : List (Tmp × Value)) (t : Array Value), (l.foldl (fun t (p, v) => t.setIfInBounds p v) t).size = t.size
 | [], t => rfl
 | (p, v) :: l, t => by simp [fold_size l]
theorem fold_ne : ∀ (l : List (Tmp × Value)) (t : Array Value) (k : Nat), (∀ p ∈ l, p.1 ≠ k) → (l.foldl (fun t (p, v) => t.setIfInBounds p v) t).getD k undef = t.getD k undef
 | [], t, k, _ => rfl
 | (p, v) :: l, t, k, h => by
  rw [List.foldl_cons, fold_ne l _ k fun q hq => h q (by simp [hq])]
  have : p ≠ k := h (p, v) (by simp)
  simp [Array.getElem?_setIfInBounds_ne this]
def SoundAt (Γ : Gam) (P : Program) (M : FrI) (F : Fence) (n lo : Nat) (top : Nat) (r' : RC) (c : Code) : Prop :=
 ∀ (C : Ctx) (base : Nat), CtxOk P F n M C lo top base → ∀ (Q : Exit → St → Prop) (Q' : Exit → Act → World → Prop) (σ : St) (S : Nat → Prop) (w : World) (O : OInfo) (a : Act),
  wpR Γ (EqFlat P) r' Q σ → At C M S w O σ a → (∀ e σ' S' w' O' a', Q e σ' → At C M S' w' O' σ' a' → Q' e a' w') → c.wpIn F n P Q' a w
theorem openF_in (hF : OpenF F) (l : Nat) : OpenF (F.inRound l) := hF
set_option maxHeartbeats 1000000 in
theorem rfn_sound (hG : GOk P Γ) (hF : OpenF F) (hC : CtxOk P F n M C lo 1 base) {f0 : Operand} {f : Od} (hf : rOd P 0 f0 = some f) {ps : Array Tmp} {lo' : Nat} (hlo : lo ≤ lo') (hps : ∀ p ∈ ps.toList, p < M.n ∧ M.md ≤ p) {b' a' : RC} {cx cy : Code}
  (hb : ∀ l, SoundAt Γ P M (F.inRound l) (n - 1 - 1) lo' 0 b' cx) (ha : ∀ l, SoundAt Γ P M (F.inRound l) (n - 1 - 1) lo' 0 a' cy)
  {Q : Exit → St → Prop} {Q' : Exit → Act → World → Prop} {σ : St} {S : Nat → Prop} {w : World} {O : OInfo} {a : Act} (hw : wpR Γ (EqFlat P) (.rfn f ps.toList lo' b' a') Q σ) (hat : At C M S w O σ a)
  (hQ : ∀ e σ' S' w' O' a', Q e σ' → At C M S' w' O' σ' a' → Q' e a' w') : (Code.rangeFunc f0 ps cx cy).wpIn F n P Q' a w := by
 simp only [wpR] at hw
 have hrf := evO_rep hat.sr.fr hf
 split at hw
 ·rename_i gf caps hfv
  rw [hfv] at hrf
  split at hw
  ·rename_i ok ys hΓ
   obtain ⟨hg6, hok, href, hlen, I, hI0, hround, hdone⟩ := hw
   simp only [Rep] at hrf
   obtain ⟨ccs, hcf, hcn, hcr⟩ := hrf
   obtain ⟨hen, hit⟩ := hG.iter gf _ ys hg6 (by rw [hΓ]; exact hok) (by rw [hΓ])
   have hat1 := hat.drp hC hlo
   obtain ⟨S1, hS1⟩ : ∃ S1, S1 = cutS S O lo' := ⟨_, rfl⟩
   obtain ⟨O1, hO1⟩ : ∃ O1, O1 = restO O lo' := ⟨_, rfl⟩
   obtain ⟨fr0, hfr0⟩ : ∃ fr0 : Nat → V, fr0 = fun t => cutV σ.hp lo' (σ.fr t) := ⟨_, rfl⟩
   rw [← hS1, ← hO1, ← hfr0] at hat1
   rw [← hfr0] at hround hdone
   have hO1lt : ∀ id x, O1 id = some x → id < lo' := fun id x h => by rw [hO1] at h; exact (restO_some h).1
   have hSS1 : ∀ m, S m → S1 m := fun m h => by rw [hS1]; exact .inl h
   refine wpIn_rangeFunc ?_
   intro fn hfn
   rw [hC.rnd rfl]
   obtain ⟨rec, hrec⟩ : ∃ rec : LoopState → Option Code → Loop, rec = fun st pe => { state := st, pending := pe, fn, tmps := a.tmps, params := ps, assign := cx, body := cy, defers := w.heap.size } := ⟨_, rfl⟩
   obtain ⟨W1, hW1⟩ : ∃ W1, (w.alloc (.deferred (some []))).alloc (.loop (rec .ready none)) = W1 := ⟨_, rfl⟩
   obtain ⟨L, hL⟩ : ∃ L, L = w.heap.size + 1 := ⟨_, rfl⟩
   have hL1 : W1.heap[L]? = some (.loop (rec .ready none)) := by
    rw [← hW1, hL]; have := World.alloc_heap_new (w.alloc (.deferred (some []))) (.loop (rec .ready none)); rwa [World.size_alloc] at this
   have hlat : Later w W1 := by rw [← hW1]; exact (later_alloc w _ rfl).trans (later_alloc _ _ rfl)
   have hbase := hC.big rfl hat.ctx
   obtain ⟨J, hJ⟩ : ∃ J : Nat → World → Prop, J = fun k W => ∃ S2 O2 hp, I k hp ∧ C S2 W O2 (col w.heap.size :: a.defers) (ghO hp) ∧ FrM S2 W O2 fr0 a ∧ Mat S2 W O2 hp ∧ (∀ id x, O2 id = some x → id < lo') ∧ ¬ S2 L ∧ ¬ Own O2 L ∧
    W.heap[L]? = some (.loop (rec .ready none)) ∧ (∀ m, S m → S2 m ∧ W.heap[m]? = w.heap[m]?) ∧ W1.heap.size ≤ W.heap.size := ⟨_, rfl⟩
   obtain ⟨Jx, hJx⟩ : ∃ Jx : Nat → World → Prop, Jx = fun _ W => ∃ (id : Option Nat) (S2 : Nat → Prop) (O2 : OInfo) (hp : List Blk), Q (exOf id) ⟨fr0, hp⟩ ∧ C S2 W O2 (col w.heap.size :: a.defers) (ghO hp) ∧ FrM S2 W O2 fr0 a ∧ Mat S2 W O2 hp ∧ ¬ S2 L ∧ ¬ Own O2 L ∧
    W.heap[L]? = some (.loop (rec .done (some (cdOf id)))) ∧ (∀ m, S m → S2 m ∧ W.heap[m]? = w.heap[m]?) ∧ W1.heap.size ≤ W.heap.size := ⟨_, rfl⟩
   have hJl : ∀ k W W', J k W → Later W W' → J k W' := by
    intro k W W' h hl
    rw [hJ] at h ⊢
    obtain ⟨S2, O2, hp, h1, h2, h3, h4, h5, h6, h7, h8, h9, h10⟩ := h
    have ev := hl.evol h4.lt (mat_own_lt h4)
    refine ⟨S2, O2, hp, h1, hC.evol h2 h4.lt ev (fun _ h => h), h3.ext ev.ext, mat_evol h4 hl, h5, h6, h7, (hl.old L (Array.getElem?_eq_some_iff.1 h8).1).trans h8, fun m hm => ⟨(h9 m hm).1, ?_⟩, Nat.le_trans h10 hl.size⟩
    rw [hl.old m (h4.lt m (h9 m hm).1)]
    exact (h9 m hm).2
   have hJxl : ∀ k W W', Jx k W → Later W W' → Jx k W' := by
    intro k W W' h hl
    rw [hJx] at h ⊢
    obtain ⟨id, S2, O2, hp, h1, h2, h3, h4, h6, h7, h8, h9, h10⟩ := h
    have ev := hl.evol h4.lt (mat_own_lt h4)
    refine ⟨id, S2, O2, hp, h1, hC.evol h2 h4.lt ev (fun _ h => h), h3.ext ev.ext, mat_evol h4 hl, h6, h7, (hl.old L (Array.getElem?_eq_some_iff.1 h8).1).trans h8, fun m hm => ⟨(h9 m hm).1, ?_⟩, Nat.le_trans h10 hl.size⟩
    rw [hl.old m (h4.lt m (h9 m hm).1)]
    exact (h9 m hm).2
   have hJ0 : J 0 W1 := by
    rw [hJ]
    have ev := hlat.evol hat1.sr.mat.lt (mat_own_lt hat1.sr.mat)
    refine ⟨S1, O1, cutH lo' σ.hp, hI0, ?_, hat1.sr.fr.ext ev.ext, mat_evol hat1.sr.mat hlat, hO1lt, fun h => ?_, fun h => ?_, hL1, fun m hm => ⟨hSS1 m hm, hlat.old m (hat.sr.mat.lt m hm)⟩, Nat.le_refl _⟩
    ·rw [← hW1]
     exact hC.enter rfl hat1.ctx hat1.sr.mat.lt (mat_own_lt hat1.sr.mat)
    ·have := hat1.sr.mat.lt L h; omega
    ·have := mat_own_lt hat1.sr.mat L h; omega
   have hbL : base ≤ L := by omega
   refine ⟨L, [{ target := .collected w.heap.size, args := #[] }], W1, { target := .fn (.func gf) ccs, args := #[.func (.yield L) #[] #[]] }, W1, gf,
    #[.func (.yield L) #[] #[]] ++ ccs, W1, ?_, ?_, ?_, ?_, fun h => by simp [hF.2.1] at h, ?_⟩
   ·rw [← hW1, hrec, hL]; exact run_enterLoop_outer _ _ _ _ _
   ·simp only [resolve, hcf]
    simp [go_sem]
   ·intro f' hf'; exact hF.1 f'
   ·simp only [invoke]; exact hen _ _
   ·refine (hit F (n - 1) S W1 ccs L J Jx hF (hC.rnd rfl) (fun m hm => Nat.lt_of_lt_of_le (hat.sr.mat.lt m hm) hlat.size) (by simpa using hcn) ?_ hJl hJxl ?_ ?_ hJ0).mono ?_
    ·have h0 := vwL_noref (hp := σ.hp) _ _ href hcr
     exact RepL.ext ⟨fun m hm => ⟨hm, hlat.old m (hat.sr.mat.lt m hm)⟩, fun _ _ _ h => by cases h⟩ _ _ h0
    ·rintro k W (h | h)
     ·rw [hJ] at h
      obtain ⟨S2, O2, hp, h1, h2, h3, h4, h5, h6, h7, h8, h9, h10⟩ := h
      exact ⟨h10, fun m hm => (h9 m hm).2.trans (hlat.old m (hat.sr.mat.lt m hm)).symm⟩
     ·rw [hJx] at h
      obtain ⟨id, S2, O2, hp, h1, h2, h3, h4, h6, h7, h8, h9, h10⟩ := h
      exact ⟨h10, fun m hm => (h9 m hm).2.trans (hlat.old m (hat.sr.mat.lt m hm)).symm⟩
    ·
     intro k x W cxs hx h hxr hxs
     rw [hJ] at h
     obtain ⟨S2, O2, hp, h1, h2, h3, h4, h5, h6, h7, h8, h9, h10⟩ := h
     have hxl : x.length = ps.size := by have := hlen x (List.mem_of_getElem? hx); simpa using this
     have hy := run_yield (P := P) (args := cxs) h8 (by rw [hrec]; show cxs.size = ps.size; omega)
     rw [hrec] at hy
     refine ⟨fn, _, cx, cy, hy, roundIn_of_wpIn hfn ?_⟩
     obtain ⟨Cb, hCb⟩ : ∃ Cb : Loop → Ctx, Cb = fun r S' W' O' ds' h' => ds' = [] ∧ C S' W' O' (col w.heap.size :: a.defers) h' ∧ ExtN lo' S2 S' W W' O2 O' ∧ ¬ S' L ∧ ¬ Own O' L ∧ W'.heap[L]? = some (.loop r) ∧ W.heap.size ≤ W'.heap.size := ⟨_, rfl⟩
     have hCbOk : ∀ r, CtxOk P (F.inRound L) (n - 1 - 1) M (Cb r) lo' 0 0 := by
      intro r
      rw [hCb]
      refine ⟨?_, ?_, fun h => (by cases h), fun h => (by cases h), fun h => (by cases h), fun h => (by cases h), fun h => (by cases h), fun h => (by cases h), fun h => (by cases h), fun h => (by cases h)⟩
      ·rintro S' S'' W' W'' O' O'' ds g g' ⟨k1, k2, k3, k4, k5, k6, k7⟩ hlt ev hg
       have hLlt := (Array.getElem?_eq_some_iff.1 k6).1
       refine ⟨k1, hC.evol k2 hlt ev hg, k3.then ev.ext, fun hS => ?_, fun hO => ?_, (ev.old L hLlt k5).trans k6, Nat.le_trans k7 ev.size⟩
       ·rcases ev.grow L hS with h | h | h
        ·exact k4 h
        ·exact k5 h
        ·omega
       ·rcases ev.fresh L hO with h | h
        ·exact k5 h
        ·omega
      ·rintro S' W' O' ds g g' kk ⟨k1, k2, k3, k4, k5, k6, k7⟩ hkk hg
       refine ⟨k1, hC.cut k2 (Nat.le_trans hlo hkk) (fun hl => hg (Nat.le_trans hl hlo)), k3.cut hkk, ?_, fun ⟨id, g2, ho⟩ => k5 ⟨id, g2, (restO_some ho).2⟩, k6, k7⟩
       rintro (h | ⟨id, g2, ho⟩)
       ·exact k4 h
       ·exact k5 ⟨id, g2, (fromO_some ho).2⟩
     have hpsz : ∀ p ∈ ps.toList, p < a.tmps.size := fun p hp => by rw [hat.sr.size]; exact (hps p hp).1
     refine hb L (Cb (rec .ready none)) 0 (hCbOk _) _ _ ⟨updL fr0 ps.toList x, hp⟩ S2 W O2 _ (hround k x hp hx h1) ⟨?_, ⟨?_, ?_, ?_, h4⟩⟩ ?_
     ·rw [hCb]; exact ⟨rfl, h2, ExtN.refl _ _ _ _, h6, h7, h8, Nat.le_refl _⟩
     ·show ((ps.zip cxs).foldl (fun t (x : Tmp × Value) => t.setIfInBounds x.1 x.2) a.tmps).size = _
      rw [← Array.foldl_toList, fold_size, hat.sr.size]
     ·intro t ht
      show ((ps.zip cxs).foldl (fun t (x : Tmp × Value) => t.setIfInBounds x.1 x.2) a.tmps).getD t undef = _
      rw [← Array.foldl_toList, fold_ne]
      ·exact hat.sr.kept t ht
      ·rintro ⟨p, v⟩ hpv
       have : p ∈ ps.toList := by
        rw [Array.toList_zip] at hpv
        exact (List.of_mem_zip hpv).1
       have := (hps p this).2
       intro h
       have h : p = t := h
       rw [h] at this
       exact absurd this (Nat.not_le.2 ht)
     ·have := fold_frM ps.toList x cxs.toList fr0 { tmps := a.tmps, defers := [] } h3 (by simpa using hxl) (by simp; omega) hpsz hxr
      have e : (ps.zip cxs).foldl (fun t (x : Tmp × Value) => t.setIfInBounds x.1 x.2) a.tmps = (ps.toList.zip cxs.toList).foldl (fun t (x : Tmp × Value) => t.setIfInBounds x.1 x.2) a.tmps := by
       rw [← Array.foldl_toList, Array.toList_zip]
      show FrM S2 W O2 (updL fr0 ps.toList x) { tmps := (ps.zip cxs).foldl (fun t (x : Tmp × Value) => t.setIfInBounds x.1 x.2) a.tmps, defers := [] }
      rw [e]
      exact this
     ·
      intro e σ1 S3 W3 O3 a3 he hat3
      cases e <;> first | exact he.elim | skip
      have hctx3 := hat3.ctx
      rw [hCb] at hctx3
      obtain ⟨k1, k2, k3, k4, k5, k6, k7⟩ := hctx3
      have hbeg := run_beginRound (P := P) k6 (by rw [hrec])
      refine ⟨_, hbeg, ?_⟩
      have hL3 := (Array.getElem?_eq_some_iff.1 k6).1
      refine ha L (Cb { rec .ready none with state := .busy }) 0 (hCbOk _) _ _ σ1 S3 _ O3 a3 he ⟨?_, sr_turn hat3.sr _ k4 k5⟩ ?_
      ·rw [hCb]
       exact ⟨k1, hC.turn rfl k2 k6 k4 k5 hbL, k3.then (ext_turn _ k4 k5), k4, k5, World.putObj_heap_same hL3, by simpa using k7⟩
      ·
       intro e σ5 S5 W5 O5 a5 he5 hat5
       have hctx5 := hat5.ctx
       rw [hCb] at hctx5
       obtain ⟨m1, m2, m3, m4, m5, m6, m7⟩ := hctx5
       have hL5 := (Array.getElem?_eq_some_iff.1 m6).1
       have c4 : ¬ cutS S5 O5 lo' L := by
        rintro (h | ⟨id, g2, ho⟩)
        ·exact m4 h
        ·exact m5 ⟨id, g2, (fromO_some ho).2⟩
       have c5 : ¬ Own (restO O5 lo') L := fun ⟨id, g2, ho⟩ => m5 ⟨id, g2, (restO_some ho).2⟩
       have hc := hC.cut (h' := ghO (cutH lo' σ5.hp)) m2 hlo fun hl y hy => ghO_cut hy (by omega)
       have hx5 : Ext S2 (cutS S5 O5 lo') W W5 O2 (restO O5 lo') := (m3.cut (Nat.le_refl _)).ext h5
       have common : ∀ r : Loop, C (cutS S5 O5 lo') (W5.putObj L (.loop r)) (restO O5 lo') (col w.heap.size :: a.defers) (ghO (cutH lo' σ5.hp)) ∧ FrM (cutS S5 O5 lo') (W5.putObj L (.loop r)) (restO O5 lo') fr0 a ∧
         Mat (cutS S5 O5 lo') (W5.putObj L (.loop r)) (restO O5 lo') (cutH lo' σ5.hp) := fun r =>
        ⟨hC.turn rfl hc m6 c4 c5 hbL, (h3.ext hx5).ext (ext_turn _ c4 c5), mat_turn (cut_mat hat5.sr.mat lo') _ c4 c5⟩
       have hrdy : ∀ jump : Option Code, ({ ({ rec .ready none with state := .busy } : Loop) with state := if jump.isNone then .ready else .done, pending := jump } : Loop) = rec (if jump.isNone then .ready else .done) jump := by
        intro jump; rw [hrec]
       cases e <;> first | exact he5.elim | skip
       case normal =>
        obtain ⟨c1, c2, c3⟩ := common (rec .ready none)
        refine ⟨_, _, run_endRound (P := P) none m6, .inl ⟨rfl, ?_⟩⟩
        rw [hrdy none, hJ]
        simp only [Option.isNone_none, if_true]
        refine ⟨_, _, cutH lo' σ5.hp, he5, c1, c2, c3, fun id x h => (restO_some h).1, c4, c5, World.putObj_heap_same hL5, fun m hm => ?_, ?_⟩
        ·have := hx5.keep m (h9 m hm).1
         refine ⟨this.1, ?_⟩
         rw [World.putObj_heap_other (by rintro rfl; exact c4 this.1), this.2]
         exact (h9 m hm).2
        ·have : W1.heap.size ≤ W5.heap.size := Nat.le_trans h10 m7
         simpa using this
       case exit id =>
        obtain ⟨c1, c2, c3⟩ := common (rec .done (some (.exit id)))
        refine ⟨_, _, run_endRound (P := P) (some (.exit id)) m6, .inr ⟨rfl, ?_⟩⟩
        rw [hrdy (some (.exit id)), hJx]
        simp only [Option.isNone_some, Bool.false_eq_true, if_false]
        refine ⟨some id, _, _, cutH lo' σ5.hp, he5, c1, c2, c3, c4, c5, World.putObj_heap_same hL5, fun m hm => ?_, ?_⟩
        ·have := hx5.keep m (h9 m hm).1
         refine ⟨this.1, ?_⟩
         rw [World.putObj_heap_other (by rintro rfl; exact c4 this.1), this.2]
         exact (h9 m hm).2
        ·have : W1.heap.size ≤ W5.heap.size := Nat.le_trans h10 m7
         simpa using this
       case ret =>
        obtain ⟨c1, c2, c3⟩ := common (rec .done (some .ret))
        refine ⟨_, _, run_endRound (P := P) (some .ret) m6, .inr ⟨rfl, ?_⟩⟩
        rw [hrdy (some .ret), hJx]
        simp only [Option.isNone_some, Bool.false_eq_true, if_false]
        refine ⟨none, _, _, cutH lo' σ5.hp, he5, c1, c2, c3, c4, c5, World.putObj_heap_same hL5, fun m hm => ?_, ?_⟩
        ·have := hx5.keep m (h9 m hm).1
         refine ⟨this.1, ?_⟩
         rw [World.putObj_heap_other (by rintro rfl; exact c4 this.1), this.2]
         exact (h9 m hm).2
        ·have : W1.heap.size ≤ W5.heap.size := Nat.le_trans h10 m7
         simpa using this
    ·
     rintro e W2 ⟨⟨v, rfl⟩, h | ⟨k, h⟩⟩
     ·rw [hJ] at h
      obtain ⟨S2, O2, hp, h1, h2, h3, h4, h5, h6, h7, h8, h9, h10⟩ := h
      refine ⟨none, _, by have := run_endLoop (P := P) h8 (by rw [hrec]; simp); rw [hrec] at this; exact this, ?_⟩
      have s := sr_turn (σ := ⟨fr0, hp⟩) ⟨hat.sr.size, hat.sr.kept, h3, h4⟩ (.loop { rec .ready none with state := .exhausted }) h6 h7
      rw [hrec] at s
      exact hQ _ ⟨fr0, hp⟩ S2 _ O2 _ (hdone hp h1) ⟨hC.turn rfl h2 h8 h6 h7 hbL, ⟨s.size, s.kept, s.fr, s.mat⟩⟩
     ·rw [hJx] at h
      obtain ⟨id, S2, O2, hp, h1, h2, h3, h4, h6, h7, h8, _, _⟩ := h
      refine ⟨some (cdOf id), _, by have := run_endLoop (P := P) h8 (by rw [hrec]; simp); rw [hrec] at this; exact this, ?_⟩
      have s := sr_turn (σ := ⟨fr0, hp⟩) ⟨hat.sr.size, hat.sr.kept, h3, h4⟩ (.loop { rec .done (some (cdOf id)) with state := .exhausted }) h6 h7
      rw [hrec] at s
      cases id with
      | none => exact wpIn_ret (hQ _ ⟨fr0, hp⟩ S2 _ O2 _ h1 ⟨hC.turn rfl h2 h8 h6 h7 hbL, ⟨s.size, s.kept, s.fr, s.mat⟩⟩)
      | some id => exact wpIn_exit (hQ _ ⟨fr0, hp⟩ S2 _ O2 _ h1 ⟨hC.turn rfl h2 h8 h6 h7 hbL, ⟨s.size, s.kept, s.fr, s.mat⟩⟩)
  ·exact hw.elim
 ·exact hw.elim
theorem ext_rest {S S' : Nat → Prop} {w w' : World} {O O' : OInfo} (h : Ext S S' w w' O O') (k : Nat) : Ext S S' w w' (restO O k) (restO O' k) := by
 refine ⟨h.keep, fun id g ob ho => ?_⟩
 obtain ⟨hl, ho'⟩ := restO_some ho
 obtain ⟨g', ob', h1, h2⟩ := h.own id g ob ho'
 exact ⟨g', ob', by unfold restO; rw [if_pos hl]; exact h1, h2⟩
theorem ext_unrest {S : Nat → Prop} {w : World} {O : OInfo} (k : Nat) : Ext S S w w (restO O k) O := by
 refine ⟨fun n hn => ⟨hn, rfl⟩, fun id g ob ho => ⟨g, ob, (restO_some ho).2, Nat.le_refl _, fun _ => ⟨rfl, fun b cur e _ hh => ⟨cur, hh, rfl⟩⟩⟩⟩
theorem restO_restO {O : OInfo} {j k : Nat} (h : k ≤ j) : restO (restO O j) k = restO O k := by
 funext id
 unfold restO
 split
 ·rw [if_pos (by omega)]
 ·rfl
theorem fold_frM' {S : Nat → Prop} {w : World} {O : OInfo} : ∀ (ps : List Tmp) (x : List V) (cx : List Value) (fr : Nat → V) (a : Act), FrM S w O fr a → x.length = ps.length → cx.length = ps.length → (∀ p ∈ ps, p < a.tmps.size) → RepL S w O x cx →
  FrM S w O (updL fr ps x) { a with tmps := (ps.zip cx).foldl (fun t (p, v) => t.setIfInBounds p v) a.tmps }
 | [], x, cx, fr, a, h, hx, hc, hp, hr => by
  have : x = [] := List.eq_nil_of_length_eq_zero (by simpa using hx)
  subst this
  simpa [updL] using h
 | p :: ps, [], cx, fr, a, h, hx, hc, hp, hr => by simp at hx
 | p :: ps, v :: x, [], fr, a, h, hx, hc, hp, hr => by simp at hc
 | p :: ps, v :: x, c :: cx, fr, a, h, hx, hc, hp, hr => by
  simp only [RepL] at hr
  have h1 := FrM.put (dst := some p) (c := c) h (Ext.refl _ _ _) (fun d hd => by cases hd; exact hp p (by simp)) hr.1
  have := fold_frM' ps x cx (upd fr (some p) v) (a.put (some p) c) h1 (by simpa using hx) (by simpa using hc) (fun q hq => by rw [put_size]; exact hp q (by simp [hq])) hr.2
  simpa [updL, Act.put] using this
theorem round_any (hF : OpenF F) {m : Nat} {l : Nat} {f : FuncId} {tmps : Array Value} {assign body : Code} {w : World} {R : Ending → World → Prop} (h : RoundIn F n P l f tmps assign body w R) : RoundIn F m P l f tmps assign body w R :=
 ⟨h.1, fun c cs _ => h.2 c cs (fun d hd => by rw [hF.2.1] at hd; cases hd)⟩
set_option maxHeartbeats 1000000 in
theorem rfh_sound (hG : GOk P Γ) (hF : OpenF F) (hC : CtxOk P F n M C lo 1 base) {f0 : Operand} {f : Od} (hf : rOd P 0 f0 = some f) {ps : Array Tmp} {lo' zl : Nat} (hlo : lo ≤ lo') (hps : ∀ p ∈ ps.toList, p < M.n ∧ M.md ≤ p) {b' a' : RC} {cx cy : Code}
  (hb : ∀ l, SoundAt Γ P M (F.inRound l) (n - 1 - 1) (lo' + zl) 0 b' cx) (ha : ∀ l, SoundAt Γ P M (F.inRound l) (n - 1 - 1) (lo' + zl) 0 a' cy)
  {Q : Exit → St → Prop} {Q' : Exit → Act → World → Prop} {σ : St} {S : Nat → Prop} {w : World} {O : OInfo} {a : Act} (hw : wpR Γ (EqFlat P) (.rfh f ps.toList lo' zl b' a') Q σ) (hat : At C M S w O σ a)
  (hQ : ∀ e σ' S' w' O' a', Q e σ' → At C M S' w' O' σ' a' → Q' e a' w') : (Code.rangeFunc f0 ps cx cy).wpIn F n P Q' a w := by
 simp only [wpR] at hw
 have hrf0 := evO_rep hat.sr.fr hf
 have hrf := cut_rep hat.sr.mat lo' _ _ hrf0
 split at hw
 ·rename_i gf caps sd hfv
  obtain ⟨al, ysF, bv0, I, hhp0, hI0, hIal, hallo, hcall0, hround0, hdone0⟩ := hw
  have hcall := hcall0 (w.heap.size + 1)
  have hround := hround0 (w.heap.size + 1)
  have hdone := hdone0 (w.heap.size + 1)
  obtain ⟨ys, hys⟩ : ∃ ys, ys = ysF (w.heap.size + 1) := ⟨_, rfl⟩
  rw [← hys] at hcall hround hdone
  obtain ⟨enc, henc⟩ : ∃ enc : List V × List V → List V, enc = fun y => gyE y.1 y.2 := ⟨_, rfl⟩
  rw [← henc] at hcall
  have hrf2 : ∃ bnd cap : Array Value, a.eval f0 = .func (.func gf) bnd cap ∧ (bnd.size + cap.size = caps.length) ∧ ∀ (L : Nat) (S2 : Nat → Prop) (W2 : World) (O2 : OInfo), Ext (cutS S O lo') S2 w W2 (restO O lo') O2 → RepL S2 W2 O2 (rfG caps sd L) (bnd ++ #[Value.func (.yield L) #[] #[]] ++ cap).toList := by
   unfold rfA at hfv
   split at hfv
   ·rename_i g0 c0 hcv
    simp only [Option.some.injEq, Prod.mk.injEq] at hfv
    obtain ⟨rfl, rfl, rfl⟩ := hfv
    rw [hcv] at hrf
    simp only [Rep] at hrf
    obtain ⟨ccs, hcf, hcn, hcr⟩ := hrf
    refine ⟨#[], ccs, hcf, by simp [hcn], fun L S2 W2 O2 hx => ?_⟩
    simp only [rfG, Bool.false_eq_true, if_false, Array.toList_append, List.nil_append, List.cons_append, RepL, Rep]
    exact ⟨trivial, RepL.ext hx _ _ hcr⟩
   ·rename_i g0 c0 hcv
    simp only [Option.some.injEq, Prod.mk.injEq] at hfv
    obtain ⟨rfl, rfl, rfl⟩ := hfv
    rw [hcv] at hrf
    simp only [Rep] at hrf
    obtain ⟨ccs, hcf, hcn, hcr⟩ := hrf
    refine ⟨ccs, #[], hcf, by simp [hcn], fun L S2 W2 O2 hx => ?_⟩
    have h1 := RepL.ext hx.noO _ _ hcr
    have h2 : RepL S2 W2 O2 c0 ccs.toList := RepL.ext ⟨fun _ h => ⟨h, rfl⟩, fun _ _ _ h => by cases h⟩ _ _ h1
    simp only [rfG, if_true, Array.toList_append, List.append_nil]
    exact RepL.append _ _ _ _ h2 (by simp [hcn]) (by simp [RepL, Rep])
   ·cases hfv
  obtain ⟨bnd, cap, hcf, hcn, hcr⟩ := hrf2
  have hat1 := hat.drp hC hlo
  obtain ⟨S1, hS1⟩ : ∃ S1, S1 = cutS S O lo' := ⟨_, rfl⟩
  obtain ⟨O1, hO1⟩ : ∃ O1, O1 = restO O lo' := ⟨_, rfl⟩
  obtain ⟨fr0, hfr0⟩ : ∃ fr0 : Nat → V, fr0 = fun t => cutV σ.hp lo' (σ.fr t) := ⟨_, rfl⟩
  rw [← hS1, ← hO1, ← hfr0, hhp0] at hat1
  rw [← hS1, ← hO1] at hcr
  have hlenG : ∀ L, (rfG caps sd L).length = caps.length + 1 := fun L => by unfold rfG; split <;> simp
  rw [← hfr0] at hround hdone
  have hO11 : restO O1 lo' = O1 := by rw [hO1]; exact restO_restO (Nat.le_refl _)
  have hbv0 := (hallo bv0 (hIal 0 bv0 hI0)).1
  refine wpIn_rangeFunc ?_
  intro fn hfn
  rw [hC.rnd rfl]
  obtain ⟨rec, hrec⟩ : ∃ rec : LoopState → Option Code → Loop, rec = fun st pe => { state := st, pending := pe, fn, tmps := a.tmps, params := ps, assign := cx, body := cy, defers := w.heap.size } := ⟨_, rfl⟩
  obtain ⟨W1, hW1⟩ : ∃ W1, (w.alloc (.deferred (some []))).alloc (.loop (rec .ready none)) = W1 := ⟨_, rfl⟩
  obtain ⟨L, hL⟩ : ∃ L, L = w.heap.size + 1 := ⟨_, rfl⟩
  have hL1 : W1.heap[L]? = some (.loop (rec .ready none)) := by
   rw [← hW1, hL]; have := World.alloc_heap_new (w.alloc (.deferred (some []))) (.loop (rec .ready none)); rwa [World.size_alloc] at this
  have hlat : Later w W1 := by rw [← hW1]; exact (later_alloc w _ rfl).trans (later_alloc _ _ rfl)
  have hbase := hC.big rfl hat.ctx
  have hbL : base ≤ L := by omega
  obtain ⟨capL, hcapL⟩ : ∃ capL, capL = V.yl L :: caps := ⟨_, rfl⟩
  obtain ⟨CJ, hCJ⟩ : ∃ CJ : (Nat → Prop) → World → OInfo → Gh → Prop, CJ = fun S2 W O2 h => ∃ (b : Bool) (bv : List V) (rest : List (List V)), h = some (capL, some (gyA b bv :: rest)) ∧ C S2 W O2 (col w.heap.size :: a.defers) none ∧ FrM S2 W (restO O2 lo') fr0 a ∧
    ¬ S2 L ∧ ¬ Own O2 L ∧ ((b = true ∧ (∃ k, k ≤ ys.length ∧ rest = (ys.drop k).map enc ∧ I k bv) ∧ W.heap[L]? = some (.loop (rec .ready none))) ∨
     (b = false ∧ rest = [] ∧ ∃ id : Option Nat, Q (exOf id) ⟨fr0, .hole :: bv.map vB⟩ ∧ W.heap[L]? = some (.loop (rec .done (some (cdOf id)))))) := ⟨_, rfl⟩
  have hevL : ∀ {S2 S3 W W' O2 O3}, Evol S2 S3 W W' O2 O3 → ¬ S2 L → ¬ Own O2 L → L < W.heap.size → ¬ S3 L ∧ ¬ Own O3 L ∧ W'.heap[L]? = W.heap[L]? := by
   intro S2 S3 W W' O2 O3 ev h1 h2 h3
   refine ⟨fun hS => ?_, fun hO => ?_, ev.old L h3 h2⟩
   ·rcases ev.grow L hS with h | h | h
    ·exact h1 h
    ·exact h2 h
    ·omega
   ·rcases ev.fresh L hO with h | h
    ·exact h2 h
    ·omega
  have hyok : YOk P F al lo' CJ := by
   refine ⟨?_, ?_, ?_⟩
   ·intro S2 S3 W W' O2 O3 h h' hc hlt ev hg
    rw [hCJ] at hc ⊢
    obtain ⟨b, bv, rest, h1, h2, h3, h4, h5, h6⟩ := hc
    have hLW : L < W.heap.size := by
     rcases h6 with ⟨_, _, h⟩ | ⟨_, _, _, _, h⟩ <;> exact (Array.getElem?_eq_some_iff.1 h).1
    obtain ⟨e1, e2, e3⟩ := hevL ev h4 h5 hLW
    refine ⟨b, bv, rest, hg _ h1, hC.evol h2 hlt ev (fun _ h => h), h3.ext (ext_rest ev.ext lo'), e1, e2, ?_⟩
    rw [e3]
    exact h6
   ·intro S2 W O2 h h' k hc hk hg
    rw [hCJ] at hc ⊢
    obtain ⟨b, bv, rest, h1, h2, h3, h4, h5, h6⟩ := hc
    refine ⟨b, bv, rest, hg _ h1, hC.cut h2 (Nat.le_trans hlo hk) (fun _ _ h => h), ?_, ?_, fun ⟨id, g, ho⟩ => h5 ⟨id, g, (restO_some ho).2⟩, h6⟩
    ·rw [restO_restO hk]
     exact h3.ext ⟨fun n hn => ⟨.inl hn, rfl⟩, fun id g ob ho => ⟨g, ob, ho, Nat.le_refl _, fun _ => ⟨rfl, fun b cur e _ hh => ⟨cur, hh, rfl⟩⟩⟩⟩
    ·rintro (h | ⟨id, g, ho⟩)
     ·exact h4 h
     ·exact h5 ⟨id, g, (fromO_some ho).2⟩
   ·
    intro S2 W O2 caps' bv x z rest cxs l m hc hmat hl hxr hxs
    rw [hCJ] at hc
    obtain ⟨b, bv1, rest1, h1, h2, h3, h4, h5, h6⟩ := hc
    simp only [Option.some.injEq, Prod.mk.injEq, List.cons.injEq, V.b.injEq] at h1
    obtain ⟨rfl, ⟨rfl, rfl⟩, rfl⟩ := h1
    rw [hcapL] at hl
    simp only [List.getElem?_cons_zero, Option.some.injEq, V.yl.injEq] at hl
    subst hl
    rcases h6 with ⟨_, ⟨k, hk, hrest, hI⟩, h8⟩ | ⟨hbf, _⟩
    ·have hyk : ys[k]? = some (x, z) := by
      have e := congrArg (fun l => l[0]?) hrest
      simp only [List.getElem?_cons_zero, List.getElem?_map, List.getElem?_drop, Nat.add_zero] at e
      cases hy : ys[k]? with
      | none => rw [hy] at e; cases e
      | some y =>
       rw [hy, henc] at e
       simp only [Option.map_some, Option.some.injEq, List.cons.injEq, V.tp.injEq, and_true] at e
       rw [e.1, e.2]
     have hrest2 : rest = (ys.drop (k + 1)).map enc := by
      have e := congrArg List.tail hrest
      simpa [List.tail_drop] using e
     have hklt := getElemLt hyk
     obtain ⟨hxl0, hzl, hwp⟩ := hround k x z bv hyk hI
     have hxl : x.length = ps.size := by simpa using hxl0
     have hbvl := (hallo bv (hIal k bv hI)).1
     have hy := run_yield (P := P) (args := cxs) h8 (by rw [hrec]; show cxs.size = ps.size; omega)
     rw [hrec] at hy
     refine ⟨fn, _, cx, cy, hy, round_any (n := n - 1 - 1) hF (roundIn_of_wpIn hfn ?_)⟩
     obtain ⟨Cb, hCb⟩ : ∃ Cb : Loop → Ctx, Cb = fun r S' W' O' ds' _ => ds' = [] ∧ C S' W' O' (col w.heap.size :: a.defers) none ∧ ExtN (lo' + zl) S2 S' W W' O2 O' ∧ ¬ S' L ∧ ¬ Own O' L ∧ W'.heap[L]? = some (.loop r) := ⟨_, rfl⟩
     have hCbOk : ∀ r, CtxOk P (F.inRound L) (n - 1 - 1) M (Cb r) (lo' + zl) 0 0 := by
      intro r
      rw [hCb]
      refine ⟨?_, ?_, fun h => (by cases h), fun h => (by cases h), fun h => (by cases h), fun h => (by cases h), fun h => (by cases h), fun h => (by cases h), fun h => (by cases h), fun h => (by cases h)⟩
      ·rintro S' S'' W' W'' O' O'' ds g g' ⟨k1, k2, k3, k4, k5, k6⟩ hlt ev hg
       obtain ⟨e1, e2, e3⟩ := hevL ev k4 k5 (Array.getElem?_eq_some_iff.1 k6).1
       exact ⟨k1, hC.evol k2 hlt ev (fun _ h => h), k3.then ev.ext, e1, e2, e3.trans k6⟩
      ·rintro S' W' O' ds g g' kk ⟨k1, k2, k3, k4, k5, k6⟩ hkk hg
       refine ⟨k1, hC.cut k2 (by omega) (fun _ _ h => h), k3.cut hkk, ?_, fun ⟨id, g2, ho⟩ => k5 ⟨id, g2, (restO_some ho).2⟩, k6⟩
       rintro (h | ⟨id, g2, ho⟩)
       ·exact k4 h
       ·exact k5 ⟨id, g2, (fromO_some ho).2⟩
     have hpsz : ∀ p ∈ ps.toList, p < a.tmps.size := fun p hp => by rw [hat.sr.size]; exact (hps p hp).1
     have hO2lt : ∀ id y, O2 id = some y → id < lo' + zl := by
      intro id y hy
      have := mat_lt hmat hy
      simp only [List.length_cons, List.length_map, List.length_append] at this
      omega
     refine hb L (Cb (rec .ready none)) 0 (hCbOk _) _ _ ⟨updL fr0 ps.toList x, .hole :: (bv ++ z).map vB⟩ S2 W O2 _ hwp ⟨?_, ⟨?_, ?_, ?_, hmat⟩⟩ ?_
     ·rw [hCb]; exact ⟨rfl, h2, ExtN.refl _ _ _ _, h4, h5, h8⟩
     ·show ((ps.zip cxs).foldl (fun t (x : Tmp × Value) => t.setIfInBounds x.1 x.2) a.tmps).size = _
      rw [← Array.foldl_toList, fold_size, hat.sr.size]
     ·intro t ht
      show ((ps.zip cxs).foldl (fun t (x : Tmp × Value) => t.setIfInBounds x.1 x.2) a.tmps).getD t undef = _
      rw [← Array.foldl_toList, fold_ne]
      ·exact hat.sr.kept t ht
      ·rintro ⟨p, v⟩ hpv
       have : p ∈ ps.toList := by
        rw [Array.toList_zip] at hpv
        exact (List.of_mem_zip hpv).1
       have := (hps p this).2
       intro h
       have h : p = t := h
       rw [h] at this
       exact absurd this (Nat.not_le.2 ht)
     ·have := fold_frM' (O := O2) ps.toList x cxs.toList fr0 { tmps := a.tmps, defers := [] } (FrM.ext h3 (ext_unrest lo')) (by simpa using hxl) (by simp; omega) hpsz hxr
      have e : (ps.zip cxs).foldl (fun t (x : Tmp × Value) => t.setIfInBounds x.1 x.2) a.tmps = (ps.toList.zip cxs.toList).foldl (fun t (x : Tmp × Value) => t.setIfInBounds x.1 x.2) a.tmps := by
       rw [← Array.foldl_toList, Array.toList_zip]
      show FrM S2 W O2 (updL fr0 ps.toList x) { tmps := (ps.zip cxs).foldl (fun t (x : Tmp × Value) => t.setIfInBounds x.1 x.2) a.tmps, defers := [] }
      rw [e]
      exact this
     ·
      intro e σ1 S3 W3 O3 a3 he hat3
      cases e <;> first | exact he.elim | skip
      have hctx3 := hat3.ctx
      rw [hCb] at hctx3
      obtain ⟨k1, k2, k3, k4, k5, k6⟩ := hctx3
      have hbeg := run_beginRound (P := P) k6 (by rw [hrec])
      refine ⟨_, hbeg, ?_⟩
      have hL3 := (Array.getElem?_eq_some_iff.1 k6).1
      refine ha L (Cb { rec .ready none with state := .busy }) 0 (hCbOk _) _ _ σ1 S3 _ O3 a3 he ⟨?_, sr_turn hat3.sr _ k4 k5⟩ ?_
      ·rw [hCb]
       exact ⟨k1, hC.turn rfl k2 k6 k4 k5 hbL, k3.then (ext_turn _ k4 k5), k4, k5, World.putObj_heap_same hL3⟩
      ·
       intro e σ5 S5 W5 O5 a5 he5 hat5
       have hctx5 := hat5.ctx
       rw [hCb] at hctx5
       obtain ⟨m1, m2, m3, m4, m5, m6⟩ := hctx5
       have hL5 := (Array.getElem?_eq_some_iff.1 m6).1
       obtain ⟨S6, hS6⟩ : ∃ S6, S6 = cutS S5 O5 (lo' + zl) := ⟨_, rfl⟩
       obtain ⟨O6, hO6⟩ : ∃ O6, O6 = restO O5 (lo' + zl) := ⟨_, rfl⟩
       have c4 : ¬ S6 L := by
        rw [hS6]
        rintro (h | ⟨id, g2, ho⟩)
        ·exact m4 h
        ·exact m5 ⟨id, g2, (fromO_some ho).2⟩
       have c5 : ¬ Own O6 L := by
        rw [hO6]
        exact fun ⟨id, g2, ho⟩ => m5 ⟨id, g2, (restO_some ho).2⟩
       have hc : C S6 W5 O6 (col w.heap.size :: a.defers) none := by
        rw [hS6, hO6]
        exact hC.cut m2 (by omega) (fun _ _ h => h)
       have hx5 : Ext S2 S6 W W5 O2 O6 := by
        rw [hS6, hO6]
        exact (m3.cut (Nat.le_refl _)).ext hO2lt
       have hm5 : Mat S6 W5 O6 (cutH (lo' + zl) σ5.hp) := by
        rw [hS6, hO6]
        exact cut_mat hat5.sr.mat (lo' + zl)
       have common : ∀ r : Loop, C S6 (W5.putObj L (.loop r)) O6 (col w.heap.size :: a.defers) none ∧ FrM S6 (W5.putObj L (.loop r)) (restO O6 lo') fr0 a ∧
         Mat S6 (W5.putObj L (.loop r)) O6 (cutH (lo' + zl) σ5.hp) ∧ Ext S2 S6 W (W5.putObj L (.loop r)) O2 O6 := fun r =>
        ⟨hC.turn rfl hc m6 c4 c5 hbL, (h3.ext (ext_rest hx5 lo')).ext (ext_rest (ext_turn _ c4 c5) lo'), mat_turn hm5 _ c4 c5, hx5.trans (ext_turn _ c4 c5)⟩
       have hrdy : ∀ jump : Option Code, ({ ({ rec .ready none with state := .busy } : Loop) with state := if jump.isNone then .ready else .done, pending := jump } : Loop) = rec (if jump.isNone then .ready else .done) jump := by
        intro jump; rw [hrec]
       cases e <;> first | exact he5.elim | skip
       case normal =>
        obtain ⟨c1, c2, c3, cx3⟩ := common (rec .ready none)
        obtain ⟨bv', g1, g2, g3, g4⟩ := he5
        refine ⟨_, _, run_endRound (P := P) none m6, ?_⟩
        rw [hrdy none]
        simp only [Option.isNone_none, if_true]
        refine ⟨true, S6, O6, bv', rfl, g3, ?_, cx3, by rw [← g1]; exact c3⟩
        rw [hCJ]
        exact ⟨true, bv', _, rfl, c1, c2, c4, c5, .inl ⟨rfl, ⟨k + 1, hklt, by simpa using hrest2, g4⟩, World.putObj_heap_same hL5⟩⟩
       case exit id =>
        obtain ⟨c1, c2, c3, cx3⟩ := common (rec .done (some (.exit id)))
        obtain ⟨bv', g1, g2, g3, g4⟩ := he5
        refine ⟨_, _, run_endRound (P := P) (some (.exit id)) m6, ?_⟩
        rw [hrdy (some (.exit id))]
        simp only [Option.isNone_some, Bool.false_eq_true, if_false]
        refine ⟨false, S6, O6, bv', rfl, g3, ?_, cx3, by rw [← g1]; exact c3⟩
        rw [hCJ]
        exact ⟨false, bv', _, rfl, c1, c2, c4, c5, .inr ⟨rfl, by simp, some id, g4, World.putObj_heap_same hL5⟩⟩
       case ret =>
        obtain ⟨c1, c2, c3, cx3⟩ := common (rec .done (some .ret))
        obtain ⟨bv', g1, g2, g3, g4⟩ := he5
        refine ⟨_, _, run_endRound (P := P) (some .ret) m6, ?_⟩
        rw [hrdy (some .ret)]
        simp only [Option.isNone_some, Bool.false_eq_true, if_false]
        refine ⟨false, S6, O6, bv', rfl, g3, ?_, cx3, by rw [← g1]; exact c3⟩
        rw [hCJ]
        exact ⟨false, bv', _, rfl, c1, c2, c4, c5, .inr ⟨rfl, by simp, none, g4, World.putObj_heap_same hL5⟩⟩
    ·cases hbf
  have ev1 := hlat.evol hat1.sr.mat.lt (mat_own_lt hat1.sr.mat)
  have hLn : ¬ S1 L ∧ ¬ Own O1 L := ⟨fun h => by have := hat1.sr.mat.lt L h; omega, fun h => by have := mat_own_lt hat1.sr.mat L h; omega⟩
  have hCJ0 : CJ S1 W1 O1 (some (capL, some (gyA true bv0 :: ys.map enc))) := by
   rw [hCJ]
   refine ⟨true, bv0, _, rfl, ?_, ?_, hLn.1, hLn.2, .inl ⟨rfl, ⟨0, Nat.zero_le _, by simp, hI0⟩, hL1⟩⟩
   ·rw [← hW1]
    exact hC.enter rfl hat1.ctx hat1.sr.mat.lt (mat_own_lt hat1.sr.mat)
   ·rw [hO11]
    exact hat1.sr.fr.ext ev1.ext
  rw [← hL] at hcall
  obtain ⟨hpre, hpost⟩ := hcall
  rw [← hcapL] at hpre hpost
  obtain ⟨hen, hyc⟩ := hG.yc gf al _ _ hpre
  refine ⟨L, [{ target := .collected w.heap.size, args := #[] }], W1, { target := .fn (.func gf) cap, args := bnd ++ #[.func (.yield L) #[] #[]] }, W1, gf,
   bnd ++ #[.func (.yield L) #[] #[]] ++ cap, W1, ?_, ?_, ?_, ?_, fun h => by simp [hF.2.1] at h, ?_⟩
  ·rw [← hW1, hrec, hL]; exact run_enterLoop_outer _ _ _ _ _
  ·simp only [resolve, hcf]
   simp [go_sem]
  ·intro f' hf'; exact hF.1 f'
  ·simp only [invoke]; exact hen _ _
  ·have hm1 : Mat S1 W1 O1 (.gh capL (some (gyA true bv0 :: ys.map enc)) :: bv0.map vB) := mat_hd (mat_evol hat1.sr.mat hlat) (fun _ _ h => h) _
   refine (hyc F (n - 1) lo' CJ S1 W1 O1 _ hF (hC.rnd rfl) hyok (by simp; omega) hCJ0 hm1 (by rw [hlenG]; simp; omega) ?_).mono ?_
   ·exact hcr L _ _ _ ev1.ext
   ·
    rintro e W2 ⟨v, S2, O2, r, hp', rfl, hR, hc, _, hmat, _⟩
    obtain ⟨b, bv', rest, tl, hhp, hbr, halb⟩ := hpost r hp' hR
    rw [hCJ] at hc
    obtain ⟨b1, bv1, rest1, h1, h2, h3, h4, h5, h6⟩ := hc
    rw [hhp] at h1
    simp only [ghO, List.getElem?_cons_zero, Option.some.injEq, Prod.mk.injEq, List.cons.injEq, V.b.injEq, true_and] at h1
    obtain ⟨⟨rfl, rfl⟩, rfl⟩ := h1
    obtain ⟨hbl, hcb⟩ := hallo bv' halb
    have hcut : cutH lo' hp' = .gh capL (some (gyA b bv' :: rest)) :: bv'.map vB := by
     have e1 : hp'.take lo' = .gh capL (some (gyA b bv' :: rest)) :: bv'.map vB := by
      rw [hhp, ← hbl, List.take_succ_cons]
      congr 1
      rw [List.take_append_of_le_length (by simp), List.take_of_length_le (by simp)]
     unfold cutH
     rw [e1, List.map_cons, hcb hp']
     rfl
    have hmat2 : Mat (cutS S2 O2 lo') W2 (restO O2 lo') (cutH lo' hp') := cut_mat hmat lo'
    rw [hcut] at hmat2
    have hmat3 := mat_hd hmat2 (fun _ _ h => h) .hole
    have d4 : ¬ cutS S2 O2 lo' L := by
     rintro (h | ⟨id, g2, ho⟩)
     ·exact h4 h
     ·exact h5 ⟨id, g2, (fromO_some ho).2⟩
    have d5 : ¬ Own (restO O2 lo') L := fun ⟨id, g2, ho⟩ => h5 ⟨id, g2, (restO_some ho).2⟩
    have hc2 : C (cutS S2 O2 lo') W2 (restO O2 lo') (col w.heap.size :: a.defers) none := hC.cut h2 hlo (fun _ _ h => h)
    have hfr2 : FrM (cutS S2 O2 lo') W2 (restO O2 lo') fr0 a :=
     h3.ext ⟨fun n hn => ⟨.inl hn, rfl⟩, fun id g ob ho => ⟨g, ob, ho, Nat.le_refl _, fun _ => ⟨rfl, fun b cur e _ hh => ⟨cur, hh, rfl⟩⟩⟩⟩
    rcases h6 with ⟨rfl, ⟨k, hk, hrest, hI⟩, h8⟩ | ⟨rfl, _, id, hx, h8⟩
    ·have hkl : k = ys.length := by
      have e := hbr rfl
      rw [hrest] at e
      have := congrArg List.length e
      simp at this
      omega
     refine ⟨none, _, by have := run_endLoop (P := P) h8 (by rw [hrec]; simp); rw [hrec] at this; exact this, ?_⟩
     have s := sr_turn (σ := ⟨fr0, .hole :: bv'.map vB⟩) ⟨hat.sr.size, hat.sr.kept, hfr2, hmat3⟩ (.loop { rec .ready none with state := .exhausted }) d4 d5
     rw [hrec] at s
     exact hQ _ ⟨fr0, .hole :: bv'.map vB⟩ _ _ _ _ (hdone bv' (hkl ▸ hI)) ⟨hC.turn rfl hc2 h8 d4 d5 hbL, ⟨s.size, s.kept, s.fr, s.mat⟩⟩
    ·refine ⟨some (cdOf id), _, by have := run_endLoop (P := P) h8 (by rw [hrec]; simp); rw [hrec] at this; exact this, ?_⟩
     have s := sr_turn (σ := ⟨fr0, .hole :: bv'.map vB⟩) ⟨hat.sr.size, hat.sr.kept, hfr2, hmat3⟩ (.loop { rec .done (some (cdOf id)) with state := .exhausted }) d4 d5
     rw [hrec] at s
     cases id with
     | none => exact wpIn_ret (hQ _ ⟨fr0, .hole :: bv'.map vB⟩ _ _ _ _ hx ⟨hC.turn rfl hc2 h8 d4 d5 hbL, ⟨s.size, s.kept, s.fr, s.mat⟩⟩)
     | some id => exact wpIn_exit (hQ _ ⟨fr0, .hole :: bv'.map vB⟩ _ _ _ _ hx ⟨hC.turn rfl hc2 h8 d4 d5 hbL, ⟨s.size, s.kept, s.fr, s.mat⟩⟩)
 ·exact hw.elim
theorem set_self' {α : Type} {l : List α} {i : Nat} {x : α} (h : l[i]? = some x) : l.set i x = l := by
 apply List.ext_getElem?
 intro j
 rw [List.getElem?_set]
 split
 ·rename_i e; subst e
  split
  ·exact h.symm
  ·rename_i hl; rw [List.getElem?_eq_none (by omega)]
 ·rfl
theorem virt_owng {S : Nat → Prop} {w w1 : World} {O : OInfo} {hp : List Blk} (hm : Mat S w O hp) {id : Nat} (hO : O id = none) {gs : Nat} (hid : hp[id]? = some (.cells gs [])) (h1 : w1 = w) :
  Evol S S w w1 O (updO O id (gs, none)) ∧ Mat S w1 (updO O id (gs, none)) hp := by
 subst h1
 have hx := ext_new hm hO w1 (fun _ _ => rfl) (gs, none)
 have hcase : ∀ j g ob, updO O id (gs, none) j = some (g, ob) → (j = id ∧ g = gs ∧ ob = none) ∨ (j ≠ id ∧ O j = some (g, ob)) := by
  intro j g ob h
  unfold updO at h
  split at h
  ·rename_i hj; left; simp at h; exact ⟨hj, h.1.symm, h.2.symm⟩
  ·rename_i hj; exact .inr ⟨hj, h⟩
 have hown : ∀ j g b, updO O id (gs, none) j = some (g, some b) → O j = some (g, some b) := by
  intro j g b h
  rcases hcase j g _ h with ⟨_, _, h'⟩ | ⟨_, h'⟩
  ·cases h'
  ·exact h'
 refine ⟨⟨hx, rfl, rfl, rfl, Nat.le_refl _, fun _ _ => rfl, fun _ _ _ => rfl, fun k ⟨j, g, h⟩ => .inl ⟨j, g, hown j g k h⟩, fun _ h => .inl h⟩, ⟨hm.lt, fun j g b h => hm.own j g b (hown _ _ _ h), fun j j' g g' b h h' => hm.inj j j' g g' b (hown _ _ _ h) (hown _ _ _ h'), ?_⟩⟩
 intro j g ob h
 rcases hcase j g _ h with ⟨rfl, rfl, rfl⟩ | ⟨_, h'⟩
 ·rw [hid]; exact ⟨rfl, rfl⟩
 ·exact (hm.blk j g ob h').ext hx fun _ _ => rfl
theorem w_op (hF : OpenF F) {M : FrI} {o : Oper} {ro : RO} {q : W} (hq : resW P o = some q) (hxq : ro.x = .w q) (hdst : ro.dst = o.dst) (hts : ro.ts = o.op.operands.toList.filterMap tmpOf) (hnid : ro.nid = none) (hdlt : ∀ d, o.dst = some d → d < M.n ∧ M.md ≤ d)
  {S : Nat → Prop} {w : World} {O : OInfo} {σ : St} {a : Act} (hsr : SR M S w O σ a) (hok : (step Γ (EqFlat P) true 0 ro σ).1) {K : Act → World → Prop} {Q' : Exit → Act → World → Prop}
  (hK : ∀ S' w' O' a', Evol S S' w w' O O' → SR M S' w' O' (step Γ (EqFlat P) true 0 ro σ).2 a' → a'.defers = a.defers → K a' w') : o.wpIn F n P a w K Q' := by
 have hdlt' : ∀ d, o.dst = some d → d < a.tmps.size := by rw [hsr.size]; exact fun d hd => (hdlt d hd).1
 have hkept : ∀ (c : Value) t, t < M.md → (a.put o.dst c).tmps.getD t undef = M.T t := fun c t ht => (put_ne a o.dst c t fun d hd => by have := (hdlt d hd).2; omega).trans (hsr.kept t ht)
 have hods : needW true ro σ.fr → OdsOk P S w O (opv true σ.fr) a.eval o := by
  intro hn
  simp only [needW] at hn; rw [hts] at hn; exact odsOk_guard hsr.fr o hn
 simp only [step, hxq, stepW] at hok hK
 cases hnv : nv σ.hp q (opv true σ.fr) with
 | none =>
  simp only [hnv] at hok hK
  refine s_sound hF hq hsr.mat (hods hok.1) hok.2 ?_
  intro c w' O' hev hmat hrep hno
  refine hK S w' O' _ hev ⟨by rw [put_size]; exact hsr.size, hkept _, ?_, hmat⟩ (put_defers _ _ _)
  rw [hdst]
  exact hsr.fr.put hev.ext hdlt' hrep
 | some t =>
  obtain ⟨ok, blk, mk⟩ := t
  simp only [hnv, hnid] at hok hK
  refine n_sound (id := σ.hp.length) hF hq hsr.mat (mat_app hsr.mat [blk]) (hods hok.1) hnv hok.2 (mat_none hsr.mat) (by simp) ?_
  intro c w' O' hev hmat hrep _
  refine hK S w' O' _ hev ⟨by rw [put_size]; exact hsr.size, hkept _, ?_, hmat⟩ (put_defers _ _ _)
  rw [hdst]
  exact hsr.fr.put hev.ext hdlt' hrep
theorem gdOf_want {ops : Array Oper} {o : Oper} {gd : Option (Nat × Bool)} (hgd : gdOf ops o.guard = some gd) {S : Nat → Prop} {w : World} {O : OInfo} {fr : Nat → V} {a : Act} (hfr : FrM S w O fr a) {c : Bool} (hc : condB fr gd = some c) :
  Region.wanted o (yielded ops a.tmps) = c := by
 cases hgo : o.guard with
 | none =>
  rw [hgo] at hgd
  simp only [gdOf, Option.some.injEq] at hgd
  subst hgd
  simp only [condB, Option.some.injEq] at hc
  simp [Region.wanted, hgo, ← hc]
 | some jw =>
  obtain ⟨j, want⟩ := jw
  rw [hgo] at hgd
  simp only [gdOf, Option.map_eq_some_iff] at hgd
  obtain ⟨s, hs, rfl⟩ := hgd
  exact yield_cond hfr hgo hs hc
theorem h_op (hG : GOk P Γ) (hF : OpenF F) (hC : CtxOk P F n M C lo top base) {o : Oper} {y : RO} {f : Od} {xs : List Od} (hroc : resOc P o = some (f, xs)) (hxy : y.x = .o f xs) (hdst : y.dst = o.dst) (hts : y.ts = o.op.operands.toList.filterMap tmpOf)
  (hdl : ∀ d, o.dst = some d → d < M.n ∧ M.md ≤ d) {K : St → Prop} {Q' : Exit → Act → World → Prop} {σ1 : St} {S1 : Nat → Prop} {w1 : World} {O1 : OInfo} {a1 : Act}
  (hw1 : match opv true σ1.fr f with
    | .fn gf caps => needW true y σ1.fr ∧ (Γ.h gf (xs.map (opv true σ1.fr) ++ caps) σ1.hp).1 ∧ ∀ r hp', (Γ.h gf (xs.map (opv true σ1.fr) ++ caps) σ1.hp).2 r hp' → K ⟨upd σ1.fr y.dst r, hp'⟩
    | _ => False) (hat1 : At C M S1 w1 O1 σ1 a1) {KK : Act → World → Prop} (hK0 : ∀ σ2 S2 w2 O2 a2, K σ2 → At C M S2 w2 O2 σ2 a2 → KK a2 w2) : o.wpIn F n P a1 w1 KK Q' := by
 have hsr1 := hat1.sr
 have hkept : ∀ (c : Value) t, t < M.md → (a1.put o.dst c).tmps.getD t undef = M.T t := fun c t ht => (put_ne a1 o.dst c t fun d' hd' => by have := (hdl d' hd').2; omega).trans (hsr1.kept t ht)
 split at hw1
 ·rename_i gf caps hfv
  obtain ⟨hneed, hpre, hK⟩ := hw1
  obtain ⟨hen, hgh, hheap⟩ := hG.heap gf _ _ hpre
  have hods : OdsOk P S1 w1 O1 (opv true σ1.fr) a1.eval o := by
   simp only [needW] at hneed; rw [hts] at hneed; exact odsOk_guard hsr1.fr o hneed
  unfold resOc at hroc
  unfold OdsOk at hods
  cases hop : o.op <;> rw [hop] at hroc hods <;> simp only [Op.operands] at hods <;> first | (simp at hroc; done) | (try dsimp only at hroc)
  case call cl =>
   split at hroc
   ·rename_i f0 hcal
    simp only [Option.bind_eq_bind, Option.bind_eq_some_iff, Option.pure_def, Option.some.injEq, Prod.mk.injEq] at hroc
    obtain ⟨f', hf, ods, hodse, rfl, rfl⟩ := hroc
    have q1 := hods f0 (by simp [Call.operands, hcal]) _ _ hf
    have qs := rOds_rep _ _ _ hodse (fun x hx => hods x (by simp only [Call.operands, Array.mem_append]; exact .inr (by simpa using hx)))
    rw [hfv] at q1
    simp only [Rep] at q1
    obtain ⟨ccs, hc, hn, hrl⟩ := q1
    have hall := RepL.append _ _ _ _ qs.1 (by simp [qs.2]) hrl
    have hcalls := hheap S1 w1 O1 (cl.args.map a1.eval ++ ccs) hsr1.mat (by simp [qs.2, hn]) (by simpa using hall)
    refine wpIn_enter (w' := w1) (f := gf) (args := cl.args.map a1.eval ++ ccs) hF (by simp [hop]) ?_ (hcalls.mono ?_)
    ·have hd : (resolve a1.eval cl o.type).run P w1 = .ok { target := .fn (.func gf) ccs, args := cl.args.map a1.eval } w1 := by
      simp [resolve, hcal, hc, Deferred.ofValue]
     simp only [execOp, hop, Sem.run_bind, hd, Result.andThen_ok, invoke]
     exact hen _ _
    ·rintro e w2 ⟨v, S2, O2, r, hp', rfl, hR, hev, hmat, hrep⟩
     refine ⟨v, rfl, hK0 _ S2 w2 O2 _ (hK r hp' hR) ⟨?_, ⟨by rw [put_size]; exact hsr1.size, hkept _, ?_, hmat⟩⟩⟩
     ·rw [put_defers]
      exact hC.evol hat1.ctx hsr1.mat.lt hev (hgh r hp' hR)
     ·rw [hdst]
      exact FrM.put hsr1.fr hev.ext (fun d hd => by rw [hsr1.size]; exact (hdl d hd).1) hrep
   ·cases hroc
 ·exact hw1.elim
theorem y_op (hG : GOk P Γ) (hF : OpenF F) (hal : ∀ bv, M.al bv → Γ.al bv) (hro : F.round = none) (hC : CtxOk P F n M C lo 3 base) {o : Oper} {y : RO} {f : Od} {xs : List Od} (hroc : resOc P o = some (f, xs)) (hxy : y.x = .o f xs) (hdst : y.dst = o.dst) (hts : y.ts = o.op.operands.toList.filterMap tmpOf)
  (hdl : ∀ d, o.dst = some d → d < M.n ∧ M.md ≤ d) {K : St → Prop} {Q' : Exit → Act → World → Prop} {σ1 : St} {S1 : Nat → Prop} {w1 : World} {O1 : OInfo} {a1 : Act}
  (hw1 : match opv true σ1.fr f with
    | .fn gf caps => needW true y σ1.fr ∧ lo ≤ σ1.hp.length ∧ (Γ.y gf Γ.al (xs.map (opv true σ1.fr) ++ caps) σ1.hp).1 ∧ ∀ r hp', (Γ.y gf Γ.al (xs.map (opv true σ1.fr) ++ caps) σ1.hp).2 r hp' → K ⟨upd σ1.fr y.dst r, hp'⟩
    | _ => False) (hat1 : At C M S1 w1 O1 σ1 a1) {KK : Act → World → Prop} (hK0 : ∀ σ2 S2 w2 O2 a2, K σ2 → At C M S2 w2 O2 σ2 a2 → KK a2 w2) : o.wpIn F n P a1 w1 KK Q' := by
 have hsr1 := hat1.sr
 have hkept : ∀ (c : Value) t, t < M.md → (a1.put o.dst c).tmps.getD t undef = M.T t := fun c t ht => (put_ne a1 o.dst c t fun d' hd' => by have := (hdl d' hd').2; omega).trans (hsr1.kept t ht)
 split at hw1
 ·rename_i gf caps hfv
  obtain ⟨hneed, hlen, hpre, hK⟩ := hw1
  obtain ⟨hen, hheap⟩ := hG.yc gf _ _ _ hpre
  have hods : OdsOk P S1 w1 O1 (opv true σ1.fr) a1.eval o := by
   simp only [needW] at hneed; rw [hts] at hneed; exact odsOk_guard hsr1.fr o hneed
  unfold resOc at hroc
  unfold OdsOk at hods
  cases hop : o.op <;> rw [hop] at hroc hods <;> simp only [Op.operands] at hods <;> first | (simp at hroc; done) | (try dsimp only at hroc)
  case call cl =>
   split at hroc
   ·rename_i f0 hcal
    simp only [Option.bind_eq_bind, Option.bind_eq_some_iff, Option.pure_def, Option.some.injEq, Prod.mk.injEq] at hroc
    obtain ⟨f', hf, ods, hodse, rfl, rfl⟩ := hroc
    have q1 := hods f0 (by simp [Call.operands, hcal]) _ _ hf
    have qs := rOds_rep _ _ _ hodse (fun x hx => hods x (by simp only [Call.operands, Array.mem_append]; exact .inr (by simpa using hx)))
    rw [hfv] at q1
    simp only [Rep] at q1
    obtain ⟨ccs, hc, hn, hrl⟩ := q1
    have hall := RepL.append _ _ _ _ qs.1 (by simp [qs.2]) hrl
    have hyok : YOk P F Γ.al lo fun S w O h => C S w O a1.defers h := by
     refine ⟨fun h hlt ev hg => hC.evol h hlt ev hg, fun h hk hg => hC.cut h hk fun _ => hg, fun {S w O caps bv x z rest cx l m} h hm hl hx hs => ?_⟩
     obtain ⟨fn, tm, as0, bd, hyr, hround⟩ := hC.yldh rfl (m := m) h hm hl hx hs
     refine ⟨fn, tm, as0, bd, hyr, hround.mono ?_⟩
     rintro e W' ⟨b, S', O', bv', h1, h2, h3⟩
     exact ⟨b, S', O', bv', h1, hal bv' h2, h3⟩
    have hcalls := hheap F (n - 1) lo _ S1 w1 O1 (cl.args.map a1.eval ++ ccs) hF hro hyok hlen hat1.ctx hsr1.mat (by simp [qs.2, hn]) (by simpa using hall)
    refine ⟨fun f _ => hF.1 f, ?_⟩
    rw [Oper.semAt_eq _ _ _ (by simp [hop])]
    have hex : (execOp a1.eval o).run P w1 = .ok (.enter gf (cl.args.map a1.eval ++ ccs)) w1 := by
     have hd : (resolve a1.eval cl o.type).run P w1 = .ok { target := .fn (.func gf) ccs, args := cl.args.map a1.eval } w1 := by
      simp [resolve, hcal, hc, Deferred.ofValue]
     simp only [execOp, hop, Sem.run_bind, hd, Result.andThen_ok, invoke]
     exact hen _ _
    rw [hex]
    refine ⟨fun hh => by simp [hF.2.1] at hh, hcalls.mono ?_⟩
    rintro e w2 ⟨v, S2, O2, r, hp', rfl, hR, hctx, hext, hmat, hrep⟩
    refine hK0 _ S2 w2 O2 _ (hK r hp' hR) ⟨?_, ⟨by rw [put_size]; exact hsr1.size, hkept _, ?_, hmat⟩⟩
    ·rw [put_defers]
     exact hctx
    ·rw [hdst]
     exact FrM.put hsr1.fr hext (fun d hd => by rw [hsr1.size]; exact (hdl d hd).1) hrep
   ·cases hroc
 ·exact hw1.elim
theorem itm_ops (hG : GOk P Γ) (hF : OpenF F) (hal : ∀ bv, M.al bv → Γ.al bv) (hC : CtxOk P F n M C lo top base) {ops : Array Oper} {Q' : Exit → Act → World → Prop} {K : St → Prop} :
  ∀ (l : List It) (k : Nat) (σ : St) (S : Nat → Prop) (w : World) (O : OInfo) (a : Act), (∀ q x, l[q]? = some x → ∃ o y, ops[k + q]? = some o ∧ resI P pu M.nm ops y o = some x ∧ itOk lo top y = true) →
   runI Γ (EqFlat P) l σ K → At C M S w O σ a → (∀ τ S' w' O' a', K τ → At C M S' w' O' τ a' → Q' .normal a' w') → wpOpsIn F n P ops Q' (List.range' k l.length) a w := by
 intro l
 induction l with
 | nil => intro k σ S w O a _ hrun hat hK; rw [List.length_nil, List.range'_zero, wpOpsIn]; exact hK σ S w O a hrun hat
 | cons x l ih =>
  intro k σ S w O a hops hrun hat hK
  rw [List.length_cons, List.range'_succ, wpOpsIn_cons]
  obtain ⟨o, y, ho, hro, hito⟩ := hops 0 x rfl
  have hops' : ∀ q x, l[q]? = some x → ∃ o y, ops[k + 1 + q]? = some o ∧ resI P pu M.nm ops y o = some x ∧ itOk lo top y = true := fun q x' hx' => by
   have := hops (q + 1) x' (by simpa using hx')
   rwa [Nat.add_comm q 1, ← Nat.add_assoc] at this
  have skip : ∀ (ro : RO), (∀ d, o.dst = some d → d < M.n ∧ M.md ≤ d) → ro.dst = o.dst → Region.wanted o (yielded ops a.tmps) = false → runI Γ (EqFlat P) l ⟨upd σ.fr ro.dst (.gv false .u), σ.hp⟩ K →
    wpOpIn F n P ops Q' k (wpOpsIn F n P ops Q' (List.range' (k + 1) l.length)) a w := by
   intro ro hdl hdst hwant hrun
   have ho' : ops[k]? = some o := by simpa using ho
   simp only [wpOpIn, ho']
   rw [hwant, if_neg (by simp)]
   refine ⟨fun f _ => hF.1 f, ?_⟩
   have hkept : ∀ (c : Value) t, t < M.md → (a.put o.dst c).tmps.getD t undef = M.T t := fun c t ht => (put_ne a o.dst c t fun d' hd' => by have := (hdl d' hd').2; omega).trans (hat.sr.kept t ht)
   refine ih (k + 1) _ S w O _ hops' hrun ⟨by rw [put_defers]; exact hat.ctx, ⟨by rw [put_size]; exact hat.sr.size, hkept _, ?_, hat.sr.mat⟩⟩ hK
   rw [hdst]
   exact FrM.put hat.sr.fr (Ext.refl _ _ _) (fun d hd => by rw [hat.sr.size]; exact (hdl d hd).1) (by simp only [Rep]; exact ⟨fun h => (by cases h), fun _ => trivial⟩)
  have ho' : ops[k]? = some o := by simpa using ho
  cases y with
  | r r0 =>
   simp only [resI, Option.map_eq_some_iff] at hro
   obtain ⟨r, hr, rfl⟩ := hro
   obtain ⟨hok, hrun⟩ := hrun
   have hnid := resO_nid hr
   have hr' : resO P pu M.nm ops o = some { r with nid := none } := by rw [hr]; congr 1; cases r; simp only at hnid; subst hnid; rfl
   refine op_step hG hF ho' hr' (fun h => by cases h) hat.sr hok ?_
   intro S' w' O' a' hev hsr' hdef
   exact ih (k + 1) _ S' w' O' a' hops' hrun ⟨by rw [hdef]; exact hC.evol hat.ctx hat.sr.mat.lt hev fun y hy => step_gh hok hy, hsr'⟩ hK
  | w r0 =>
   simp only [resI] at hro
   split at hro
   ·rename_i hds
    have hdl : ∀ d, o.dst = some d → d < M.n ∧ M.md ≤ d := fun d hd => by rw [hd] at hds; exact dstOk_some hds
    split at hro
    ·rename_i gd hgd
     simp only [Option.map_eq_some_iff] at hro
     obtain ⟨q, hq, rfl⟩ := hro
     rw [runI] at hrun
     cases hc : condB σ.fr gd with
     | none => simp [hc] at hrun
     | some c =>
      have hwant := gdOf_want hgd hat.sr.fr hc
      simp only [hc] at hrun
      cases c with
      | false => exact skip ⟨o.dst, gd, o.op.operands.toList.filterMap tmpOf, none, .w q⟩ hdl rfl hwant hrun
      | true =>
       obtain ⟨hok, hrun⟩ := hrun
       simp only [wpOpIn, ho']
       rw [hwant, if_pos rfl]
       refine w_op hF hq rfl rfl rfl rfl hdl hat.sr hok ?_
       intro S' w' O' a' hev hsr' hdef
       exact ih (k + 1) _ S' w' O' a' hops' hrun ⟨by rw [hdef]; exact hC.evol hat.ctx hat.sr.mat.lt hev fun y hy => step_gh hok hy, hsr'⟩ hK
    ·cases hro
   ·cases hro
  | h r0 =>
   simp only [resI] at hro
   split at hro
   ·rename_i hds
    have hdl : ∀ d, o.dst = some d → d < M.n ∧ M.md ≤ d := fun d hd => by rw [hd] at hds; exact dstOk_some hds
    split at hro
    ·rename_i gd hgd
     simp only [Option.map_eq_some_iff] at hro
     obtain ⟨⟨f, xs⟩, hroc, rfl⟩ := hro
     rw [runI] at hrun
     cases hc : condB σ.fr gd with
     | none => simp [hc] at hrun
     | some c =>
      have hwant := gdOf_want hgd hat.sr.fr hc
      simp only [hc] at hrun
      cases c with
      | false => exact skip ⟨o.dst, gd, o.op.operands.toList.filterMap tmpOf, none, .o f xs⟩ hdl rfl hwant hrun
      | true =>
       simp only [wpOpIn, ho']
       rw [hwant, if_pos rfl]
       exact h_op hG hF hC (K := fun σ2 => runI Γ (EqFlat P) l σ2 K) hroc rfl rfl rfl hdl hrun hat fun σ2 S2 w2 O2 a2 hK2 hat2 => ih (k + 1) σ2 S2 w2 O2 a2 hops' hK2 hat2 hK
    ·cases hro
   ·cases hro
  | y lo' d r0 =>
   simp only [itOk, Bool.and_eq_true, beq_iff_eq, decide_eq_true_eq] at hito
   obtain ⟨rfl, rfl, hld⟩ := hito
   simp only [resI] at hro
   split at hro
   ·rename_i hds
    have hdl : ∀ d, o.dst = some d → d < M.n ∧ M.md ≤ d := fun d hd => by rw [hd] at hds; exact dstOk_some hds
    split at hro
    ·rename_i gd hgd
     simp only [Option.map_eq_some_iff] at hro
     obtain ⟨⟨f, xs⟩, hroc, rfl⟩ := hro
     rw [runI] at hrun
     cases hc : condB σ.fr gd with
     | none => simp [hc] at hrun
     | some c =>
      have hwant := gdOf_want hgd hat.sr.fr hc
      simp only [hc] at hrun
      cases c with
      | false => exact skip ⟨o.dst, gd, o.op.operands.toList.filterMap tmpOf, none, .o f xs⟩ hdl rfl hwant hrun
      | true =>
       simp only [wpOpIn, ho']
       rw [hwant, if_pos rfl]
       exact y_op hG hF hal (hC.rnd3 rfl) hC (K := fun σ2 => runI Γ (EqFlat P) l σ2 K) hroc rfl rfl rfl hdl hrun (hat.drp hC hld) fun σ2 S2 w2 O2 a2 hK2 hat2 => ih (k + 1) σ2 S2 w2 O2 a2 hops' hK2 hat2 hK
    ·cases hro
   ·cases hro
theorem itm_sound (hG : GOk P Γ) (hF : OpenF F) (hal : ∀ bv, M.al bv → Γ.al bv) (hC : CtxOk P F n M C lo top base) {l l' : List It} {id : Nat} {ops : Array Oper} (hl : l.length = ops.size) (hit : l.all (itOk lo top) = true) (hr : ((l.zip ops.toList).mapM fun p => resI P pu M.nm ops p.1 p.2) = some l')
  {Q : Exit → St → Prop} {Q' : Exit → Act → World → Prop} {σ : St} {S : Nat → Prop} {w : World} {O : OInfo} {a : Act} (hw : wpR Γ (EqFlat P) (.itm l') Q σ) (hat : At C M S w O σ a)
  (hQ : ∀ σ' S' w' O' a', Q .normal σ' → At C M S' w' O' σ' a' → Q' .normal a' w') : (Code.region id ops false).wpIn F n P Q' a w := by
 have hm := mapM_some hr
 have hll : l'.length = ops.size := by
  have := congrArg List.length hm
  simp only [List.length_map, List.length_zip, Array.length_toList] at this
  omega
 refine wpIn_region ?_
 rw [List.range_eq_range', ← hll]
 refine itm_ops hG hF hal hC (pu := pu) (K := Q .normal) l' 0 σ S w O a ?_ hw hat hQ
 intro q x hx
 have h1 : ((l.zip ops.toList).map fun p => resI P pu M.nm ops p.1 p.2)[q]? = some (some x) := by
  rw [hm, List.getElem?_map, hx]; rfl
 rw [List.getElem?_map, Option.map_eq_some_iff] at h1
 obtain ⟨⟨y, o⟩, h2, h3⟩ := h1
 rw [List.getElem?_zip_eq_some] at h2
 exact ⟨o, y, by rw [Nat.zero_add]; simpa using h2.2, h3, List.all_eq_true.1 hit y (List.mem_of_getElem? h2.1)⟩
theorem wpR_sound (hG : GOk P Γ) (hm : P.follows .mixedOrders = true) (hal : ∀ bv, M.al bv → Γ.al bv) :
    ∀ (r : RC) (c : Code) (r' : RC) (F : Fence) (n lo : Nat) (top : Nat), OpenF F → comp P pu M.nm lo top r c = some r' → SoundAt Γ P M F n lo top r' c := by
  intro r
  induction r with
  | no =>
    intro c r' F n lo top hF hc C base hC Q Q' σ S w O a hw hat hQ
    simp only [comp, Option.some.injEq] at hc
    subst hc
    exact hw.elim
  | skip =>
    intro c r' F n lo top hF hc C base hC Q Q' σ S w O a hw hat hQ
    cases c <;> (try simp only [comp] at hc) <;> try (cases hc; done)
    · cases hc
      exact wpIn_skip (hQ _ _ _ _ _ _ hw hat)
    · cases hc
      exact wpIn_label (hQ _ _ _ _ _ _ hw hat)
  | itm l =>
    intro c r' F n lo top hF hc C base hC Q Q' σ S w O a hw hat hQ
    cases c <;> (try simp only [comp] at hc) <;> try (cases hc; done)
    case region id ops draw =>
      cases draw <;> (try simp only [comp] at hc) <;> try (cases hc; done)
      split at hc
      · rename_i hl
        rw [Bool.and_eq_true, beq_iff_eq] at hl
        rw [Option.map_eq_some_iff] at hc
        obtain ⟨l', hl', rfl⟩ := hc
        exact itm_sound hG hF hal hC hl.1 hl.2 hl' hw hat fun σ' S' w' O' a' => hQ _ σ' S' w' O' a'
      · cases hc
  | rnl g l1 y l2 =>
    intro c r' F n lo top hF hc C base hC Q Q' σ S w O a hw hat hQ
    cases c <;> (try simp only [comp] at hc) <;> try (cases hc; done)
    case region id ops draw =>
      cases draw <;> (try simp only [comp] at hc) <;> try (cases hc; done)
      split at hc
      · rename_i hgd
        split at hc
        · rename_i o ho
          split at hc
          · rename_i r1 y' r2 h1 hy h2
            split at hc
            · rename_i hl
              cases hc
              have hl' : r1.length = l1.length := by simpa using hl
              rw [← hl'] at ho h1 h2
              exact rnl_sound hG hF hC hgd ho h1 hy h2 hw hat fun σ' S' w' O' a' => hQ _ σ' S' w' O' a'
            · cases hc
          · cases hc
        · cases hc
      · cases hc
  | scp r ih =>
    intro c r' F n lo top hF hc C base hC Q Q' σ S w O a hw hat hQ
    cases c <;> (try simp only [comp] at hc) <;> try (cases hc; done)
    case scope c =>
      rw [Option.map_eq_some_iff] at hc
      obtain ⟨r1, h1, rfl⟩ := hc
      refine wpIn_scope_straight (ih c r1 F n lo top hF h1 C base hC (noGo Q) _ σ S w O a hw hat ?_)
      intro e σ' S' w' O' a' he hat'
      cases e <;> first | exact he.elim | exact hQ _ _ _ _ _ _ he hat'
  | dum r ih =>
    intro c r' F n lo top hF hc C base hC Q Q' σ S w O a hw hat hQ
    simp only [comp] at hc
    rw [Option.map_eq_some_iff] at hc
    obtain ⟨r1, h1, rfl⟩ := hc
    refine ih c r1 F n lo top hF h1 C base hC Q _ _ S w O a hw ⟨?_, ⟨hat.sr.size, hat.sr.kept, hat.sr.fr, ?_⟩⟩ hQ
    · have e : ghO (σ.hp ++ [.hole]) = ghO σ.hp := by
        unfold ghO
        cases σ.hp <;> rfl
      show C S w O a.defers (ghO (σ.hp ++ [.hole]))
      rw [e]; exact hat.ctx
    · have hm := hat.sr.mat
      refine ⟨hm.lt, hm.own, hm.inj, fun id g ob ho => ?_⟩
      show BlkOk S w O g ob ((σ.hp ++ [.hole])[id]?)
      rw [List.getElem?_append_left (mat_lt hm ho)]
      exact hm.blk id g ob ho
  | yrh g l1 y l2 =>
    intro c r' F n lo top hF hc C base hC Q Q' σ S w O a hw hat hQ
    cases c <;> (try simp only [comp] at hc) <;> try (cases hc; done)
    case region id ops draw =>
      cases draw <;> (try simp only [comp] at hc) <;> try (cases hc; done)
      split at hc
      · rename_i htg
        simp only [Bool.and_eq_true, beq_iff_eq] at htg
        obtain ⟨rfl, hgd⟩ := htg
        split at hc
        · rename_i o ho
          split at hc
          · rename_i r1 y' r2 h1 hy h2
            split at hc
            · rename_i hl
              cases hc
              have hl' : r1.length = l1.length := by simpa using hl
              rw [← hl'] at ho h1 h2
              exact yrh_sound hG hF hal hC hgd ho h1 hy h2 hw hat fun σ' S' w' O' a' => hQ _ σ' S' w' O' a'
            · cases hc
          · cases hc
        · cases hc
      · cases hc
  | ycl lo0 g l1 y l2 =>
    intro c r' F n lo top hF hc C base hC Q Q' σ S w O a hw hat hQ
    cases c <;> (try simp only [comp] at hc) <;> try (cases hc; done)
    case region id ops draw =>
      cases draw <;> (try simp only [comp] at hc) <;> try (cases hc; done)
      split at hc
      · rename_i htg
        simp only [Bool.and_eq_true, beq_iff_eq] at htg
        obtain ⟨rfl, hgd⟩ := htg
        split at hc
        · rename_i o ho
          split at hc
          · rename_i r1 y' r2 h1 hy h2
            split at hc
            · rename_i hl
              cases hc
              have hl' : r1.length = l1.length := by simpa using hl
              rw [← hl'] at ho h1 h2
              exact ycl_sound hG hF hal (hC.rnd3 rfl) hC hgd ho h1 hy h2 hw hat fun σ' S' w' O' a' => hQ _ σ' S' w' O' a'
            · cases hc
          · cases hc
        · cases hc
      · cases hc
  | reg g l =>
    intro c r' F n lo top hF hc C base hC Q Q' σ S w O a hw hat hQ
    cases c <;> (try simp only [comp] at hc) <;> try (cases hc; done)
    case region id ops draw =>
      cases draw <;> (try simp only [comp] at hc) <;> try (cases hc; done)
      split at hc
      · rename_i hgd
        rw [Option.map_eq_some_iff] at hc
        obtain ⟨rs, hrs, rfl⟩ := hc
        have hmap := mapM_some hrs
        have hRO : RegOps P pu M.nm ops rs := by
          unfold RegOps
          rw [hmap]
          apply List.map_congr_left
          intro x hx
          obtain ⟨i, hi⟩ := List.getElem?_of_mem hx
          have h1 := congrArg (fun l => l[i]?) hmap
          simp only [List.getElem?_map, hi, Option.map_some] at h1
          rw [Option.map_eq_some_iff] at h1
          obtain ⟨o, _, ho⟩ := h1
          have := resO_nid ho
          cases x; simp_all
        refine region_text hG hF hRO (g := g) (base := 0) ?_ hw hat.sr ?_
        · intro hg o ho
          subst hg
          simp only [Bool.false_or, noGuard] at hgd
          have := Array.all_eq_true_iff_forall_mem.1 hgd o ho
          simpa using this
        · intro τ S' w' O' a' hK hgh hev hsr hd
          exact hQ _ _ _ _ _ _ hK ⟨by rw [hd]; exact hC.evol hat.ctx hat.sr.mat.lt hev hgh, hsr⟩
      · cases hc
  | nxt d m it =>
    intro c r' F n lo top hF hc C base hC Q Q' σ S w O a hw hat hQ
    cases c <;> (try simp only [comp] at hc) <;> try (cases hc; done)
    case region id ops draw =>
      cases draw <;> (try simp only [comp] at hc) <;> try (cases hc; done)
      split at hc
      · rename_i o1 o2 hops
        split at hc
        · rename_i hx
          cases hc
          refine nxt_sound hF (M := M) (N := M.nm) hops hx hw hat.sr ?_
          intro σ' w' a' hK hev hgh hsr hd
          exact hQ _ _ _ _ _ _ hK ⟨by rw [hd]; exact hC.evol hat.ctx hat.sr.mat.lt hev hgh, hsr⟩
        · cases hc
      · cases hc
  | yrg g l1 y ks l2 =>
    intro c r' F n lo top hF hc C base hC Q Q' σ S w O a hw hat hQ
    cases c <;> (try simp only [comp] at hc) <;> try (cases hc; done)
    case region id ops draw =>
      cases draw <;> (try simp only [comp] at hc) <;> try (cases hc; done)
      split at hc
      · rename_i htg
        simp only [Bool.and_eq_true, beq_iff_eq] at htg
        obtain ⟨rfl, hgd⟩ := htg
        split at hc
        · rename_i o ho
          split at hc
          · rename_i r1 y' r2 h1 hy h2
            split at hc
            · rename_i hl
              cases hc
              have hl' : r1.length = l1.length := by simpa using hl
              rw [← hl'] at ho h1 h2
              exact yrg_sound hG hF hC hgd ho h1 hy h2 hw hat fun σ' S' w' O' a' => hQ _ σ' S' w' O' a'
            · cases hc
          · cases hc
        · cases hc
      · cases hc
  | hcl g l1 y l2 =>
    intro c r' F n lo top hF hc C base hC Q Q' σ S w O a hw hat hQ
    cases c <;> (try simp only [comp] at hc) <;> try (cases hc; done)
    case region id ops draw =>
      cases draw <;> (try simp only [comp] at hc) <;> try (cases hc; done)
      split at hc
      · rename_i hgd
        split at hc
        · rename_i o ho
          split at hc
          · rename_i r1 y' r2 h1 hy h2
            split at hc
            · rename_i hl
              cases hc
              have hl' : r1.length = l1.length := by simpa using hl
              rw [← hl'] at ho h1 h2
              exact hcl_sound hG hF hC hgd ho h1 hy h2 hw hat fun σ' S' w' O' a' => hQ _ σ' S' w' O' a'
            · cases hc
          · cases hc
        · cases hc
      · cases hc
  | yrx g m1 l1 y m2 l2 =>
    intro c r' F n lo top hF hc C base hC Q Q' σ S w O a hw hat hQ
    cases c <;> (try simp only [comp] at hc) <;> try (cases hc; done)
    case region id ops draw =>
      cases draw <;> (try simp only [comp] at hc) <;> try (cases hc; done)
      split at hc
      · rename_i htg
        simp only [Bool.and_eq_true, beq_iff_eq] at htg
        obtain ⟨rfl, hgd⟩ := htg
        split at hc
        · rename_i o ho
          split at hc
          · rename_i r1 y1 r2 h1 hy h2
            split at hc
            · rename_i hl
              cases hc
              exact yrx_sound hG hF hal hm hC hgd ho h1 hy h2 hl hw hat fun σ' S' w' O' a' => hQ _ σ' S' w' O' a'
            · cases hc
          · cases hc
        · cases hc
      · cases hc
  | yra g m1 l1 y ks m2 l2 =>
    intro c r' F n lo top hF hc C base hC Q Q' σ S w O a hw hat hQ
    cases c <;> (try simp only [comp] at hc) <;> try (cases hc; done)
    case region id ops draw =>
      cases draw <;> (try simp only [comp] at hc) <;> try (cases hc; done)
      split at hc
      · rename_i htg
        simp only [Bool.and_eq_true, beq_iff_eq] at htg
        obtain ⟨rfl, hgd⟩ := htg
        split at hc
        · rename_i o ho
          split at hc
          · rename_i r1 y1 r2 h1 hy h2
            split at hc
            · rename_i hl
              cases hc
              exact yra_sound hG hF hm hC hgd ho h1 hy h2 hl hw hat fun σ' S' w' O' a' => hQ _ σ' S' w' O' a'
            · cases hc
          · cases hc
        · cases hc
      · cases hc
  | hca g m1 l1 y m2 l2 =>
    intro c r' F n lo top hF hc C base hC Q Q' σ S w O a hw hat hQ
    cases c <;> (try simp only [comp] at hc) <;> try (cases hc; done)
    case region id ops draw =>
      cases draw <;> (try simp only [comp] at hc) <;> try (cases hc; done)
      split at hc
      · rename_i hgd
        split at hc
        · rename_i o ho
          split at hc
          · rename_i r1 y1 r2 h1 hy h2
            split at hc
            · rename_i hl
              cases hc
              exact hca_sound hG hF hm hC hgd ho h1 hy h2 hl hw hat fun σ' S' w' O' a' => hQ _ σ' S' w' O' a'
            · cases hc
          · cases hc
        · cases hc
      · cases hc
  | crl g l1 y l2 =>
    intro c r' F n lo top hF hc C base hC Q Q' σ S w O a hw hat hQ
    cases c <;> (try simp only [comp] at hc) <;> try (cases hc; done)
    case region id ops draw =>
      cases draw <;> (try simp only [comp] at hc) <;> try (cases hc; done)
      split at hc
      · rename_i hgd
        split at hc
        · rename_i o ho
          split at hc
          · rename_i r1 y' r2 h1 hy h2
            split at hc
            · rename_i hl
              cases hc
              have hl' : r1.length = l1.length := by simpa using hl
              rw [← hl'] at ho h1 h2
              exact crl_sound hG hF hC hgd ho h1 hy h2 hw hat fun σ' S' w' O' a' => hQ _ σ' S' w' O' a'
            · cases hc
          · cases hc
        · cases hc
      · cases hc
  | swp i j r ih =>
    intro c r' F n lo top hF hc C base hC Q Q' σ S w O a hw hat hQ
    simp only [comp] at hc
    split at hc
    · rename_i htl
      simp only [Bool.and_eq_true, beq_iff_eq] at htl
      rw [Option.map_eq_some_iff] at hc
      obtain ⟨r1, h1, rfl⟩ := hc
      obtain ⟨hi, hj, hw⟩ := hw
      refine ih c r1 F n lo top hF h1 C base hC Q Q' _ S w (fun id => O (sw i j id)) a hw ⟨hC.ren htl.1 htl.2 hat.ctx fun k ⟨id, g, ho⟩ => ⟨_, g, ho⟩, ⟨hat.sr.size, hat.sr.kept, fun t => ?_, sw_mat hat.sr.mat hi hj⟩⟩ hQ
      exact ren_rep (fun id => by rw [sw_sw]) _ _ (hat.sr.fr t)
    · cases hc
  | any g m l =>
    intro c r' F n lo top hF hc C base hC Q Q' σ S w O a hw hat hQ
    cases c <;> (try simp only [comp] at hc) <;> try (cases hc; done)
    case region id ops draw =>
      cases draw <;> (try simp only [comp] at hc) <;> try (cases hc; done)
      split at hc
      · rename_i hgd
        cases hrs : (ops.toList.mapM fun o => resO P pu M.nm ops o) with
        | none => simp [hrs] at hc
        | some rs =>
          simp only [hrs] at hc
          split at hc
          · rename_i hch
            cases hc
            simp only [Bool.and_eq_true, decide_eq_true_eq] at hch
            obtain ⟨⟨h1, h2⟩, h3⟩ := hch
            have hmap := mapM_some hrs
            have hAO : AnyOps P pu M.nm ops (rs.zipWith (fun r (x : AnyOp) => (⟨{ r with nid := x.o.nid }, x.js, x.an⟩ : AnyOp)) l) := by
              unfold AnyOps
              rw [hmap]
              refine List.ext_getElem? fun i => ?_
              simp only [List.getElem?_map, List.getElem?_zipWith]
              cases hi : rs[i]? with
              | none => simp
              | some x =>
                have hlt := getElemLt hi
                have hll : i < l.length := by
                  rw [List.length_zipWith] at h3; omega
                simp only [Option.map_some, List.getElem?_eq_getElem hll, Option.some.injEq]
                have h1 := congrArg (fun l => l[i]?) hmap
                simp only [List.getElem?_map, hi, Option.map_some] at h1
                rw [Option.map_eq_some_iff] at h1
                obtain ⟨o, _, ho⟩ := h1
                have := resO_nid ho
                cases x; simp_all
            refine region_any hG hF hm hAO h1 h2 (g := g) (base := σ.hp.length) ?_ hw ⟨hat.sr.size, hat.sr.kept, hat.sr.fr, mat_app hat.sr.mat _⟩ ?_
            · intro hg o ho
              subst hg
              simp only [Bool.false_or, noGuard] at hgd
              have := Array.all_eq_true_iff_forall_mem.1 hgd o ho
              simpa using this
            · intro τ S' w' O' a' hK hgh hev hsr hd
              exact hQ _ _ _ _ _ _ hK ⟨by rw [hd]; exact hC.evol hat.ctx hat.sr.mat.lt hev fun y hy => hgh y (ghO_app hy), hsr⟩
          · cases hc
      · cases hc
  | seq r1 r2 ih1 ih2 =>
    intro c r' F n lo top hF hc C base hC Q Q' σ S w O a hw hat hQ
    cases c <;> (try simp only [comp] at hc) <;> try (cases hc; done)
    case seq x y =>
      cases h1 : comp P pu M.nm lo top r1 x with
      | none => simp [h1] at hc
      | some a1 =>
        cases h2 : comp P pu M.nm lo top r2 y with
        | none => simp [h1, h2] at hc
        | some a2 =>
          simp only [h1, h2, Option.some.injEq] at hc
          subst hc
          refine wpIn_seq (ih1 x a1 F n lo top hF h1 C base hC _ _ σ S w O a hw hat ?_)
          intro e σ' S' w' O' a' he hat'
          cases e <;> first | exact hQ _ _ _ _ _ _ he hat' | skip
          exact ih2 y a2 F n lo top hF h2 C base hC _ _ σ' S' w' O' a' he hat' hQ
  | mid r1 r2 ih1 ih2 =>
    intro c r' F n lo top hF hc C base hC Q Q' σ S w O a hw hat hQ
    cases c <;> (try simp only [comp] at hc) <;> try (cases hc; done)
    case seq x y =>
      cases h1 : comp P pu M.nm lo top r1 x with
      | none => simp [h1] at hc
      | some a1 =>
        cases h2 : comp P pu M.nm lo top r2 y with
        | none => simp [h1, h2] at hc
        | some a2 =>
          simp only [h1, h2, Option.some.injEq] at hc
          subst hc
          obtain ⟨Mid, hw1, hw2⟩ := hw
          refine wpIn_seq (ih1 x a1 F n lo top hF h1 C base hC _ _ σ S w O a hw1 hat ?_)
          intro e σ' S' w' O' a' he hat'
          cases e <;> first | exact hQ _ _ _ _ _ _ he hat' | skip
          exact ih2 y a2 F n lo top hF h2 C base hC _ _ σ' S' w' O' a' (hw2 _ he) hat' hQ
  | cond k r1 r2 ih1 ih2 =>
    intro c r' F n lo top hF hc C base hC Q Q' σ S w O a hw hat hQ
    cases c <;> (try simp only [comp] at hc) <;> try (cases hc; done)
    case cond k' x y =>
      cases h0 : rOd P 0 k' with
      | none => simp [h0] at hc
      | some k1 =>
        cases h1 : comp P pu M.nm lo top r1 x with
        | none => simp [h0, h1] at hc
        | some a1 =>
          cases h2 : comp P pu M.nm lo top r2 y with
          | none => simp [h0, h1, h2] at hc
          | some a2 =>
            simp only [h0, h1, h2, Option.some.injEq] at hc
            subst hc
            simp only [wpR] at hw
            cases hk : evO σ.fr k1 <;> simp only [hk] at hw <;> try exact hw.elim
            case b t =>
              refine wpIn_cond_split (cond_rep hat.sr.fr h0 hk) (fun ht => ?_) (fun ht => ?_)
              · exact ih1 x a1 F n lo top hF h1 C base hC Q Q' σ S w O a (hw.1 ht) hat hQ
              · exact ih2 y a2 F n lo top hF h2 C base hC Q Q' σ S w O a (hw.2 ht) hat hQ
  | block id r ih =>
    intro c r' F n lo top hF hc C base hC Q Q' σ S w O a hw hat hQ
    cases c <;> (try simp only [comp] at hc) <;> try (cases hc; done)
    case block id' x =>
      rw [Option.map_eq_some_iff] at hc
      obtain ⟨r1, h1, rfl⟩ := hc
      refine wpIn_block (ih x r1 F n lo top hF h1 C base hC _ _ σ S w O a hw hat ?_)
      intro e σ' S' w' O' a' he hat'
      cases e <;> first | exact hQ _ _ _ _ _ _ he hat' | skip
      case exit id'' =>
        simp only [blockQ] at he
        simp only [Exit.inBlock]
        split
        · rename_i hid; rw [if_pos hid] at he; exact hQ _ _ _ _ _ _ he hat'
        · rename_i hid; rw [if_neg hid] at he; exact hQ _ _ _ _ _ _ he hat'
  | loop l d r ih =>
    intro c r' F n lo top hF hc C base hC Q Q' σ S w O a hw hat hQ
    cases c <;> (try simp only [comp] at hc) <;> try (cases hc; done)
    case loop x =>
      by_cases hlo : dOk lo d = true
      · rw [if_pos hlo] at hc
        rw [Option.map_eq_some_iff] at hc
        obtain ⟨r1, h1, rfl⟩ := hc
        have hd : ∀ k, d = some k → lo ≤ k := by
          rintro k rfl
          exact of_decide_eq_true hlo
        obtain ⟨I, ⟨k0, h0⟩, hround⟩ := hw
        obtain ⟨S1, O1, hat1⟩ := hat.kp hC l d hd
        refine wpIn_loopN (fun k a w => ∃ σ S O, I k σ ∧ At C M S w O σ a) ⟨k0, _, S1, O1, h0, hat1⟩ ?_
        rintro k a1 w1 ⟨σ1, S1, O1, hI, hat1⟩
        refine ih x r1 F n lo top hF h1 C base hC _ _ σ1 S1 w1 O1 a1 (hround k σ1 hI) hat1 ?_
        intro e σ' S' w' O' a' he hat'
        cases e <;> first | exact hQ _ _ _ _ _ _ he hat' | skip
        obtain ⟨j, hj, hI'⟩ := he
        obtain ⟨S2, O2, hat2⟩ := hat'.kp hC l d hd
        exact ⟨j, hj, _, S2, O2, hI', hat2⟩
      · rw [if_neg hlo] at hc; cases hc
  | exit id =>
    intro c r' F n lo top hF hc C base hC Q Q' σ S w O a hw hat hQ
    cases c <;> (try simp only [comp] at hc) <;> try (cases hc; done)
    cases hc
    exact wpIn_exit (hQ _ _ _ _ _ _ hw hat)
  | ret =>
    intro c r' F n lo top hF hc C base hC Q Q' σ S w O a hw hat hQ
    cases c <;> (try simp only [comp] at hc) <;> try (cases hc; done)
    exact wpIn_ret (hQ _ _ _ _ _ _ (by cases hc; exact hw) hat)
  | keep l r ih =>
    intro c r' F n lo top hF hc C base hC Q Q' σ S w O a hw hat hQ
    simp only [comp] at hc
    rw [Option.map_eq_some_iff] at hc
    obtain ⟨r1, h1, rfl⟩ := hc
    exact ih c r1 F n lo top hF h1 C base hC Q Q' _ S w O a hw (hat.keep l) hQ
  | drp k r ih =>
    intro c r' F n lo top hF hc C base hC Q Q' σ S w O a hw hat hQ
    simp only [comp] at hc
    split at hc
    · rename_i hlo
      rw [Option.map_eq_some_iff] at hc
      obtain ⟨r1, h1, rfl⟩ := hc
      exact ih c r1 F n lo top hF h1 C base hC Q Q' _ _ w (restO O k) a hw (hat.drp hC hlo) hQ
    · cases hc
  | own t es r ih =>
    intro c r' F n lo top hF hc C base hC Q Q' σ S w O a hw hat hQ
    simp only [comp] at hc
    rw [Option.map_eq_some_iff] at hc
    obtain ⟨r1, h1, rfl⟩ := hc
    simp only [wpR] at hw
    cases ht : σ.fr t <;> simp only [ht] at hw <;> try exact hw.elim
    case z es' =>
      have hO := mat_none hat.sr.mat
      obtain ⟨hev, hmat⟩ := virt_own (mat_app hat.sr.mat [.cells 0 []]) hO (by simp) rfl
      refine ih c r1 F n lo top hF h1 C base hC Q Q' _ S w _ a hw ⟨hC.evol hat.ctx hat.sr.mat.lt hev fun y hy => ghO_app hy, ⟨hat.sr.size, hat.sr.kept, fun t' => ?_, hmat⟩⟩ hQ
      simp only [upd]
      split
      · rename_i e
        subst e
        have := hat.sr.fr t'
        rw [ht] at this
        simp only [Rep] at this ⊢
        obtain ⟨x, hx⟩ := this
        rw [hx]
        exact ⟨rfl, 0, none, (by simp [updO]), Nat.le_refl _, fun _ => .inr ⟨rfl, trivial, x, rfl⟩⟩
      · exact Rep.ext hev.ext _ _ (hat.sr.fr t')
  | owng t es gs r ih =>
    intro c r' F n lo top hF hc C base hC Q Q' σ S w O a hw hat hQ
    simp only [comp] at hc
    rw [Option.map_eq_some_iff] at hc
    obtain ⟨r1, h1, rfl⟩ := hc
    simp only [wpR] at hw
    cases ht : σ.fr t <;> simp only [ht] at hw <;> try exact hw.elim
    case z es' =>
      have hO := mat_none hat.sr.mat
      obtain ⟨hev, hmat⟩ := virt_owng (gs := gs) (mat_app hat.sr.mat [.cells gs []]) hO (by simp) rfl
      refine ih c r1 F n lo top hF h1 C base hC Q Q' _ S w _ a hw ⟨hC.evol hat.ctx hat.sr.mat.lt hev fun y hy => ghO_app hy, ⟨hat.sr.size, hat.sr.kept, fun t' => ?_, hmat⟩⟩ hQ
      simp only [upd]
      split
      · rename_i e
        subst e
        have := hat.sr.fr t'
        rw [ht] at this
        simp only [Rep] at this ⊢
        obtain ⟨x, hx⟩ := this
        rw [hx]
        exact ⟨rfl, gs, none, (by simp [updO]), Nat.le_refl _, fun _ => .inr ⟨rfl, trivial, x, rfl⟩⟩
      · exact Rep.ext hev.ext _ _ (hat.sr.fr t')
  | ownc t off es r ih =>
    intro c r' F n lo top hF hc C base hC Q Q' σ S w O a hw hat hQ
    simp only [comp] at hc
    rw [Option.map_eq_some_iff] at hc
    obtain ⟨r1, h1, rfl⟩ := hc
    simp only [wpR] at hw
    cases ht : σ.fr t <;> simp only [ht] at hw <;> try exact hw.elim
    case ad id g o =>
      cases hid : σ.hp[id]? with
      | none => simp [hid] at hw
      | some bk =>
        cases bk <;> simp only [hid] at hw <;> try exact hw.elim
        case cells g' vs =>
          cases hv : vs[o + off]? with
          | none => simp [hv] at hw
          | some v =>
            cases v <;> simp only [hv] at hw <;> try exact hw.elim
            case z es' =>
              obtain ⟨rfl, hw⟩ := hw
              have hO := mat_none hat.sr.mat
              have hidlt := getElemLt hid
              obtain ⟨hev, hmat⟩ := virt_own (mat_app hat.sr.mat [.cells 0 []]) hO (by simp) rfl
              refine ih c r1 F n lo top hF h1 C base hC Q Q' _ S w _ a hw ⟨hC.evol hat.ctx hat.sr.mat.lt hev fun y hy => ghO_app (ghO_set hy hid fun _ _ h => by cases h), ⟨hat.sr.size, hat.sr.kept, hat.sr.fr.ext hev.ext, ?_⟩⟩ hQ
              refine ⟨hmat.lt, hmat.own, hmat.inj, fun j gj ob hj => ?_⟩
              have hb := hmat.blk j gj ob hj
              by_cases hji : j = id
              · subst hji
                rw [List.getElem?_append_left (by rw [List.length_set]; exact hidlt), List.getElem?_set_self hidlt]
                rw [List.getElem?_append_left hidlt, hid] at hb
                simp only [BlkOk] at hb ⊢
                refine ⟨hb.1, ?_⟩
                cases ob with
                | none => have := hb.2; simp only at this; rw [this] at hv; simp at hv
                | some b =>
                  obtain ⟨cur, e, hh, hrl, hone⟩ := hb.2
                  refine ⟨cur, e, hh, ?_, hone⟩
                  obtain ⟨cc, hcc, hrep⟩ := RepL.get _ _ _ _ hrl hv
                  have hrep2 : Rep S w (updO O σ.hp.length (0, none)) (.rf σ.hp.length 0 0 0 es) cc := by
                    simp only [Rep] at hrep ⊢
                    obtain ⟨x, hx⟩ := hrep
                    rw [hx]
                    exact ⟨rfl, 0, none, (by simp [updO]), Nat.le_refl _, fun _ => .inr ⟨rfl, trivial, x, rfl⟩⟩
                  have := RepL.set (o + off) vs cur.toList _ cc hrl hrep2
                  rwa [set_self' hcc] at this
              · have e1 : (σ.hp.set id (Blk.cells g' (vs.set (o + off) (.rf σ.hp.length 0 0 0 es))) ++ [Blk.cells 0 []])[j]? = (σ.hp ++ [Blk.cells 0 []])[j]? := by
                  rw [List.getElem?_append, List.getElem?_append, List.length_set, List.getElem?_set_ne (Ne.symm hji)]
                rw [e1]; exact hb
  | owni t i off es r ih =>
    intro c r' F n lo top hF hc C base hC Q Q' σ S w O a hw hat hQ
    simp only [comp] at hc
    rw [Option.map_eq_some_iff] at hc
    obtain ⟨r1, h1, rfl⟩ := hc
    simp only [wpR] at hw
    cases ht : σ.fr t <;> simp only [ht] at hw <;> try exact hw.elim
    case rf id g o len es' =>
     cases hi : σ.fr i <;> simp only [hi] at hw <;> try exact hw.elim
     case i k =>
      cases hid : σ.hp[id]? with
      | none => simp [hid] at hw
      | some bk =>
        cases bk <;> simp only [hid] at hw <;> try exact hw.elim
        case cells g' vs =>
          cases hv : vs[o + k.toNat * es' + off]? with
          | none => simp [hv] at hw
          | some v =>
            cases v <;> simp only [hv] at hw <;> try exact hw.elim
            case z es2 =>
              obtain ⟨rfl, hw⟩ := hw
              have hO := mat_none hat.sr.mat
              have hidlt := getElemLt hid
              obtain ⟨hev, hmat⟩ := virt_own (mat_app hat.sr.mat [.cells 0 []]) hO (by simp) rfl
              refine ih c r1 F n lo top hF h1 C base hC Q Q' _ S w _ a hw ⟨hC.evol hat.ctx hat.sr.mat.lt hev fun y hy => ghO_app (ghO_set hy hid fun _ _ h => by cases h), ⟨hat.sr.size, hat.sr.kept, hat.sr.fr.ext hev.ext, ?_⟩⟩ hQ
              refine ⟨hmat.lt, hmat.own, hmat.inj, fun j gj ob hj => ?_⟩
              have hb := hmat.blk j gj ob hj
              by_cases hji : j = id
              · subst hji
                rw [List.getElem?_append_left (by rw [List.length_set]; exact hidlt), List.getElem?_set_self hidlt]
                rw [List.getElem?_append_left hidlt, hid] at hb
                simp only [BlkOk] at hb ⊢
                refine ⟨hb.1, ?_⟩
                cases ob with
                | none => have := hb.2; simp only at this; rw [this] at hv; simp at hv
                | some b =>
                  obtain ⟨cur, e, hh, hrl, hone⟩ := hb.2
                  refine ⟨cur, e, hh, ?_, hone⟩
                  obtain ⟨cc, hcc, hrep⟩ := RepL.get _ _ _ _ hrl hv
                  have hrep2 : Rep S w (updO O σ.hp.length (0, none)) (.rf σ.hp.length 0 0 0 es) cc := by
                    simp only [Rep] at hrep ⊢
                    obtain ⟨x, hx⟩ := hrep
                    rw [hx]
                    exact ⟨rfl, 0, none, (by simp [updO]), Nat.le_refl _, fun _ => .inr ⟨rfl, trivial, x, rfl⟩⟩
                  have := RepL.set (o + k.toNat * es' + off) vs cur.toList _ cc hrl hrep2
                  rwa [set_self' hcc] at this
              · have e1 : (σ.hp.set id (Blk.cells g' (vs.set (o + k.toNat * es' + off) (.rf σ.hp.length 0 0 0 es))) ++ [Blk.cells 0 []])[j]? = (σ.hp ++ [Blk.cells 0 []])[j]? := by
                  rw [List.getElem?_append, List.getElem?_append, List.length_set, List.getElem?_set_ne (Ne.symm hji)]
                rw [e1]; exact hb
  | rfn f ps lo' rb ra ihb iha =>
    intro c r' F n lo top hF hc C base hC Q Q' σ S w O a hw hat hQ
    cases c <;> (try simp only [comp] at hc) <;> try (cases hc; done)
    case rangeFunc f0 ps0 x y =>
      split at hc
      · rename_i hch
        simp only [Bool.and_eq_true, decide_eq_true_eq, beq_iff_eq] at hch
        obtain ⟨⟨rfl, hlo⟩, hps⟩ := hch
        cases h0 : rOd P 0 f0 with
        | none => simp [h0] at hc
        | some f1 =>
          cases h1 : comp P pu M.nm lo' 0 rb x with
          | none => simp [h0, h1] at hc
          | some b1 =>
            cases h2 : comp P pu M.nm lo' 0 ra y with
            | none => simp [h0, h1, h2] at hc
            | some a1 =>
              simp only [h0, h1, h2, Option.some.injEq] at hc
              subst hc
              refine rfn_sound hG hF hC h0 hlo (fun p hp => ?_) (fun l => ihb x b1 _ _ lo' 0 (openF_in hF l) h1) (fun l => iha y a1 _ _ lo' 0 (openF_in hF l) h2) hw hat hQ
              have := Array.all_eq_true_iff_forall_mem.1 hps p (by simpa using hp)
              exact dstOk_some this
      · cases hc
  | rfh f ps lo' zl rb ra ihb iha =>
    intro c r' F n lo top hF hc C base hC Q Q' σ S w O a hw hat hQ
    cases c <;> (try simp only [comp] at hc) <;> try (cases hc; done)
    case rangeFunc f0 ps0 x y =>
      split at hc
      · rename_i hch
        simp only [Bool.and_eq_true, decide_eq_true_eq, beq_iff_eq] at hch
        obtain ⟨⟨rfl, hlo⟩, hps⟩ := hch
        cases h0 : rOd P 0 f0 with
        | none => simp [h0] at hc
        | some f1 =>
          cases h1 : comp P pu M.nm (lo' + zl) 0 rb x with
          | none => simp [h0, h1] at hc
          | some b1 =>
            cases h2 : comp P pu M.nm (lo' + zl) 0 ra y with
            | none => simp [h0, h1, h2] at hc
            | some a1 =>
              simp only [h0, h1, h2, Option.some.injEq] at hc
              subst hc
              refine rfh_sound hG hF hC h0 hlo (fun p hp => ?_) (fun l => ihb x b1 _ _ (lo' + zl) 0 (openF_in hF l) h1) (fun l => iha y a1 _ _ (lo' + zl) 0 (openF_in hF l) h2) hw hat hQ
              have := Array.all_eq_true_iff_forall_mem.1 hps p (by simpa using hp)
              exact dstOk_some this
      · cases hc
end
end Go.Fam
