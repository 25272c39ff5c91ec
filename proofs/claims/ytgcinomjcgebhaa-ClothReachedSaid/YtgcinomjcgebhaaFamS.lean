import Derived.Test.YtgcinomjcgebhaaFam13
set_option linter.all false
/- Resolved code is sound. -/
namespace Go.Fam
theorem resO_nid {P : Program} {pu : List Nat} {N : Nat × Nat} {ops : Array Oper} {o : Oper} {r : RO} (h : resO P pu N ops o = some r) : r.nid = none := by
  unfold resO at h
  split at h
  · split at h
    · cases h
    · split at h
      · split at h
        · rw [Option.map_eq_some_iff] at h
          obtain ⟨_, _, rfl⟩ := h
          rfl
        · cases h
      · split at h
        · cases h; rfl
        · split at h
          · rw [Option.map_eq_some_iff] at h
            obtain ⟨_, _, rfl⟩ := h
            rfl
          · cases h
  · cases h

theorem mapM_some {α β : Type} {f : α → Option β} : ∀ {l : List α} {r : List β}, l.mapM f = some r → l.map f = r.map some
  | [], r, h => by simp at h; subst h; rfl
  | x :: l, r, h => by
    rw [List.mapM_cons] at h
    simp only [Option.bind_eq_bind, Option.bind_eq_some_iff, Option.pure_def, Option.some.injEq] at h
    obtain ⟨y, hy, ys, hys, rfl⟩ := h
    simp [hy, mapM_some hys]

/-- the least number with a property -/
theorem least_ex {p : Nat → Prop} (h : ∃ k, p k) : ∃ k, p k ∧ ∀ j, p j → k ≤ j := by
  obtain ⟨k, hk⟩ := h
  induction k using Nat.strongRecOn with
  | _ k ih =>
    by_cases hj : ∃ j, j < k ∧ p j
    · obtain ⟨j, hj, hp⟩ := hj
      exact ih j hj hp
    · exact ⟨k, hk, fun j hpj => Nat.le_of_not_lt fun hlt => hj ⟨j, hlt, hpj⟩⟩

open Classical in
noncomputable def leastN (p : Nat → Prop) : Nat := if h : ∃ k, p k then (least_ex h).choose else 0
theorem leastN_spec {p : Nat → Prop} (h : ∃ k, p k) : p (leastN p) ∧ ∀ j, p j → leastN p ≤ j := by
  unfold leastN
  rw [dif_pos h]
  exact (least_ex h).choose_spec

theorem wpIn_loopN {F : Fence} {n : Nat} {P : Program} {c : Code} {Q : Exit → Act → World → Prop} {a : Act} {w : World} (I : Nat → Act → World → Prop) (h0 : ∃ k, I k a w)
    (round : ∀ k a w, I k a w → c.wpIn F n P (Exit.then (fun a' w' => ∃ j, j < k ∧ I j a' w') Q) a w) : (Code.loop c).wpIn F n P Q a w := by
  refine wpIn_loop (fun a w => ∃ k, I k a w) (fun a w => leastN fun k => I k a w) h0 fun a w h => ?_
  refine wpIn_mono (round _ a w (leastN_spec h).1) fun e a' w' he => ?_
  cases e <;> first | exact he | skip
  obtain ⟨j, hj, hI⟩ := he
  exact ⟨⟨j, hI⟩, Nat.lt_of_le_of_lt ((leastN_spec ⟨j, hI⟩).2 j hI) hj⟩

/-- what is carried along -/
abbrev Ctx := (Nat → Prop) → World → OInfo → List Deferred → Option (List V × Option (List (List V))) → Prop
abbrev col (D : Nat) : Deferred := { target := .collected D, args := #[] }
abbrev Gh := Option (List V × Option (List (List V)))

structure CtxOk (P : Program) (F : Fence) (n : Nat) (M : FrI) (C : Ctx) (lo : Nat) (top : Nat) (base : Nat) : Prop where
  evol : ∀ {S S' : Nat → Prop} {w w' : World} {O O' : OInfo} {ds : List Deferred} {h h' : Gh}, C S w O ds h → (∀ k, S k → k < w.heap.size) → Evol S S' w w' O O' → (∀ y, h = some y → h' = some y) → C S' w' O' ds h'
  cut : ∀ {S : Nat → Prop} {w : World} {O : OInfo} {ds : List Deferred} {h h' : Gh} {k : Nat}, C S w O ds h → lo ≤ k → (1 ≤ lo → ∀ y, h = some y → h' = some y) → C (cutS S O k) w (restO O k) ds h'
  rnd : top = 1 → F.round = none
  big : top = 1 → ∀ {S : Nat → Prop} {w : World} {O : OInfo} {ds : List Deferred} {h : Gh}, C S w O ds h → base ≤ w.heap.size
  turn : top = 1 → ∀ {S : Nat → Prop} {w : World} {O : OInfo} {ds : List Deferred} {h : Gh} {L : Nat} {r r' : Loop}, C S w O ds h → w.heap[L]? = some (.loop r) → ¬ S L → ¬ Own O L → base ≤ L → C S (w.putObj L (.loop r')) O ds h
  enter : top = 1 → ∀ {S : Nat → Prop} {w : World} {O : OInfo} {ds : List Deferred} {h : Gh} {r : Loop}, C S w O ds h → (∀ k, S k → k < w.heap.size) → (∀ k, Own O k → k < w.heap.size) →
    C S ((w.alloc (.deferred (some []))).alloc (.loop r)) O (col w.heap.size :: ds) h
  ren : top = 1 → lo = 0 → ∀ {S : Nat → Prop} {w : World} {O O' : OInfo} {ds : List Deferred} {h h' : Gh}, C S w O ds h → (∀ k, Own O' k → Own O k) → C S w O' ds h'
  yld : top = 2 → ∀ {S : Nat → Prop} {w : World} {O : OInfo} {ds : List Deferred} {caps x : List V} {rest : List (List V)} {cx : Array Value} {l : Nat}, C S w O ds (some (caps, some (x :: rest))) → (∀ k, S k → k < w.heap.size) → (∀ id, O id = none) → caps[0]? = some (.yl l) →
    RepL (fun _ => False) w noO x cx.toList → cx.size = x.length → YieldAt F (n - 1) P l cx w fun e W' => ∃ b S', e = .returned (.bool b) ∧ C S' W' noO ds (some (caps, if b then some rest else none)) ∧
      (∀ k, S' k → k < W'.heap.size) ∧ ∀ t v, caps[t]? = some v → t < M.md ∧ Rep S' W' noO v (M.T t)

structure At (C : Ctx) (M : FrI) (S : Nat → Prop) (w : World) (O : OInfo) (σ : St) (a : Act) : Prop where
  ctx : C S w O a.defers (ghO σ.hp)
  sr : SR M S w O σ a

section
variable {P : Program} {F : Fence} {n : Nat} {Γ : Gam} {pu : List Nat} {M : FrI} {C : Ctx} {lo base : Nat} {top : Nat}

theorem ghO_cut {hp : List Blk} {y : List V × Option (List (List V))} (h : ghO hp = some y) {k : Nat} (hk : 1 ≤ k) : ghO (cutH k hp) = some y := by
  refine ghO_of ?_
  have := ghO_at h
  unfold cutH
  rw [List.getElem?_map, List.getElem?_take, if_pos (by omega), this]
  rfl

theorem lkp_rep (l : List Nat) (fr : Nat → V) (t : Nat) : lkp (l.map fun t => (t, fr t)) t = fr t ∨ lkp (l.map fun t => (t, fr t)) t = .u := by
  induction l with
  | nil => exact .inr rfl
  | cons k l ih =>
    simp only [List.map_cons, lkp]
    split
    · rename_i e; subst e; exact .inl rfl
    · exact ih

theorem lkp_out (l : List Nat) (fr : Nat → V) (t : Nat) (h : t ∉ l) : lkp (l.map fun t => (t, fr t)) t = .u := by
  induction l with
  | nil => rfl
  | cons k l ih =>
    simp only [List.mem_cons, not_or] at h
    simp only [List.map_cons, lkp]
    rw [if_neg h.1]
    exact ih h.2

theorem frM_keep {S : Nat → Prop} {w : World} {O : OInfo} {fr : Nat → V} {a : Act} (h : FrM S w O fr a) (l : List Nat) : FrM S w O (lkp (l.map fun t => (t, fr t))) a := by
  intro t
  rcases lkp_rep l fr t with e | e
  · rw [e]; exact h t
  · rw [e]; simp [Rep]

theorem At.keep {S : Nat → Prop} {w : World} {O : OInfo} {σ : St} {a : Act} (h : At C M S w O σ a) (l : List Nat) : At C M S w O ⟨lkp (l.map fun t => (t, σ.fr t)), σ.hp⟩ a :=
  ⟨h.ctx, ⟨h.sr.size, h.sr.kept, frM_keep h.sr.fr l, h.sr.mat⟩⟩
theorem At.drp (hC : CtxOk P F n M C lo top base) {S : Nat → Prop} {w : World} {O : OInfo} {σ : St} {a : Act} (h : At C M S w O σ a) {k : Nat} (hk : lo ≤ k) :
    At C M (cutS S O k) w (restO O k) ⟨fun t => cutV σ.hp k (σ.fr t), cutH k σ.hp⟩ a :=
  ⟨hC.cut h.ctx hk fun hl y hy => ghO_cut hy (by omega), ⟨h.sr.size, h.sr.kept, fun t => cut_rep h.sr.mat k _ _ (h.sr.fr t), cut_mat h.sr.mat k⟩⟩
theorem At.kp (hC : CtxOk P F n M C lo top base) {S : Nat → Prop} {w : World} {O : OInfo} {σ : St} {a : Act} (h : At C M S w O σ a) (l : List Nat) (d : Option Nat) (hd : ∀ k, d = some k → lo ≤ k) :
    ∃ S' O', At C M S' w O' (Fam.kp l d σ) a := by
  cases d with
  | none => exact ⟨S, O, h.keep l⟩
  | some k => exact ⟨_, _, (h.drp hC (hd k rfl)).keep l⟩

theorem Later.evol {S : Nat → Prop} {w w' : World} {O : OInfo} (h : Later w w') (hS : ∀ k, S k → k < w.heap.size) (hO : ∀ k, Own O k → k < w.heap.size) : Evol S S w w' O O :=
  ⟨⟨fun k hk => ⟨hk, h.old k (hS k hk)⟩, fun id g ob ho => ⟨g, ob, ho, Nat.le_refl _, fun _ => ⟨rfl, fun b cur e hb hh => ⟨cur, (h.old b (hO b ⟨id, g, by rw [ho, hb]⟩)).trans hh, rfl⟩⟩⟩⟩,
    h.os, h.tape, h.output, h.size, h.fz, fun k hk _ => h.old k hk, fun _ h => .inl h, fun _ h => .inl h⟩

/-- regions, where more follows -/
theorem run_ops' (hG : GOk P Γ) (hF : OpenF F) {ops : Array Oper} {g : Bool} {b0 : Nat} (hg : g = false → ∀ o ∈ ops, o.guard = none) {Q : Exit → Act → World → Prop} {K : St → Prop} (rest : List Nat) :
    ∀ (l : List RO) (k : Nat) (σ : St) (S : Nat → Prop) (w : World) (O : OInfo) (a : Act), (∀ q r, l[q]? = some r → ∃ o, ops[k + q]? = some o ∧ resO P pu M.nm ops o = some { r with nid := none }) →
      runR Γ (EqFlat P) g b0 l σ K → SR M S w O σ a →
      (∀ τ S' w' O' a', K τ → (∀ y, ghO σ.hp = some y → ghO τ.hp = some y) → Evol S S' w w' O O' → SR M S' w' O' τ a' → a'.defers = a.defers → wpOpsIn F n P ops Q rest a' w') →
      wpOpsIn F n P ops Q (List.range' k l.length ++ rest) a w := by
  intro l
  induction l with
  | nil => intro k σ S w O a _ hrun hsr hK; exact hK σ S w O a hrun (fun _ h => h) (Evol.refl _ _ _) hsr rfl
  | cons r l ih =>
    intro k σ S w O a hops hrun hsr hK
    obtain ⟨hok, hrun⟩ := hrun
    rw [List.length_cons, List.range'_succ, List.cons_append, wpOpsIn_cons]
    obtain ⟨o, ho, hro⟩ := hops 0 r rfl
    refine op_step hG hF ho hro (fun hgf => hg hgf o (Array.mem_of_getElem? ho)) hsr hok ?_
    intro S' w' O' a' hev hsr' hdef
    refine ih (k + 1) _ S' w' O' a' ?_ hrun hsr' fun τ S'' w'' O'' a'' hKτ hgh hev' hsr'' hdef' => hK τ S'' w'' O'' a'' hKτ (fun y hy => hgh y (step_gh hok hy)) (hev.trans hev') hsr'' (hdef'.trans hdef)
    intro q r' hr'
    have := hops (q + 1) r' (by simpa using hr')
    rwa [Nat.add_comm q 1, ← Nat.add_assoc] at this

theorem cond_rep {S : Nat → Prop} {w : World} {O : OInfo} {fr : Nat → V} {a : Act} (h : FrM S w O fr a) {k' : Operand} {k1 : Od} {t : Bool} (h0 : rOd P 0 k' = some k1) (hk : evO fr k1 = .b t) : a.eval k' = .bool t := by
  have hrep : Rep S w O (evO fr k1) (a.eval k') := by
    cases k' with
    | tmp t' => simp only [rOd, Option.some.injEq] at h0; subst h0; exact h t'
    | const v =>
      simp only [rOd, Option.map_eq_some_iff] at h0
      obtain ⟨v', hv, rfl⟩ := h0
      exact cV_ok hv S w O
    | func f => simp only [rOd, Option.some.injEq] at h0; subst h0; simp [evO] at hk
    | global g => simp [rOd] at h0
  rw [hk] at hrep
  simpa [Rep] using hrep

theorem evO_rep {S : Nat → Prop} {w : World} {O : OInfo} {fr : Nat → V} {a : Act} (h : FrM S w O fr a) {k' : Operand} {k1 : Od} (h0 : rOd P 0 k' = some k1) : Rep S w O (evO fr k1) (a.eval k') := by
  cases k' with
  | tmp t' => simp only [rOd, Option.some.injEq] at h0; subst h0; exact h t'
  | const v =>
    simp only [rOd, Option.map_eq_some_iff] at h0
    obtain ⟨v', hv, rfl⟩ := h0
    exact cV_ok hv S w O
  | func f =>
    simp only [rOd, Option.some.injEq] at h0
    subst h0
    simp only [evO, Act.eval, Rep]
    exact ⟨#[], rfl, rfl, by simp [RepL]⟩
  | global g => simp [rOd] at h0

theorem dstOk_some {d : Nat} (h : dstOk M.nm (some d) = true) : d < M.n ∧ M.md ≤ d := by
  simp only [dstOk, Bool.and_eq_true] at h
  exact ⟨of_decide_eq_true h.1, of_decide_eq_true h.2⟩

/-- a map's iterator goes on -/
theorem nxt_sound (hF : OpenF F) {N : Nat × Nat} {id' : Nat} {o1 o2 : Oper} {d m it : Nat} {ops : Array Oper} (hops : ops.toList = [o1, o2]) (hx : isNxt M.nm o1 o2 d m it = true)
    {Q : Exit → St → Prop} {Q' : Exit → Act → World → Prop} {σ : St} {S : Nat → Prop} {w : World} {O : OInfo} {a : Act} (hw : wpR Γ (EqFlat P) (.nxt d m it) Q σ) (hsr : SR M S w O σ a)
    (hQ : ∀ σ' w' a', Q .normal σ' → Evol S S w w' O O → (∀ y, ghO σ.hp = some y → ghO σ'.hp = some y) → SR M S w' O σ' a' → a'.defers = a.defers → Q' .normal a' w') : (Code.region id' ops false).wpIn F n P Q' a w := by
  have hops' : ops = #[o1, o2] := by rw [← hops]
  subst hops'
  unfold isNxt at hx
  simp only [Bool.and_eq_true] at hx
  obtain ⟨hx1, hx2⟩ := hx
  split at hx1
  · rename_i d' it' hd1 hop1 hg1
    split at hx2
    · rename_i m' d'' hd2 hop2 hg2
      simp only [Bool.and_eq_true, beq_iff_eq] at hx1 hx2
      obtain ⟨⟨rfl, rfl⟩, hdl⟩ := hx1
      obtain ⟨⟨rfl, rfl⟩, hml⟩ := hx2
      have hdl : d'' < M.n ∧ M.md ≤ d'' := dstOk_some hdl
      have hml : m' < M.n ∧ M.md ≤ m' := dstOk_some hml
      simp only [wpR] at hw
      have r1 := hsr.fr it'
      cases hit : σ.fr it' <;> simp only [hit] at hw <;> try exact hw.elim
      case it id g =>
        rw [hit] at r1
        cases hid : σ.hp[id]? with
        | none => simp [hid] at hw
        | some bk =>
          cases bk <;> simp only [hid] at hw <;> try exact hw.elim
          case iter mid nn left cur =>
            cases hmid : σ.hp[mid]? with
            | none => simp [hmid] at hw
            | some bk2 =>
              cases bk2 <;> simp only [hmid] at hw <;> try exact hw.elim
              case map st ks vs =>
                obtain ⟨rfl, hn, hw0, hw1⟩ := hw
                simp only [Rep] at r1
                obtain ⟨_, g', ob, hO, _, h1⟩ := r1
                have hbk := hsr.mat.blk id g' ob hO
                rw [hid] at hbk
                simp only [BlkOk] at hbk
                obtain ⟨rfl, b, mm, seen, rfl, hbi, hmp, hnd, hleft, hcur⟩ := hbk
                obtain ⟨b', hb', hc⟩ := h1 rfl
                cases hb'
                have hmp' : Rep S w O (.mp mid 0) (.map (some mm)) := by simp only [Rep]; exact hmp
                obtain ⟨b2, es, hO2, hc2, hb2, hes, hvs, hvl, hnd2, hst1⟩ := mp_block hsr.mat hmp' hmid rfl
                cases hc2
                have hes' := mapEs_len hes
                have hborn : ∀ x ∈ es.toList, x.born < nn := by
                  intro x hx
                  obtain ⟨i, hi⟩ := List.getElem?_of_mem hx
                  rw [Array.getElem?_toList] at hi
                  have h1 := hes.2 i x hi
                  have h2 := (Array.getElem?_eq_some_iff.1 hi).1
                  omega
                have hmem : ∀ j e, es[j]? = some e → j ∉ seen.toList → e ∈ (leftOf es seen).toList := by
                  intro j e he hj
                  have := hes.2 j e he
                  simp only [leftOf, Array.toList_filter, List.mem_filter]
                  refine ⟨by have := Array.mem_of_getElem? he; simpa using this, ?_⟩
                  rw [this]; simpa using hj
                have hfr2 : ∀ (c : Value) (bb : Bool) (w' : World), Evol S S w w' O O → Rep S w' O (.b bb) (.bool bb) := fun _ _ _ _ => by simp [Rep]
                have fin : ∀ (tv : Array Value) (bb : Bool) (w' : World) (hp' : List Blk), (execOp a.eval o1).run P w = .ok (.value (.tuple tv)) w' → tv[0]? = some (.bool bb) → Evol S S w w' O O → Mat S w' O hp' →
                    (∀ y, ghO σ.hp = some y → ghO hp' = some y) → Q .normal ⟨upd (upd σ.fr (some d'') .u) (some m') (.b bb), hp'⟩ → (Code.region id' #[o1, o2] false).wpIn F n P Q' a w := by
                  intro tv bb w' hp' hrun htv hev hmat hgh hQn
                  refine wpIn_region ?_
                  show wpOpsIn F n P #[o1, o2] Q' [0, 1] a w
                  rw [wpOpsIn_cons]
                  simp only [wpOpIn, List.getElem?_toArray, List.getElem?_cons_zero]
                  have hw1 : Region.wanted o1 (yielded #[o1, o2] a.tmps) = true := by simp [Region.wanted, hg1]
                  rw [if_pos hw1]
                  refine wpIn_value hF (by simp [hop1]) hrun ?_
                  rw [wpOpsIn_cons]
                  simp only [wpOpIn, List.getElem?_toArray, List.getElem?_cons_succ, List.getElem?_cons_zero]
                  have hw2 : Region.wanted o2 (yielded #[o1, o2] (a.put o1.dst (.tuple tv)).tmps) = true := by simp [Region.wanted, hg2]
                  rw [if_pos hw2]
                  have hlt : d'' < a.tmps.size := by rw [hsr.size]; exact hdl.1
                  have hdv : (a.put o1.dst (.tuple tv)).tmps.getD d'' undef = .tuple tv := by simp [hd1, Act.put, hlt]
                  refine wpIn_value (w' := w') (c := .bool bb) hF (by simp [hop2]) ?_ ?_
                  · have : (a.put o1.dst (.tuple tv)).eval (.tmp d'') = .tuple tv := hdv
                    simp [execOp, hop2, this, Instr.extract, htv]
                  · rw [wpOpsIn]
                    refine hQ _ w' _ hQn hev hgh ⟨by rw [put_size, put_size]; exact hsr.size, ?_, ?_, hmat⟩ (by rw [put_defers, put_defers])
                    · intro t ht
                      rw [put_ne _ _ _ _ (by intro d0 h0; rw [hd2] at h0; cases h0; omega), put_ne _ _ _ _ (by intro d0 h0; rw [hd1] at h0; cases h0; omega)]
                      exact hsr.kept t ht
                    · have f1 : FrM S w' O (upd σ.fr (some d'') .u) (a.put o1.dst (.tuple tv)) := by
                        rw [hd1]
                        exact FrM.put hsr.fr hev.ext (fun d0 h0 => by cases h0; exact hlt) (by simp [Rep])
                      rw [hd2]
                      exact FrM.put (dst := some m') f1 (Ext.refl _ _ _) (fun d0 h0 => by cases h0; rw [put_size, hsr.size]; exact hml.1) (by simp [Rep])
                rcases run_next_at (P := P) w o1.type b mm nn nn seen es es.size hbi hb2 hborn (Nat.le_refl _) with ⟨h0, hrun⟩ | ⟨e, he, w1, hw1', hrun⟩
                · have hl0 : left = [] := by
                    rw [List.eq_nil_iff_forall_not_mem]
                    intro j hj
                    obtain ⟨hj1, hj2⟩ := (hleft j).1 hj
                    obtain ⟨e, he⟩ : ∃ e : MapEntry, es[j]? = some e := ⟨_, Array.getElem?_eq_getElem (by omega)⟩
                    have := hmem j e he hj2
                    have hz : leftOf es seen = #[] := Array.eq_empty_of_size_eq_zero h0
                    rw [hz] at this
                    simp at this
                  refine fin #[.bool false] false w σ.hp ?_ rfl (Evol.refl _ _ _) hsr.mat (fun _ h => h) (hw0 hl0)
                  have hit' : a.eval (.tmp it') = .pointer (some ⟨b, 0, none⟩) := hc
                  simp only [execOp, hop1, hit', hrun, Sem.run_bind, Result.andThen_ok, Sem.run_pure]
                · obtain ⟨j, hj⟩ : ∃ j, es[j]? = some e := by
                    simp only [leftOf, Array.toList_filter, List.mem_filter] at he
                    obtain ⟨j, hj⟩ := List.getElem?_of_mem he.1
                    exact ⟨j, by rwa [Array.getElem?_toList] at hj⟩
                  have hjb := hes.2 j e hj
                  have hjlt := (Array.getElem?_eq_some_iff.1 hj).1
                  have hjs : j ∉ seen.toList := by
                    simp only [leftOf, Array.toList_filter, List.mem_filter] at he
                    have := he.2
                    rw [hjb] at this
                    simpa using this
                  have hjl : j ∈ left := (hleft j).2 ⟨by omega, hjs⟩
                  have hidlt := getElemLt hid
                  obtain ⟨ho, hheap⟩ : (∃ ev : Evol S S w w1 O O, True) ∧ w1.heap = w.heap := by
                    rcases hw1' with rfl | rfl
                    · exact ⟨⟨Evol.refl _ _ _, trivial⟩, rfl⟩
                    · exact ⟨⟨evol_drew S w O, trivial⟩, rfl⟩
                  obtain ⟨ev, _⟩ := ho
                  have hm1 : Mat S w1 O σ.hp := by
                    rcases hw1' with rfl | rfl
                    · exact hsr.mat
                    · exact mat_drew hsr.mat
                  obtain ⟨hev, hmat⟩ := put_obj hm1 hO (o' := .mapIter (some mm) nn (seen.push e.born) nn) (by rw [hheap]; exact hbi) rfl rfl hidlt (x := .iter mid nn (left.erase j) (some j)) fun hx hnew => by
                    refine ⟨rfl, b, mm, seen.push e.born, rfl, hnew, ?_, hnd.erase _, fun k => ?_, fun k hk => ?_⟩
                    · exact Rep.ext (ev.ext.trans hx) _ _ hmp'
                    · rw [hnd.mem_erase_iff, hleft k, hjb]
                      simp only [Array.toList_push, List.mem_append, List.mem_singleton]
                      constructor
                      · rintro ⟨h1, h2, h3⟩; exact ⟨h2, fun h => h.elim h3 h1⟩
                      · rintro ⟨h1, h2⟩; exact ⟨fun h => h2 (.inr h), h1, fun h => h2 (.inl h)⟩
                    · cases hk
                      exact ⟨by rw [hjb]; simp, by omega⟩
                  refine fin #[.bool true, e.key, e.val] true _ _ ?_ rfl (ev.trans hev) hmat (fun y hy => ghO_set hy hid (fun _ _ h => by cases h)) (hw1 j hjl)
                  have hit' : a.eval (.tmp it') = .pointer (some ⟨b, 0, none⟩) := hc
                  simp only [execOp, hop1, hit', hrun, Sem.run_bind, Result.andThen_ok, Sem.run_pure]
                  rw [hes', hn]
                  rfl
    · cases hx2
  · cases hx1

theorem sfree_rep {S S' : Nat → Prop} {w w' : World} {O O' : OInfo} {v : V} {c : Value} (h : sfree v = true) (hr : Rep S w O v c) : Rep S' w' O' v c := by
  cases v <;> simp only [sfree] at h <;> first | exact flat_rep _ _ h hr | skip
  case yl l => simpa only [Rep] using hr

theorem resO_at {ops : Array Oper} {off cnt : Nat} {r1 : List RO} (h : ((ops.toList.drop off).take cnt).mapM (fun o => resO P pu M.nm ops o) = some r1) : ∀ q r, r1[q]? = some r → ∃ o, ops[off + q]? = some o ∧ resO P pu M.nm ops o = some { r with nid := none } := by
  intro q r hq
  have hm := mapM_some h
  have h1 := congrArg (fun l => l[q]?) hm
  simp only [List.getElem?_map, hq, Option.map_some, List.getElem?_take, List.getElem?_drop] at h1
  split at h1
  · rw [Option.map_eq_some_iff] at h1
    obtain ⟨o, ho, hr⟩ := h1
    refine ⟨o, by simpa using ho, ?_⟩
    have := resO_nid hr
    rw [hr]
    cases r; simp_all
  · cases h1

/-- a region with a call of yield -/
theorem yrg_sound (hG : GOk P Γ) (hF : OpenF F) (hC : CtxOk P F n M C lo 2 base) {g : Bool} {r1 r2 : List RO} {y : RO} {ks : List Nat} {id : Nat} {ops : Array Oper} {o : Oper} (hgd : (g || noGuard ops) = true)
    (ho : ops[r1.length]? = some o) (h1 : (ops.toList.take r1.length).mapM (fun o => resO P pu M.nm ops o) = some r1) (hy : resY P M.nm ops o = some y) (h2 : (ops.toList.drop (r1.length + 1)).mapM (fun o => resO P pu M.nm ops o) = some r2)
    {Q : Exit → St → Prop} {Q' : Exit → Act → World → Prop} {σ : St} {S : Nat → Prop} {w : World} {O : OInfo} {a : Act} (hw : wpR Γ (EqFlat P) (.yrg g r1 y ks r2) Q σ) (hat : At C M S w O σ a)
    (hQ : ∀ σ' S' w' O' a', Q .normal σ' → At C M S' w' O' σ' a' → Q' .normal a' w') : (Code.region id ops false).wpIn F n P Q' a w := by
  have hgn : g = false → ∀ o ∈ ops, o.guard = none := by
    intro hg o ho
    subst hg
    simp only [Bool.false_or, noGuard] at hgd
    have := Array.all_eq_true_iff_forall_mem.1 hgd o ho
    simpa using this
  have hlt := (Array.getElem?_eq_some_iff.1 ho).1
  have hl2 : r2.length = ops.size - (r1.length + 1) := by
    have := congrArg List.length (mapM_some h2)
    simpa using this.symm
  refine wpIn_region ?_
  have hrange : List.range ops.size = List.range' 0 r1.length ++ (r1.length :: List.range' (r1.length + 1) r2.length) := by
    rw [List.range_eq_range', ← List.range'_succ]
    have := List.range'_append_1 (s := 0) (m := r1.length) (n := r2.length + 1)
    rw [Nat.zero_add] at this
    rw [this]
    congr 1
    omega
  rw [hrange]
  refine run_ops' hG hF (pu := pu) hgn _ r1 0 σ S w O a (resO_at (off := 0) (cnt := r1.length) (by simpa using h1)) hw hat.sr ?_
  intro σ1 S1 w1 O1 a1 hw1 hgh1 hev1 hsr1 hd1
  have hat1 : At C M S1 w1 O1 σ1 a1 := ⟨by rw [hd1]; exact hC.evol hat.ctx hat.sr.mat.lt hev1 hgh1, hsr1⟩
  have rest : ∀ (σ2 : St) S2 w2 O2 a2, At C M S2 w2 O2 σ2 a2 → runR Γ (EqFlat P) g 0 r2 σ2 (Q .normal) → wpOpsIn F n P ops Q' (List.range' (r1.length + 1) r2.length) a2 w2 := by
    intro σ2 S2 w2 O2 a2 hat2 hrun
    have := run_ops' hG hF (pu := pu) (n := n) (Q := Q') hgn [] r2 (r1.length + 1) σ2 S2 w2 O2 a2 (resO_at (off := r1.length + 1) (cnt := ops.size) (by
      rw [List.take_of_length_le (by simp)]; exact h2)) hrun hat2.sr (fun τ S' w' O' a' hK hgh hev hsr hd => by
        rw [wpOpsIn]
        exact hQ τ S' w' O' a' hK ⟨by rw [hd]; exact hC.evol hat2.ctx hat2.sr.mat.lt hev hgh, hsr⟩)
    simpa using this
  have hrO : ∀ (q : Nat) (r : RO), r2[q]? = some r → True := fun _ _ _ => trivial
  rw [wpOpsIn_cons]
  simp only [wpOpIn, ho]
  -- the call of yield
  unfold resY at hy
  split at hy
  · rename_i hds
    simp only [Bool.and_eq_true] at hds
    obtain ⟨d, hd⟩ : ∃ d, o.dst = some d := by
      cases h : o.dst with
      | none => simp [h] at hds
      | some d => exact ⟨d, rfl⟩
    have hdl : d < M.n ∧ M.md ≤ d := by have := hds.1; rw [hd] at this; exact dstOk_some this
    have hdsz : d < a1.tmps.size := by rw [hsr1.size]; exact hdl.1
    split at hy
    · rename_i gd fx hgdo hroc
      obtain ⟨f, xs⟩ := fx
      simp only [Option.some.injEq] at hy
      subst hy
      simp only [hd] at hw1
      have hkept : ∀ (c : Value) t, t < M.md → (a1.put o.dst c).tmps.getD t undef = M.T t := fun c t ht => (put_ne a1 o.dst c t fun d' hd' => by rw [hd] at hd'; cases hd'; omega).trans (hsr1.kept t ht)
      have wantc : ∀ c, condB σ1.fr gd = some c → Region.wanted o (yielded ops a1.tmps) = c := by
        intro c hc
        cases hgo : o.guard with
        | none =>
          rw [hgo] at hgdo
          simp only [gdOf, Option.some.injEq] at hgdo
          subst hgdo
          simp only [condB, Option.some.injEq] at hc
          simp [Region.wanted, hgo, ← hc]
        | some jw =>
          obtain ⟨j, want⟩ := jw
          rw [hgo] at hgdo
          simp only [gdOf, Option.map_eq_some_iff] at hgdo
          obtain ⟨s, hs, rfl⟩ := hgdo
          exact yield_cond hsr1.fr hgo hs hc
      cases hc : condB σ1.fr gd with
      | none => simp [hc] at hw1
      | some c =>
        have hwant := wantc c hc
        rw [hwant]
        cases c with
        | false =>
          rw [if_neg (by simp)]
          simp only [hc] at hw1
          refine ⟨fun f _ => hF.1 f, ?_⟩
          refine rest ⟨upd σ1.fr (some d) (.gv false .u), σ1.hp⟩ S1 w1 O1 _ ⟨by rw [put_defers]; exact hat1.ctx, ⟨by rw [put_size]; exact hsr1.size, hkept _, ?_, hsr1.mat⟩⟩ hw1
          rw [hd]
          exact FrM.put (dst := some d) hsr1.fr (Ext.refl _ _ _) (fun d0 h0 => by cases h0; exact hdsz) (by simp only [Rep]; exact ⟨fun h => (by cases h), fun _ => trivial⟩)
        | true =>
          rw [if_pos rfl]
          simp only [hc] at hw1
          split at hw1
          · rename_i l caps x rs hfv hhp
            obtain ⟨hneed, hc0, hargs, hflat, hks, hK⟩ := hw1
            have hgh : ghO σ1.hp = some (caps, some (x :: rs)) := by rw [hhp]; rfl
            have hno : ∀ id, O1 id = none := by
              intro id
              cases hO : O1 id with
              | none => rfl
              | some p =>
                exfalso
                have hb := hsr1.mat.blk id p.1 p.2 hO
                rw [hhp] at hb
                cases id with
                | zero => exact hb.elim
                | succ id => exact hb.elim
            have hods : OdsOk P S1 w1 O1 (opv g σ1.fr) a1.eval o := by
              cases g with
              | false => exact odsOk_plain hsr1.fr o
              | true => exact odsOk_guard hsr1.fr o hneed
            unfold resOc at hroc
            unfold OdsOk at hods
            cases hop : o.op <;> rw [hop] at hroc hods <;> simp only [Op.operands] at hods <;> first | (simp at hroc; done) | (try dsimp only at hroc)
            case call cl =>
              split at hroc
              · rename_i f0 hcal
                simp only [Option.bind_eq_bind, Option.bind_eq_some_iff, Option.pure_def, Option.some.injEq, Prod.mk.injEq] at hroc
                obtain ⟨f', hf, ods, hodse, rfl, rfl⟩ := hroc
                have q1 := hods f0 (by simp [Call.operands, hcal]) _ _ hf
                have qs := rOds_rep _ _ _ hodse (fun x hx => hods x (by simp only [Call.operands, Array.mem_append]; exact .inr (by simpa using hx)))
                rw [hfv] at q1
                have hcv : a1.eval f0 = .func (.yield l) #[] #[] := by simpa only [Rep] using q1
                have hxrep : RepL (fun _ => False) w1 noO x (cl.args.map a1.eval).toList := by
                  rw [← hargs] at hflat ⊢
                  exact flatL_rep _ _ hflat (by simpa using qs.1)
                have hcx : (cl.args.map a1.eval).size = x.length := by rw [← hargs]; simp [qs.2]
                have hyl := hC.yld rfl (by have := hat1.ctx; rw [hgh] at this; exact this) hsr1.mat.lt hno hc0 hxrep hcx
                obtain ⟨fn, tm, as, bd, hyr, hround⟩ := hyl
                refine ⟨fun f _ => hF.1 f, ?_⟩
                rw [Oper.semAt_eq _ _ _ (by simp [hop])]
                have hex : (execOp a1.eval o).run P w1 = .ok (.round l fn tm as bd) w1 := by
                  have hdv : (resolve a1.eval cl o.type).run P w1 = .ok { target := .fn (.yield l) #[], args := cl.args.map a1.eval } w1 := by
                    simp [resolve, hcal, hcv, Deferred.ofValue]
                  simp only [execOp, hop, Sem.run_bind, hdv, Result.andThen_ok, invoke]
                  exact hyr
                rw [hex, Oper.uponIn_round]
                refine ⟨fun hh => by simp [hF.2.1] at hh, hround.mono ?_⟩
                rintro e w2 ⟨b, S2, rfl, hctx, hlt2, hcaps⟩
                have := hK b
                refine rest _ S2 w2 noO _ ⟨by rw [put_defers]; exact hctx, ⟨by rw [put_size]; exact hsr1.size, hkept _, ?_, ⟨hlt2, fun _ _ _ h => (by cases h), fun _ _ _ _ _ h => (by cases h), fun _ _ _ h => (by cases h)⟩⟩⟩ this
                intro t
                simp only [hd, upd, Act.put]
                split
                · rename_i e; subst e
                  have : (a1.tmps.setIfInBounds t (.bool b)).getD t undef = .bool b := by simp [hdsz]
                  rw [this]
                  unfold yres
                  cases gd <;> simp [Rep]
                · rename_i e
                  have hne : (a1.tmps.setIfInBounds d (.bool b)).getD t undef = a1.tmps.getD t undef := by simp [Array.getElem?_setIfInBounds_ne (Ne.symm e)]
                  rw [hne]
                  rcases lkp_rep ks σ1.fr t with h0 | h0
                  · unfold slots
                    rw [h0]
                    by_cases htk : t ∈ ks
                    · rcases hks t htk with h3 | h3
                      · exact sfree_rep h3 (hsr1.fr t)
                      · obtain ⟨h4, h5⟩ := hcaps t _ h3
                        have := hsr1.kept t h4
                        rw [this]; exact h5
                    · have : lkp (ks.map fun t => (t, σ1.fr t)) t = .u := lkp_out _ _ _ htk
                      rw [← h0, this]; simp [Rep]
                  · unfold slots; rw [h0]; simp [Rep]
              · cases hroc
          · exact hw1.elim
    · cases hy
  · cases hy

/-! blocks change places -/
theorem sw_sw (i j k : Nat) : sw i j (sw i j k) = k := by
  unfold sw
  split
  · rename_i h
    split
    · rename_i h2; omega
    · rw [if_pos rfl]; exact h.symm
  · rename_i h
    split
    · rename_i h2; rw [if_pos rfl]; exact h2.symm
    · rename_i h2; simp [h, h2]
theorem renL_length (f : Nat → Nat) : ∀ vs : List V, (renL f vs).length = vs.length
  | [] => rfl
  | _ :: vs => by simp [renL, renL_length f vs]
mutual
theorem ren_rep {S : Nat → Prop} {w : World} {O O2 : OInfo} {f : Nat → Nat} (h : ∀ id, O2 (f id) = O id) : ∀ (v : V) (c : Value), Rep S w O v c → Rep S w O2 (renV f v) c
  | .u, _, _ => by simp [renV, Rep]
  | .b x, c, hr => by simpa [renV, Rep] using hr
  | .i x, c, hr => by simpa [renV, Rep] using hr
  | .z es, c, hr => by simpa [renV, Rep] using hr
  | .sl es rows, c, hr => by simpa only [renV, Rep] using hr
  | .pa cs, c, hr => by simpa only [renV, Rep] using hr
  | .pn, c, hr => by simpa [renV, Rep] using hr
  | .yl l, c, hr => by simpa [renV, Rep] using hr
  | .ag cs, c, hr => by
    simp only [renV, Rep] at hr ⊢
    obtain ⟨ccs, hc, hn, hr⟩ := hr
    exact ⟨ccs, hc, by rw [renL_length]; exact hn, renL_rep h cs _ hr⟩
  | .tp cs, c, hr => by
    simp only [renV, Rep] at hr ⊢
    obtain ⟨ccs, hc, hn, hr⟩ := hr
    exact ⟨ccs, hc, by rw [renL_length]; exact hn, renL_rep h cs _ hr⟩
  | .fn g cs, c, hr => by
    simp only [renV, Rep] at hr ⊢
    obtain ⟨ccs, hc, hn, hr⟩ := hr
    exact ⟨ccs, hc, by rw [renL_length]; exact hn, renL_rep h cs _ hr⟩
  | .gv q v, c, hr => by
    simp only [renV, Rep] at hr ⊢
    exact ⟨fun hq => ren_rep h v c (hr.1 hq), hr.2⟩
  | .ad id g off, c, hr => by simpa only [renV, Rep, h id] using hr
  | .rf id g off len es, c, hr => by simpa only [renV, Rep, h id] using hr
  | .mp id g, c, hr => by simpa only [renV, Rep, h id] using hr
  | .it id g, c, hr => by simpa only [renV, Rep, h id] using hr
theorem renL_rep {S : Nat → Prop} {w : World} {O O2 : OInfo} {f : Nat → Nat} (h : ∀ id, O2 (f id) = O id) : ∀ (vs : List V) (cs : List Value), RepL S w O vs cs → RepL S w O2 (renL f vs) cs
  | [], _, _ => by simp [renL, RepL]
  | _ :: _, [], hr => by simp [RepL] at hr
  | v :: vs, c :: cs, hr => by
    simp only [renL, RepL] at hr ⊢
    exact ⟨ren_rep h v c hr.1, renL_rep h vs cs hr.2⟩
end
theorem ren_blk {S : Nat → Prop} {w : World} {O O2 : OInfo} {f : Nat → Nat} {g : Nat} {ob : Option Nat} (h : ∀ id, O2 (f id) = O id) {x : Option Blk} (hx : BlkOk S w O g ob x) : BlkOk S w O2 g ob (x.map (renB f)) := by
  unfold BlkOk at hx
  split at hx
  · rename_i g' vs
    simp only [Option.map_some, renB, BlkOk]
    refine ⟨hx.1, ?_⟩
    cases ob with
    | none => have := hx.2; simp only at this ⊢; rw [this]; rfl
    | some b =>
      obtain ⟨cur, e, hb, hr, h1⟩ := hx.2
      exact ⟨cur, e, hb, renL_rep h _ _ hr, h1⟩
  · simp only [Option.map_some, renB, BlkOk]
    obtain ⟨h0, b, es, hob, hb, h1, h3, h4, h5⟩ := hx
    exact ⟨h0, b, es, hob, hb, h1, renL_rep h _ _ h3, by rw [renL_length]; exact h4, h5⟩
  · rename_i mid n left cur
    simp only [Option.map_some, renB, BlkOk]
    obtain ⟨h0, b, m, seen, hob, hb, h1, h2⟩ := hx
    exact ⟨h0, b, m, seen, hob, hb, ren_rep h (.mp mid 0) _ h1, h2⟩
  · exact hx.elim
  · simpa only [Option.map_some, renB, BlkOk] using hx
  · exact hx.elim
  · exact hx.elim
theorem swH_get {i j : Nat} {hp : List Blk} (hi : i < hp.length) (hj : j < hp.length) (k : Nat) : (swH i j hp)[k]? = (hp[sw i j k]?).map (renB (sw i j)) := by
  unfold swH
  rw [List.getElem?_eq_getElem hi, List.getElem?_eq_getElem hj]
  simp only [List.getElem?_map]
  congr 1
  unfold sw
  by_cases h2 : k = j
  · subst h2
    rw [List.getElem?_set_self (by rw [List.length_set]; exact hj)]
    split
    · rename_i h; subst h; rw [List.getElem?_eq_getElem hi]
    · rw [if_pos rfl, List.getElem?_eq_getElem hi]
  · rw [List.getElem?_set_ne (Ne.symm h2)]
    by_cases h1 : k = i
    · subst h1
      rw [List.getElem?_set_self hi, if_pos rfl, List.getElem?_eq_getElem hj]
    · rw [List.getElem?_set_ne (Ne.symm h1), if_neg h1, if_neg h2]
theorem sw_mat {S : Nat → Prop} {w : World} {O : OInfo} {hp : List Blk} (h : Mat S w O hp) {i j : Nat} (hi : i < hp.length) (hj : j < hp.length) : Mat S w (fun id => O (sw i j id)) (swH i j hp) := by
  refine ⟨h.lt, fun id g b ho => h.own _ g b ho, fun id id' g g' b h1 h2 => ?_, fun id g ob ho => ?_⟩
  · have := h.inj _ _ g g' b h1 h2
    rw [← sw_sw i j id, this, sw_sw]
  · rw [swH_get hi hj]
    exact ren_blk (fun id => by rw [sw_sw]) (h.blk _ g ob ho)

/-- a region with a call whose result is not determined -/
theorem crl_sound (hG : GOk P Γ) (hF : OpenF F) (hC : CtxOk P F n M C lo top base) {g : Bool} {r1 r2 : List RO} {y : RO} {id : Nat} {ops : Array Oper} {o : Oper} (hgd : (g || noGuard ops) = true)
    (ho : ops[r1.length]? = some o) (h1 : (ops.toList.take r1.length).mapM (fun o => resO P pu M.nm ops o) = some r1) (hy : resC P M.nm o = some y) (h2 : (ops.toList.drop (r1.length + 1)).mapM (fun o => resO P pu M.nm ops o) = some r2)
    {Q : Exit → St → Prop} {Q' : Exit → Act → World → Prop} {σ : St} {S : Nat → Prop} {w : World} {O : OInfo} {a : Act} (hw : wpR Γ (EqFlat P) (.crl g r1 y r2) Q σ) (hat : At C M S w O σ a)
    (hQ : ∀ σ' S' w' O' a', Q .normal σ' → At C M S' w' O' σ' a' → Q' .normal a' w') : (Code.region id ops false).wpIn F n P Q' a w := by
  have hgn : g = false → ∀ o ∈ ops, o.guard = none := by
    intro hg o ho
    subst hg
    simp only [Bool.false_or, noGuard] at hgd
    have := Array.all_eq_true_iff_forall_mem.1 hgd o ho
    simpa using this
  have hlt := (Array.getElem?_eq_some_iff.1 ho).1
  have hl2 : r2.length = ops.size - (r1.length + 1) := by
    have := congrArg List.length (mapM_some h2)
    simpa using this.symm
  refine wpIn_region ?_
  have hrange : List.range ops.size = List.range' 0 r1.length ++ (r1.length :: List.range' (r1.length + 1) r2.length) := by
    rw [List.range_eq_range', ← List.range'_succ]
    have := List.range'_append_1 (s := 0) (m := r1.length) (n := r2.length + 1)
    rw [Nat.zero_add] at this
    rw [this]
    congr 1
    omega
  rw [hrange]
  refine run_ops' hG hF (pu := pu) hgn _ r1 0 σ S w O a (resO_at (off := 0) (cnt := r1.length) (by simpa using h1)) hw hat.sr ?_
  intro σ1 S1 w1 O1 a1 hw1 hgh1 hev1 hsr1 hd1
  have hat1 : At C M S1 w1 O1 σ1 a1 := ⟨by rw [hd1]; exact hC.evol hat.ctx hat.sr.mat.lt hev1 hgh1, hsr1⟩
  have rest : ∀ (σ2 : St) S2 w2 O2 a2, At C M S2 w2 O2 σ2 a2 → runR Γ (EqFlat P) g 0 r2 σ2 (Q .normal) → wpOpsIn F n P ops Q' (List.range' (r1.length + 1) r2.length) a2 w2 := by
    intro σ2 S2 w2 O2 a2 hat2 hrun
    have := run_ops' hG hF (pu := pu) (n := n) (Q := Q') hgn [] r2 (r1.length + 1) σ2 S2 w2 O2 a2 (resO_at (off := r1.length + 1) (cnt := ops.size) (by
      rw [List.take_of_length_le (by simp)]; exact h2)) hrun hat2.sr (fun τ S' w' O' a' hK hgh hev hsr hd => by
        rw [wpOpsIn]
        exact hQ τ S' w' O' a' hK ⟨by rw [hd]; exact hC.evol hat2.ctx hat2.sr.mat.lt hev hgh, hsr⟩)
    simpa using this
  rw [wpOpsIn_cons]
  simp only [wpOpIn, ho]
  unfold resC at hy
  split at hy
  · rename_i hds
    simp only [Bool.and_eq_true] at hds
    obtain ⟨hdo, hgo⟩ := hds
    have hgo' : o.guard = none := by simpa using hgo
    rw [Option.map_eq_some_iff] at hy
    obtain ⟨⟨f, xs⟩, hroc, rfl⟩ := hy
    simp only at hw1
    have hdl : ∀ d, o.dst = some d → d < M.n ∧ M.md ≤ d := fun d hd => by rw [hd] at hdo; exact dstOk_some hdo
    have hkept : ∀ (c : Value) t, t < M.md → (a1.put o.dst c).tmps.getD t undef = M.T t := fun c t ht => (put_ne a1 o.dst c t fun d' hd' => by have := (hdl d' hd').2; omega).trans (hsr1.kept t ht)
    have hwant : Region.wanted o (yielded ops a1.tmps) = true := by simp [Region.wanted, hgo']
    rw [if_pos hwant]
    split at hw1
    · rename_i gf caps hfv
      obtain ⟨hneed, hg6, href, hpre, hK⟩ := hw1
      obtain ⟨hen, hrel⟩ := hG.rel gf _ hg6 hpre
      have hods : OdsOk P S1 w1 O1 (opv g σ1.fr) a1.eval o := by
        cases g with
        | false => exact odsOk_plain hsr1.fr o
        | true => exact odsOk_guard hsr1.fr o hneed
      unfold resOc at hroc
      unfold OdsOk at hods
      cases hop : o.op <;> rw [hop] at hroc hods <;> simp only [Op.operands] at hods <;> first | (simp at hroc; done) | (try dsimp only at hroc)
      case call cl =>
        split at hroc
        · rename_i f0 hcal
          simp only [Option.bind_eq_bind, Option.bind_eq_some_iff, Option.pure_def, Option.some.injEq, Prod.mk.injEq] at hroc
          obtain ⟨f', hf, ods, hodse, rfl, rfl⟩ := hroc
          have q1 := hods f0 (by simp [Call.operands, hcal]) _ _ hf
          have qs := rOds_rep _ _ _ hodse (fun x hx => hods x (by simp only [Call.operands, Array.mem_append]; exact .inr (by simpa using hx)))
          rw [hfv] at q1
          simp only [Rep] at q1
          obtain ⟨ccs, hc, hn, hrl⟩ := q1
          have hall := RepL.append _ _ _ _ qs.1 (by simp [qs.2]) hrl
          have hcalls := rel_call hrel hsr1.mat (cargs := cl.args.map a1.eval ++ ccs) (by simp [qs.2, hn]) (vwL_noref _ _ href (by simpa using hall))
          refine wpIn_enter (w' := w1) (f := gf) (args := cl.args.map a1.eval ++ ccs) hF (by simp [hop]) ?_ (hcalls.mono ?_)
          · have hd : (resolve a1.eval cl o.type).run P w1 = .ok { target := .fn (.func gf) ccs, args := cl.args.map a1.eval } w1 := by
              simp [resolve, hcal, hc, Deferred.ofValue]
            simp only [execOp, hop, Sem.run_bind, hd, Result.andThen_ok, invoke]
            exact hen _ _
          · rintro e w2 ⟨v, S2, O2, r, bs0, rfl, ⟨bs, rfl, hR⟩, hev, hmat, hrep⟩
            refine ⟨v, rfl, rest _ S2 w2 O2 _ ⟨?_, ⟨by rw [put_size]; exact hsr1.size, hkept _, ?_, hmat⟩⟩ (hK r bs hR)⟩
            · rw [put_defers]
              exact hC.evol hat1.ctx hsr1.mat.lt hev fun y hy => ghO_app hy
            · exact FrM.put hsr1.fr hev.ext (fun d hd => by rw [hsr1.size]; exact (hdl d hd).1) hrep
        · cases hroc
    · exact hw1.elim
  · cases hy

/-- 'Ext' for the blocks below lo -/
structure ExtN (lo : Nat) (S S' : Nat → Prop) (w w' : World) (O O' : OInfo) : Prop where
  keep : ∀ n, S n → S' n ∧ w'.heap[n]? = w.heap[n]?
  own : ∀ id g ob, id < lo → O id = some (g, ob) → ∃ g' ob', O' id = some (g', ob') ∧ g ≤ g' ∧ (g' = g → ob' = ob ∧
    (∀ b cur e, ob = some b → w.heap[b]? = some (.cells cur e (0, 0)) → ∃ cur', w'.heap[b]? = some (.cells cur' e (0, 0)) ∧ cur'.size = cur.size))
theorem ExtN.refl (lo : Nat) (S : Nat → Prop) (w : World) (O : OInfo) : ExtN lo S S w w O O :=
  ⟨fun _ h => ⟨h, rfl⟩, fun _ g ob _ h => ⟨g, ob, h, Nat.le_refl _, fun _ => ⟨rfl, fun _ cur _ _ hb => ⟨cur, hb, rfl⟩⟩⟩⟩
theorem ExtN.then {lo : Nat} {S S' S'' : Nat → Prop} {w w' w'' : World} {O O' O'' : OInfo} (h : ExtN lo S S' w w' O O') (k : Ext S' S'' w' w'' O' O'') : ExtN lo S S'' w w'' O O'' := by
  refine ⟨fun n hn => ⟨(k.keep n (h.keep n hn).1).1, ((k.keep n (h.keep n hn).1).2).trans (h.keep n hn).2⟩, fun id g ob hl ho => ?_⟩
  obtain ⟨g', ob', ho', hg, h1⟩ := h.own id g ob hl ho
  obtain ⟨g'', ob'', ho'', hg', h2⟩ := k.own id g' ob' ho'
  refine ⟨g'', ob'', ho'', Nat.le_trans hg hg', fun e => ?_⟩
  obtain ⟨a1, a2⟩ := h1 (by omega)
  obtain ⟨b1, b2⟩ := h2 (by omega)
  refine ⟨b1.trans a1, fun b cur e hb hh => ?_⟩
  obtain ⟨cur', hh', hs⟩ := a2 b cur e hb hh
  obtain ⟨cur'', hh'', hs'⟩ := b2 b cur' e (a1.trans hb) hh'
  exact ⟨cur'', hh'', hs'.trans hs⟩
theorem ExtN.cut {lo : Nat} {S S' : Nat → Prop} {w w' : World} {O O' : OInfo} (h : ExtN lo S S' w w' O O') {k : Nat} (hk : lo ≤ k) : ExtN lo S (cutS S' O' k) w w' O (restO O' k) := by
  refine ⟨fun n hn => ⟨.inl (h.keep n hn).1, (h.keep n hn).2⟩, fun id g ob hl ho => ?_⟩
  obtain ⟨g', ob', ho', h1⟩ := h.own id g ob hl ho
  exact ⟨g', ob', by unfold restO; rw [if_pos (by omega)]; exact ho', h1⟩
theorem ExtN.ext {lo : Nat} {S S' : Nat → Prop} {w w' : World} {O O' : OInfo} (h : ExtN lo S S' w w' O O') (hO : ∀ id x, O id = some x → id < lo) : Ext S S' w w' O O' :=
  ⟨h.keep, fun id g ob ho => h.own id g ob (hO id _ ho) ho⟩

/-- a loop's record turned: nobody sees it -/
theorem ext_turn {S : Nat → Prop} {w : World} {O : OInfo} {L : Nat} (o' : Obj) (hS : ¬ S L) (hO : ¬ Own O L) : Ext S S w (w.putObj L o') O O := by
  have hoth : ∀ k, k ≠ L → (w.putObj L o').heap[k]? = w.heap[k]? := fun k hk => World.putObj_heap_other hk
  refine ⟨fun k hk => ⟨hk, hoth k (by rintro rfl; exact hS hk)⟩, fun id g ob ho => ⟨g, ob, ho, Nat.le_refl _, fun _ => ⟨rfl, fun b cur e hb hh => ⟨cur, ?_, rfl⟩⟩⟩⟩
  rw [hoth b (by rintro rfl; exact hO ⟨id, g, by rw [ho, hb]⟩)]
  exact hh
theorem mat_turn {S : Nat → Prop} {w : World} {O : OInfo} {hp : List Blk} (h : Mat S w O hp) {L : Nat} (o' : Obj) (hS : ¬ S L) (hO : ¬ Own O L) : Mat S (w.putObj L o') O hp := by
  refine h.keep (ext_turn o' hS hO) (by simp) (fun b hb => World.putObj_heap_other (by rintro rfl; exact hO hb)) (fun k hk => by simpa using h.lt k hk) fun k hk ⟨id, g, ho⟩ => (h.own id g k ho).2 hk
theorem sr_turn {S : Nat → Prop} {w : World} {O : OInfo} {σ : St} {a : Act} (h : SR M S w O σ a) {L : Nat} (o' : Obj) (hS : ¬ S L) (hO : ¬ Own O L) : SR M S (w.putObj L o') O σ a :=
  ⟨h.size, h.kept, h.fr.ext (ext_turn o' hS hO), mat_turn h.mat o' hS hO⟩

theorem later_alloc (w : World) (o : Obj) (ho : o.isCells = false) : Later w (w.alloc o) :=
  ⟨rfl, rfl, rfl, by simp, fun a => frozen_alloc_other w o ho a, fun n hn => heap_alloc_old w o hn⟩
theorem Later.trans {w w' w'' : World} (h : Later w w') (k : Later w' w'') : Later w w'' :=
  ⟨k.os.trans h.os, k.tape.trans h.tape, k.output.trans h.output, Nat.le_trans h.size k.size, fun a => (k.fz a).trans (h.fz a), fun n hn => (k.old n (Nat.lt_of_lt_of_le hn h.size)).trans (h.old n hn)⟩
theorem mat_own_lt {S : Nat → Prop} {w : World} {O : OInfo} {hp : List Blk} (h : Mat S w O hp) : ∀ k, Own O k → k < w.heap.size := fun k ⟨id, g, ho⟩ => (h.own id g k ho).1
theorem mat_evol {S : Nat → Prop} {w w' : World} {O : OInfo} {hp : List Blk} (h : Mat S w O hp) (hl : Later w w') : Mat S w' O hp :=
  h.keep (hl.evol h.lt (mat_own_lt h)).ext hl.size (fun b hb => hl.old b (mat_own_lt h b hb)) (fun k hk => Nat.lt_of_lt_of_le (h.lt k hk) hl.size) fun k hk ⟨id, g, ho⟩ => (h.own id g k ho).2 hk

theorem fold_frM {S : Nat → Prop} {w : World} {O : OInfo} : ∀ (ps : List Tmp) (x : List V) (cx : List Value) (fr : Nat → V) (a : Act), FrM S w O fr a → x.length = ps.length → cx.length = ps.length → (∀ p ∈ ps, p < a.tmps.size) → RepL (fun _ => False) w noO x cx →
    FrM S w O (updL fr ps x) { a with tmps := (ps.zip cx).foldl (fun t (p, v) => t.setIfInBounds p v) a.tmps }
  | [], x, cx, fr, a, h, hx, hc, hp, hr => by
    have : x = [] := List.eq_nil_of_length_eq_zero (by simpa using hx)
    subst this
    simpa [updL] using h
  | p :: ps, [], cx, fr, a, h, hx, hc, hp, hr => by simp at hx
  | p :: ps, v :: x, [], fr, a, h, hx, hc, hp, hr => by simp at hc
  | p :: ps, v :: x, c :: cx, fr, a, h, hx, hc, hp, hr => by
    simp only [RepL] at hr
    have hrep : Rep S w O v c := rep_noO (Rep.ext (S := fun _ => False) ⟨fun _ h => h.elim, fun _ _ _ h => by cases h⟩ _ _ hr.1)
    have h1 := FrM.put (dst := some p) (c := c) h (Ext.refl _ _ _) (fun d hd => by cases hd; exact hp p (by simp)) hrep
    have := fold_frM ps x cx (upd fr (some p) v) (a.put (some p) c) h1 (by simpa using hx) (by simpa using hc) (fun q hq => by rw [put_size]; exact hp q (by simp [hq])) hr.2
    simpa [updL, Act.put] using this
theorem fold_size : ∀ (l : List (Tmp × Value)) (t : Array Value), (l.foldl (fun t (p, v) => t.setIfInBounds p v) t).size = t.size
  | [], t => rfl
  | (p, v) :: l, t => by simp [fold_size l]
theorem fold_ne : ∀ (l : List (Tmp × Value)) (t : Array Value) (k : Nat), (∀ p ∈ l, p.1 ≠ k) → (l.foldl (fun t (p, v) => t.setIfInBounds p v) t).getD k undef = t.getD k undef
  | [], t, k, _ => rfl
  | (p, v) :: l, t, k, h => by
    rw [List.foldl_cons, fold_ne l _ k fun q hq => h q (by simp [hq])]
    have : p ≠ k := h (p, v) (by simp)
    simp [Array.getElem?_setIfInBounds_ne this]

def SoundAt (Γ : Gam) (P : Program) (M : FrI) (F : Fence) (n lo : Nat) (top : Nat) (r' : RC) (c : Code) : Prop :=
  ∀ (C : Ctx) (base : Nat), CtxOk P F n M C lo top base → ∀ (Q : Exit → St → Prop) (Q' : Exit → Act → World → Prop) (σ : St) (S : Nat → Prop) (w : World) (O : OInfo) (a : Act),
    wpR Γ (EqFlat P) r' Q σ → At C M S w O σ a → (∀ e σ' S' w' O' a', Q e σ' → At C M S' w' O' σ' a' → Q' e a' w') → c.wpIn F n P Q' a w

theorem openF_in (hF : OpenF F) (l : Nat) : OpenF (F.inRound l) := hF

set_option maxHeartbeats 1000000 in
/-- a range over a function -/
theorem rfn_sound (hG : GOk P Γ) (hF : OpenF F) (hC : CtxOk P F n M C lo 1 base) {f0 : Operand} {f : Od} (hf : rOd P 0 f0 = some f) {ps : Array Tmp} {lo' : Nat} (hlo : lo ≤ lo') (hps : ∀ p ∈ ps.toList, p < M.n ∧ M.md ≤ p) {b' a' : RC} {cx cy : Code}
    (hb : ∀ l, SoundAt Γ P M (F.inRound l) (n - 1 - 1) lo' 0 b' cx) (ha : ∀ l, SoundAt Γ P M (F.inRound l) (n - 1 - 1) lo' 0 a' cy)
    {Q : Exit → St → Prop} {Q' : Exit → Act → World → Prop} {σ : St} {S : Nat → Prop} {w : World} {O : OInfo} {a : Act} (hw : wpR Γ (EqFlat P) (.rfn f ps.toList lo' b' a') Q σ) (hat : At C M S w O σ a)
    (hQ : ∀ e σ' S' w' O' a', Q e σ' → At C M S' w' O' σ' a' → Q' e a' w') : (Code.rangeFunc f0 ps cx cy).wpIn F n P Q' a w := by
  simp only [wpR] at hw
  have hrf := evO_rep hat.sr.fr hf
  split at hw
  · rename_i gf caps hfv
    rw [hfv] at hrf
    split at hw
    · rename_i ok ys hΓ
      obtain ⟨hg6, hok, href, hlen, I, hI0, hround, hdone⟩ := hw
      simp only [Rep] at hrf
      obtain ⟨ccs, hcf, hcn, hcr⟩ := hrf
      obtain ⟨hen, hit⟩ := hG.iter gf _ ys hg6 (by rw [hΓ]; exact hok) (by rw [hΓ])
      have hat1 := hat.drp hC hlo
      obtain ⟨S1, hS1⟩ : ∃ S1, S1 = cutS S O lo' := ⟨_, rfl⟩
      obtain ⟨O1, hO1⟩ : ∃ O1, O1 = restO O lo' := ⟨_, rfl⟩
      obtain ⟨fr0, hfr0⟩ : ∃ fr0 : Nat → V, fr0 = fun t => cutV σ.hp lo' (σ.fr t) := ⟨_, rfl⟩
      rw [← hS1, ← hO1, ← hfr0] at hat1
      rw [← hfr0] at hround hdone
      have hO1lt : ∀ id x, O1 id = some x → id < lo' := fun id x h => by rw [hO1] at h; exact (restO_some h).1
      have hSS1 : ∀ m, S m → S1 m := fun m h => by rw [hS1]; exact .inl h
      refine wpIn_rangeFunc ?_
      intro fn hfn
      rw [hC.rnd rfl]
      obtain ⟨rec, hrec⟩ : ∃ rec : LoopState → Option Code → Loop, rec = fun st pe => { state := st, pending := pe, fn, tmps := a.tmps, params := ps, assign := cx, body := cy, defers := w.heap.size } := ⟨_, rfl⟩
      obtain ⟨W1, hW1⟩ : ∃ W1, (w.alloc (.deferred (some []))).alloc (.loop (rec .ready none)) = W1 := ⟨_, rfl⟩
      obtain ⟨L, hL⟩ : ∃ L, L = w.heap.size + 1 := ⟨_, rfl⟩
      have hL1 : W1.heap[L]? = some (.loop (rec .ready none)) := by
        rw [← hW1, hL]; have := World.alloc_heap_new (w.alloc (.deferred (some []))) (.loop (rec .ready none)); rwa [World.size_alloc] at this
      have hlat : Later w W1 := by rw [← hW1]; exact (later_alloc w _ rfl).trans (later_alloc _ _ rfl)
      have hbase := hC.big rfl hat.ctx
      -- the rounds' invariant
      obtain ⟨J, hJ⟩ : ∃ J : Nat → World → Prop, J = fun k W => ∃ S2 O2 hp, I k hp ∧ C S2 W O2 (col w.heap.size :: a.defers) (ghO hp) ∧ FrM S2 W O2 fr0 a ∧ Mat S2 W O2 hp ∧ (∀ id x, O2 id = some x → id < lo') ∧ ¬ S2 L ∧ ¬ Own O2 L ∧
        W.heap[L]? = some (.loop (rec .ready none)) ∧ (∀ m, S m → S2 m ∧ W.heap[m]? = w.heap[m]?) ∧ W1.heap.size ≤ W.heap.size := ⟨_, rfl⟩
      obtain ⟨Jx, hJx⟩ : ∃ Jx : Nat → World → Prop, Jx = fun _ W => ∃ id S2 O2 hp, Q (.exit id) ⟨fr0, hp⟩ ∧ C S2 W O2 (col w.heap.size :: a.defers) (ghO hp) ∧ FrM S2 W O2 fr0 a ∧ Mat S2 W O2 hp ∧ ¬ S2 L ∧ ¬ Own O2 L ∧
        W.heap[L]? = some (.loop (rec .done (some (.exit id)))) ∧ (∀ m, S m → S2 m ∧ W.heap[m]? = w.heap[m]?) ∧ W1.heap.size ≤ W.heap.size := ⟨_, rfl⟩
      have hJl : ∀ k W W', J k W → Later W W' → J k W' := by
        intro k W W' h hl
        rw [hJ] at h ⊢
        obtain ⟨S2, O2, hp, h1, h2, h3, h4, h5, h6, h7, h8, h9, h10⟩ := h
        have ev := hl.evol h4.lt (mat_own_lt h4)
        refine ⟨S2, O2, hp, h1, hC.evol h2 h4.lt ev (fun _ h => h), h3.ext ev.ext, mat_evol h4 hl, h5, h6, h7, (hl.old L (Array.getElem?_eq_some_iff.1 h8).1).trans h8, fun m hm => ⟨(h9 m hm).1, ?_⟩, Nat.le_trans h10 hl.size⟩
        rw [hl.old m (h4.lt m (h9 m hm).1)]
        exact (h9 m hm).2
      have hJxl : ∀ k W W', Jx k W → Later W W' → Jx k W' := by
        intro k W W' h hl
        rw [hJx] at h ⊢
        obtain ⟨id, S2, O2, hp, h1, h2, h3, h4, h6, h7, h8, h9, h10⟩ := h
        have ev := hl.evol h4.lt (mat_own_lt h4)
        refine ⟨id, S2, O2, hp, h1, hC.evol h2 h4.lt ev (fun _ h => h), h3.ext ev.ext, mat_evol h4 hl, h6, h7, (hl.old L (Array.getElem?_eq_some_iff.1 h8).1).trans h8, fun m hm => ⟨(h9 m hm).1, ?_⟩, Nat.le_trans h10 hl.size⟩
        rw [hl.old m (h4.lt m (h9 m hm).1)]
        exact (h9 m hm).2
      have hJ0 : J 0 W1 := by
        rw [hJ]
        have ev := hlat.evol hat1.sr.mat.lt (mat_own_lt hat1.sr.mat)
        refine ⟨S1, O1, cutH lo' σ.hp, hI0, ?_, hat1.sr.fr.ext ev.ext, mat_evol hat1.sr.mat hlat, hO1lt, fun h => ?_, fun h => ?_, hL1, fun m hm => ⟨hSS1 m hm, hlat.old m (hat.sr.mat.lt m hm)⟩, Nat.le_refl _⟩
        · rw [← hW1]
          exact hC.enter rfl hat1.ctx hat1.sr.mat.lt (mat_own_lt hat1.sr.mat)
        · have := hat1.sr.mat.lt L h; omega
        · have := mat_own_lt hat1.sr.mat L h; omega
      have hbL : base ≤ L := by omega
      refine ⟨L, [{ target := .collected w.heap.size, args := #[] }], W1, { target := .fn (.func gf) ccs, args := #[.func (.yield L) #[] #[]] }, W1, gf,
        #[.func (.yield L) #[] #[]] ++ ccs, W1, ?_, ?_, ?_, ?_, fun h => by simp [hF.2.1] at h, ?_⟩
      · rw [← hW1, hrec, hL]; exact run_enterLoop_outer _ _ _ _ _
      · simp only [resolve, hcf]
        simp [go_sem]
      · intro f' hf'; exact hF.1 f'
      · simp only [invoke]; exact hen _ _
      · refine (hit F (n - 1) S W1 ccs L J Jx hF (hC.rnd rfl) (fun m hm => Nat.lt_of_lt_of_le (hat.sr.mat.lt m hm) hlat.size) (by simpa using hcn) ?_ hJl hJxl ?_ ?_ hJ0).mono ?_
        · have h0 := vwL_noref (hp := σ.hp) _ _ href hcr
          exact RepL.ext ⟨fun m hm => ⟨hm, hlat.old m (hat.sr.mat.lt m hm)⟩, fun _ _ _ h => by cases h⟩ _ _ h0
        · rintro k W (h | h)
          · rw [hJ] at h
            obtain ⟨S2, O2, hp, h1, h2, h3, h4, h5, h6, h7, h8, h9, h10⟩ := h
            exact ⟨h10, fun m hm => (h9 m hm).2.trans (hlat.old m (hat.sr.mat.lt m hm)).symm⟩
          · rw [hJx] at h
            obtain ⟨id, S2, O2, hp, h1, h2, h3, h4, h6, h7, h8, h9, h10⟩ := h
            exact ⟨h10, fun m hm => (h9 m hm).2.trans (hlat.old m (hat.sr.mat.lt m hm)).symm⟩
        · -- ONE ROUND
          intro k x W cxs hx h hxr hxs
          rw [hJ] at h
          obtain ⟨S2, O2, hp, h1, h2, h3, h4, h5, h6, h7, h8, h9, h10⟩ := h
          have hxl : x.length = ps.size := by have := hlen x (List.mem_of_getElem? hx); simpa using this
          have hy := run_yield (P := P) (args := cxs) h8 (by rw [hrec]; show cxs.size = ps.size; omega)
          rw [hrec] at hy
          refine ⟨fn, _, cx, cy, hy, roundIn_of_wpIn hfn ?_⟩
          obtain ⟨Cb, hCb⟩ : ∃ Cb : Loop → Ctx, Cb = fun r S' W' O' ds' h' => ds' = [] ∧ C S' W' O' (col w.heap.size :: a.defers) h' ∧ ExtN lo' S2 S' W W' O2 O' ∧ ¬ S' L ∧ ¬ Own O' L ∧ W'.heap[L]? = some (.loop r) ∧ W.heap.size ≤ W'.heap.size := ⟨_, rfl⟩
          have hCbOk : ∀ r, CtxOk P (F.inRound L) (n - 1 - 1) M (Cb r) lo' 0 0 := by
            intro r
            rw [hCb]
            refine ⟨?_, ?_, fun h => (by cases h), fun h => (by cases h), fun h => (by cases h), fun h => (by cases h), fun h => (by cases h), fun h => (by cases h)⟩
            · rintro S' S'' W' W'' O' O'' ds g g' ⟨k1, k2, k3, k4, k5, k6, k7⟩ hlt ev hg
              have hLlt := (Array.getElem?_eq_some_iff.1 k6).1
              refine ⟨k1, hC.evol k2 hlt ev hg, k3.then ev.ext, fun hS => ?_, fun hO => ?_, (ev.old L hLlt k5).trans k6, Nat.le_trans k7 ev.size⟩
              · rcases ev.grow L hS with h | h | h
                · exact k4 h
                · exact k5 h
                · omega
              · rcases ev.fresh L hO with h | h
                · exact k5 h
                · omega
            · rintro S' W' O' ds g g' kk ⟨k1, k2, k3, k4, k5, k6, k7⟩ hkk hg
              refine ⟨k1, hC.cut k2 (Nat.le_trans hlo hkk) (fun hl => hg (Nat.le_trans hl hlo)), k3.cut hkk, ?_, fun ⟨id, g2, ho⟩ => k5 ⟨id, g2, (restO_some ho).2⟩, k6, k7⟩
              rintro (h | ⟨id, g2, ho⟩)
              · exact k4 h
              · exact k5 ⟨id, g2, (fromO_some ho).2⟩
          have hpsz : ∀ p ∈ ps.toList, p < a.tmps.size := fun p hp => by rw [hat.sr.size]; exact (hps p hp).1
          refine hb L (Cb (rec .ready none)) 0 (hCbOk _) _ _ ⟨updL fr0 ps.toList x, hp⟩ S2 W O2 _ (hround k x hp hx h1) ⟨?_, ⟨?_, ?_, ?_, h4⟩⟩ ?_
          · rw [hCb]; exact ⟨rfl, h2, ExtN.refl _ _ _ _, h6, h7, h8, Nat.le_refl _⟩
          · show ((ps.zip cxs).foldl (fun t (x : Tmp × Value) => t.setIfInBounds x.1 x.2) a.tmps).size = _
            rw [← Array.foldl_toList, fold_size, hat.sr.size]
          · intro t ht
            show ((ps.zip cxs).foldl (fun t (x : Tmp × Value) => t.setIfInBounds x.1 x.2) a.tmps).getD t undef = _
            rw [← Array.foldl_toList, fold_ne]
            · exact hat.sr.kept t ht
            · rintro ⟨p, v⟩ hpv
              have : p ∈ ps.toList := by
                rw [Array.toList_zip] at hpv
                exact (List.of_mem_zip hpv).1
              have := (hps p this).2
              intro h
              have h : p = t := h
              rw [h] at this
              exact absurd this (Nat.not_le.2 ht)
          · have := fold_frM ps.toList x cxs.toList fr0 { tmps := a.tmps, defers := [] } h3 (by simpa using hxl) (by simp; omega) hpsz hxr
            have e : (ps.zip cxs).foldl (fun t (x : Tmp × Value) => t.setIfInBounds x.1 x.2) a.tmps = (ps.toList.zip cxs.toList).foldl (fun t (x : Tmp × Value) => t.setIfInBounds x.1 x.2) a.tmps := by
              rw [← Array.foldl_toList, Array.toList_zip]
            show FrM S2 W O2 (updL fr0 ps.toList x) { tmps := (ps.zip cxs).foldl (fun t (x : Tmp × Value) => t.setIfInBounds x.1 x.2) a.tmps, defers := [] }
            rw [e]
            exact this
          · -- behind the assignment
            intro e σ1 S3 W3 O3 a3 he hat3
            cases e <;> first | exact he.elim | skip
            have hctx3 := hat3.ctx
            rw [hCb] at hctx3
            obtain ⟨k1, k2, k3, k4, k5, k6, k7⟩ := hctx3
            have hbeg := run_beginRound (P := P) k6 (by rw [hrec])
            refine ⟨_, hbeg, ?_⟩
            have hL3 := (Array.getElem?_eq_some_iff.1 k6).1
            refine ha L (Cb { rec .ready none with state := .busy }) 0 (hCbOk _) _ _ σ1 S3 _ O3 a3 he ⟨?_, sr_turn hat3.sr _ k4 k5⟩ ?_
            · rw [hCb]
              exact ⟨k1, hC.turn rfl k2 k6 k4 k5 hbL, k3.then (ext_turn _ k4 k5), k4, k5, World.putObj_heap_same hL3, by simpa using k7⟩
            · -- a round's end
              intro e σ5 S5 W5 O5 a5 he5 hat5
              have hctx5 := hat5.ctx
              rw [hCb] at hctx5
              obtain ⟨m1, m2, m3, m4, m5, m6, m7⟩ := hctx5
              have hL5 := (Array.getElem?_eq_some_iff.1 m6).1
              have c4 : ¬ cutS S5 O5 lo' L := by
                rintro (h | ⟨id, g2, ho⟩)
                · exact m4 h
                · exact m5 ⟨id, g2, (fromO_some ho).2⟩
              have c5 : ¬ Own (restO O5 lo') L := fun ⟨id, g2, ho⟩ => m5 ⟨id, g2, (restO_some ho).2⟩
              have hc := hC.cut (h' := ghO (cutH lo' σ5.hp)) m2 hlo fun hl y hy => ghO_cut hy (by omega)
              have hx5 : Ext S2 (cutS S5 O5 lo') W W5 O2 (restO O5 lo') := (m3.cut (Nat.le_refl _)).ext h5
              have common : ∀ r : Loop, C (cutS S5 O5 lo') (W5.putObj L (.loop r)) (restO O5 lo') (col w.heap.size :: a.defers) (ghO (cutH lo' σ5.hp)) ∧ FrM (cutS S5 O5 lo') (W5.putObj L (.loop r)) (restO O5 lo') fr0 a ∧
                  Mat (cutS S5 O5 lo') (W5.putObj L (.loop r)) (restO O5 lo') (cutH lo' σ5.hp) := fun r =>
                ⟨hC.turn rfl hc m6 c4 c5 hbL, (h3.ext hx5).ext (ext_turn _ c4 c5), mat_turn (cut_mat hat5.sr.mat lo') _ c4 c5⟩
              have hrdy : ∀ jump : Option Code, ({ ({ rec .ready none with state := .busy } : Loop) with state := if jump.isNone then .ready else .done, pending := jump } : Loop) = rec (if jump.isNone then .ready else .done) jump := by
                intro jump; rw [hrec]
              cases e <;> first | exact he5.elim | skip
              case normal =>
                obtain ⟨c1, c2, c3⟩ := common (rec .ready none)
                refine ⟨_, _, run_endRound (P := P) none m6, .inl ⟨rfl, ?_⟩⟩
                rw [hrdy none, hJ]
                simp only [Option.isNone_none, if_true]
                refine ⟨_, _, cutH lo' σ5.hp, he5, c1, c2, c3, fun id x h => (restO_some h).1, c4, c5, World.putObj_heap_same hL5, fun m hm => ?_, ?_⟩
                · have := hx5.keep m (h9 m hm).1
                  refine ⟨this.1, ?_⟩
                  rw [World.putObj_heap_other (by rintro rfl; exact c4 this.1), this.2]
                  exact (h9 m hm).2
                · have : W1.heap.size ≤ W5.heap.size := Nat.le_trans h10 m7
                  simpa using this
              case exit id =>
                obtain ⟨c1, c2, c3⟩ := common (rec .done (some (.exit id)))
                refine ⟨_, _, run_endRound (P := P) (some (.exit id)) m6, .inr ⟨rfl, ?_⟩⟩
                rw [hrdy (some (.exit id)), hJx]
                simp only [Option.isNone_some, Bool.false_eq_true, if_false]
                refine ⟨id, _, _, cutH lo' σ5.hp, he5, c1, c2, c3, c4, c5, World.putObj_heap_same hL5, fun m hm => ?_, ?_⟩
                · have := hx5.keep m (h9 m hm).1
                  refine ⟨this.1, ?_⟩
                  rw [World.putObj_heap_other (by rintro rfl; exact c4 this.1), this.2]
                  exact (h9 m hm).2
                · have : W1.heap.size ≤ W5.heap.size := Nat.le_trans h10 m7
                  simpa using this
        · -- behind the iterator
          rintro e W2 ⟨⟨v, rfl⟩, h | ⟨k, h⟩⟩
          · rw [hJ] at h
            obtain ⟨S2, O2, hp, h1, h2, h3, h4, h5, h6, h7, h8, h9, h10⟩ := h
            refine ⟨none, _, by have := run_endLoop (P := P) h8 (by rw [hrec]; simp); rw [hrec] at this; exact this, ?_⟩
            have s := sr_turn (σ := ⟨fr0, hp⟩) ⟨hat.sr.size, hat.sr.kept, h3, h4⟩ (.loop { rec .ready none with state := .exhausted }) h6 h7
            rw [hrec] at s
            exact hQ _ ⟨fr0, hp⟩ S2 _ O2 _ (hdone hp h1) ⟨hC.turn rfl h2 h8 h6 h7 hbL, ⟨s.size, s.kept, s.fr, s.mat⟩⟩
          · rw [hJx] at h
            obtain ⟨id, S2, O2, hp, h1, h2, h3, h4, h6, h7, h8, _, _⟩ := h
            refine ⟨some (.exit id), _, by have := run_endLoop (P := P) h8 (by rw [hrec]; simp); rw [hrec] at this; exact this, ?_⟩
            have s := sr_turn (σ := ⟨fr0, hp⟩) ⟨hat.sr.size, hat.sr.kept, h3, h4⟩ (.loop { rec .done (some (.exit id)) with state := .exhausted }) h6 h7
            rw [hrec] at s
            exact wpIn_exit (hQ _ ⟨fr0, hp⟩ S2 _ O2 _ h1 ⟨hC.turn rfl h2 h8 h6 h7 hbL, ⟨s.size, s.kept, s.fr, s.mat⟩⟩)
    · exact hw.elim
  · exact hw.elim

theorem set_self' {α : Type} {l : List α} {i : Nat} {x : α} (h : l[i]? = some x) : l.set i x = l := by
  apply List.ext_getElem?
  intro j
  rw [List.getElem?_set]
  split
  · rename_i e; subst e
    split
    · exact h.symm
    · rename_i hl; rw [List.getElem?_eq_none (by omega)]
  · rfl

/-- RESOLVED CODE IS SOUND -/
theorem wpR_sound (hG : GOk P Γ) (hm : P.follows .mixedOrders = true) :
    ∀ (r : RC) (c : Code) (r' : RC) (F : Fence) (n lo : Nat) (top : Nat), OpenF F → comp P pu M.nm lo top r c = some r' → SoundAt Γ P M F n lo top r' c := by
  intro r
  induction r with
  | skip =>
    intro c r' F n lo top hF hc C base hC Q Q' σ S w O a hw hat hQ
    cases c <;> (try simp only [comp] at hc) <;> try (cases hc; done)
    cases hc
    exact wpIn_skip (hQ _ _ _ _ _ _ hw hat)
  | reg g l =>
    intro c r' F n lo top hF hc C base hC Q Q' σ S w O a hw hat hQ
    cases c <;> (try simp only [comp] at hc) <;> try (cases hc; done)
    case region id ops draw =>
      cases draw <;> (try simp only [comp] at hc) <;> try (cases hc; done)
      split at hc
      · rename_i hgd
        rw [Option.map_eq_some_iff] at hc
        obtain ⟨rs, hrs, rfl⟩ := hc
        have hmap := mapM_some hrs
        have hRO : RegOps P pu M.nm ops rs := by
          unfold RegOps
          rw [hmap]
          apply List.map_congr_left
          intro x hx
          obtain ⟨i, hi⟩ := List.getElem?_of_mem hx
          have h1 := congrArg (fun l => l[i]?) hmap
          simp only [List.getElem?_map, hi, Option.map_some] at h1
          rw [Option.map_eq_some_iff] at h1
          obtain ⟨o, _, ho⟩ := h1
          have := resO_nid ho
          cases x; simp_all
        refine region_text hG hF hRO (g := g) (base := 0) ?_ hw hat.sr ?_
        · intro hg o ho
          subst hg
          simp only [Bool.false_or, noGuard] at hgd
          have := Array.all_eq_true_iff_forall_mem.1 hgd o ho
          simpa using this
        · intro τ S' w' O' a' hK hgh hev hsr hd
          exact hQ _ _ _ _ _ _ hK ⟨by rw [hd]; exact hC.evol hat.ctx hat.sr.mat.lt hev hgh, hsr⟩
      · cases hc
  | nxt d m it =>
    intro c r' F n lo top hF hc C base hC Q Q' σ S w O a hw hat hQ
    cases c <;> (try simp only [comp] at hc) <;> try (cases hc; done)
    case region id ops draw =>
      cases draw <;> (try simp only [comp] at hc) <;> try (cases hc; done)
      split at hc
      · rename_i o1 o2 hops
        split at hc
        · rename_i hx
          cases hc
          refine nxt_sound hF (M := M) (N := M.nm) hops hx hw hat.sr ?_
          intro σ' w' a' hK hev hgh hsr hd
          exact hQ _ _ _ _ _ _ hK ⟨by rw [hd]; exact hC.evol hat.ctx hat.sr.mat.lt hev hgh, hsr⟩
        · cases hc
      · cases hc
  | yrg g l1 y ks l2 =>
    intro c r' F n lo top hF hc C base hC Q Q' σ S w O a hw hat hQ
    cases c <;> (try simp only [comp] at hc) <;> try (cases hc; done)
    case region id ops draw =>
      cases draw <;> (try simp only [comp] at hc) <;> try (cases hc; done)
      split at hc
      · rename_i htg
        simp only [Bool.and_eq_true, beq_iff_eq] at htg
        obtain ⟨rfl, hgd⟩ := htg
        split at hc
        · rename_i o ho
          split at hc
          · rename_i r1 y' r2 h1 hy h2
            split at hc
            · rename_i hl
              cases hc
              have hl' : r1.length = l1.length := by simpa using hl
              rw [← hl'] at ho h1 h2
              exact yrg_sound hG hF hC hgd ho h1 hy h2 hw hat fun σ' S' w' O' a' => hQ _ σ' S' w' O' a'
            · cases hc
          · cases hc
        · cases hc
      · cases hc
  | crl g l1 y l2 =>
    intro c r' F n lo top hF hc C base hC Q Q' σ S w O a hw hat hQ
    cases c <;> (try simp only [comp] at hc) <;> try (cases hc; done)
    case region id ops draw =>
      cases draw <;> (try simp only [comp] at hc) <;> try (cases hc; done)
      split at hc
      · rename_i hgd
        split at hc
        · rename_i o ho
          split at hc
          · rename_i r1 y' r2 h1 hy h2
            split at hc
            · rename_i hl
              cases hc
              have hl' : r1.length = l1.length := by simpa using hl
              rw [← hl'] at ho h1 h2
              exact crl_sound hG hF hC hgd ho h1 hy h2 hw hat fun σ' S' w' O' a' => hQ _ σ' S' w' O' a'
            · cases hc
          · cases hc
        · cases hc
      · cases hc
  | swp i j r ih =>
    intro c r' F n lo top hF hc C base hC Q Q' σ S w O a hw hat hQ
    simp only [comp] at hc
    split at hc
    · rename_i htl
      simp only [Bool.and_eq_true, beq_iff_eq] at htl
      rw [Option.map_eq_some_iff] at hc
      obtain ⟨r1, h1, rfl⟩ := hc
      obtain ⟨hi, hj, hw⟩ := hw
      refine ih c r1 F n lo top hF h1 C base hC Q Q' _ S w (fun id => O (sw i j id)) a hw ⟨hC.ren htl.1 htl.2 hat.ctx fun k ⟨id, g, ho⟩ => ⟨_, g, ho⟩, ⟨hat.sr.size, hat.sr.kept, fun t => ?_, sw_mat hat.sr.mat hi hj⟩⟩ hQ
      exact ren_rep (fun id => by rw [sw_sw]) _ _ (hat.sr.fr t)
    · cases hc
  | any g m l =>
    intro c r' F n lo top hF hc C base hC Q Q' σ S w O a hw hat hQ
    cases c <;> (try simp only [comp] at hc) <;> try (cases hc; done)
    case region id ops draw =>
      cases draw <;> (try simp only [comp] at hc) <;> try (cases hc; done)
      split at hc
      · rename_i hgd
        cases hrs : (ops.toList.mapM fun o => resO P pu M.nm ops o) with
        | none => simp [hrs] at hc
        | some rs =>
          simp only [hrs] at hc
          split at hc
          · rename_i hch
            cases hc
            simp only [Bool.and_eq_true, decide_eq_true_eq] at hch
            obtain ⟨⟨h1, h2⟩, h3⟩ := hch
            have hmap := mapM_some hrs
            have hAO : AnyOps P pu M.nm ops (rs.zipWith (fun r (x : AnyOp) => (⟨{ r with nid := x.o.nid }, x.js, x.an⟩ : AnyOp)) l) := by
              unfold AnyOps
              rw [hmap]
              refine List.ext_getElem? fun i => ?_
              simp only [List.getElem?_map, List.getElem?_zipWith]
              cases hi : rs[i]? with
              | none => simp
              | some x =>
                have hlt := getElemLt hi
                have hll : i < l.length := by
                  rw [List.length_zipWith] at h3; omega
                simp only [Option.map_some, List.getElem?_eq_getElem hll, Option.some.injEq]
                have h1 := congrArg (fun l => l[i]?) hmap
                simp only [List.getElem?_map, hi, Option.map_some] at h1
                rw [Option.map_eq_some_iff] at h1
                obtain ⟨o, _, ho⟩ := h1
                have := resO_nid ho
                cases x; simp_all
            refine region_any hG hF hm hAO h1 h2 (g := g) (base := σ.hp.length) ?_ hw ⟨hat.sr.size, hat.sr.kept, hat.sr.fr, mat_app hat.sr.mat _⟩ ?_
            · intro hg o ho
              subst hg
              simp only [Bool.false_or, noGuard] at hgd
              have := Array.all_eq_true_iff_forall_mem.1 hgd o ho
              simpa using this
            · intro τ S' w' O' a' hK hgh hev hsr hd
              exact hQ _ _ _ _ _ _ hK ⟨by rw [hd]; exact hC.evol hat.ctx hat.sr.mat.lt hev fun y hy => hgh y (ghO_app hy), hsr⟩
          · cases hc
      · cases hc
  | seq r1 r2 ih1 ih2 =>
    intro c r' F n lo top hF hc C base hC Q Q' σ S w O a hw hat hQ
    cases c <;> (try simp only [comp] at hc) <;> try (cases hc; done)
    case seq x y =>
      cases h1 : comp P pu M.nm lo top r1 x with
      | none => simp [h1] at hc
      | some a1 =>
        cases h2 : comp P pu M.nm lo top r2 y with
        | none => simp [h1, h2] at hc
        | some a2 =>
          simp only [h1, h2, Option.some.injEq] at hc
          subst hc
          refine wpIn_seq (ih1 x a1 F n lo top hF h1 C base hC _ _ σ S w O a hw hat ?_)
          intro e σ' S' w' O' a' he hat'
          cases e <;> first | exact hQ _ _ _ _ _ _ he hat' | skip
          exact ih2 y a2 F n lo top hF h2 C base hC _ _ σ' S' w' O' a' he hat' hQ
  | mid r1 r2 ih1 ih2 =>
    intro c r' F n lo top hF hc C base hC Q Q' σ S w O a hw hat hQ
    cases c <;> (try simp only [comp] at hc) <;> try (cases hc; done)
    case seq x y =>
      cases h1 : comp P pu M.nm lo top r1 x with
      | none => simp [h1] at hc
      | some a1 =>
        cases h2 : comp P pu M.nm lo top r2 y with
        | none => simp [h1, h2] at hc
        | some a2 =>
          simp only [h1, h2, Option.some.injEq] at hc
          subst hc
          obtain ⟨Mid, hw1, hw2⟩ := hw
          refine wpIn_seq (ih1 x a1 F n lo top hF h1 C base hC _ _ σ S w O a hw1 hat ?_)
          intro e σ' S' w' O' a' he hat'
          cases e <;> first | exact hQ _ _ _ _ _ _ he hat' | skip
          exact ih2 y a2 F n lo top hF h2 C base hC _ _ σ' S' w' O' a' (hw2 _ he) hat' hQ
  | cond k r1 r2 ih1 ih2 =>
    intro c r' F n lo top hF hc C base hC Q Q' σ S w O a hw hat hQ
    cases c <;> (try simp only [comp] at hc) <;> try (cases hc; done)
    case cond k' x y =>
      cases h0 : rOd P 0 k' with
      | none => simp [h0] at hc
      | some k1 =>
        cases h1 : comp P pu M.nm lo top r1 x with
        | none => simp [h0, h1] at hc
        | some a1 =>
          cases h2 : comp P pu M.nm lo top r2 y with
          | none => simp [h0, h1, h2] at hc
          | some a2 =>
            simp only [h0, h1, h2, Option.some.injEq] at hc
            subst hc
            simp only [wpR] at hw
            cases hk : evO σ.fr k1 <;> simp only [hk] at hw <;> try exact hw.elim
            case b t =>
              refine wpIn_cond_split (cond_rep hat.sr.fr h0 hk) (fun ht => ?_) (fun ht => ?_)
              · exact ih1 x a1 F n lo top hF h1 C base hC Q Q' σ S w O a (hw.1 ht) hat hQ
              · exact ih2 y a2 F n lo top hF h2 C base hC Q Q' σ S w O a (hw.2 ht) hat hQ
  | block id r ih =>
    intro c r' F n lo top hF hc C base hC Q Q' σ S w O a hw hat hQ
    cases c <;> (try simp only [comp] at hc) <;> try (cases hc; done)
    case block id' x =>
      rw [Option.map_eq_some_iff] at hc
      obtain ⟨r1, h1, rfl⟩ := hc
      refine wpIn_block (ih x r1 F n lo top hF h1 C base hC _ _ σ S w O a hw hat ?_)
      intro e σ' S' w' O' a' he hat'
      cases e <;> first | exact hQ _ _ _ _ _ _ he hat' | skip
      case exit id'' =>
        simp only [blockQ] at he
        simp only [Exit.inBlock]
        split
        · rename_i hid; rw [if_pos hid] at he; exact hQ _ _ _ _ _ _ he hat'
        · rename_i hid; rw [if_neg hid] at he; exact hQ _ _ _ _ _ _ he hat'
  | loop l d r ih =>
    intro c r' F n lo top hF hc C base hC Q Q' σ S w O a hw hat hQ
    cases c <;> (try simp only [comp] at hc) <;> try (cases hc; done)
    case loop x =>
      by_cases hlo : dOk lo d = true
      · rw [if_pos hlo] at hc
        rw [Option.map_eq_some_iff] at hc
        obtain ⟨r1, h1, rfl⟩ := hc
        have hd : ∀ k, d = some k → lo ≤ k := by
          rintro k rfl
          exact of_decide_eq_true hlo
        obtain ⟨I, ⟨k0, h0⟩, hround⟩ := hw
        obtain ⟨S1, O1, hat1⟩ := hat.kp hC l d hd
        refine wpIn_loopN (fun k a w => ∃ σ S O, I k σ ∧ At C M S w O σ a) ⟨k0, _, S1, O1, h0, hat1⟩ ?_
        rintro k a1 w1 ⟨σ1, S1, O1, hI, hat1⟩
        refine ih x r1 F n lo top hF h1 C base hC _ _ σ1 S1 w1 O1 a1 (hround k σ1 hI) hat1 ?_
        intro e σ' S' w' O' a' he hat'
        cases e <;> first | exact hQ _ _ _ _ _ _ he hat' | skip
        obtain ⟨j, hj, hI'⟩ := he
        obtain ⟨S2, O2, hat2⟩ := hat'.kp hC l d hd
        exact ⟨j, hj, _, S2, O2, hI', hat2⟩
      · rw [if_neg hlo] at hc; cases hc
  | exit id =>
    intro c r' F n lo top hF hc C base hC Q Q' σ S w O a hw hat hQ
    cases c <;> (try simp only [comp] at hc) <;> try (cases hc; done)
    cases hc
    exact wpIn_exit (hQ _ _ _ _ _ _ hw hat)
  | ret =>
    intro c r' F n lo top hF hc C base hC Q Q' σ S w O a hw hat hQ
    cases c <;> (try simp only [comp] at hc) <;> try (cases hc; done)
    exact wpIn_ret (hQ _ _ _ _ _ _ (by cases hc; exact hw) hat)
  | keep l r ih =>
    intro c r' F n lo top hF hc C base hC Q Q' σ S w O a hw hat hQ
    simp only [comp] at hc
    rw [Option.map_eq_some_iff] at hc
    obtain ⟨r1, h1, rfl⟩ := hc
    exact ih c r1 F n lo top hF h1 C base hC Q Q' _ S w O a hw (hat.keep l) hQ
  | drp k r ih =>
    intro c r' F n lo top hF hc C base hC Q Q' σ S w O a hw hat hQ
    simp only [comp] at hc
    split at hc
    · rename_i hlo
      rw [Option.map_eq_some_iff] at hc
      obtain ⟨r1, h1, rfl⟩ := hc
      exact ih c r1 F n lo top hF h1 C base hC Q Q' _ _ w (restO O k) a hw (hat.drp hC hlo) hQ
    · cases hc
  | own t es r ih =>
    intro c r' F n lo top hF hc C base hC Q Q' σ S w O a hw hat hQ
    simp only [comp] at hc
    rw [Option.map_eq_some_iff] at hc
    obtain ⟨r1, h1, rfl⟩ := hc
    simp only [wpR] at hw
    cases ht : σ.fr t <;> simp only [ht] at hw <;> try exact hw.elim
    case z es' =>
      have hO := mat_none hat.sr.mat
      obtain ⟨hev, hmat⟩ := virt_own (mat_app hat.sr.mat [.cells 0 []]) hO (by simp) rfl
      refine ih c r1 F n lo top hF h1 C base hC Q Q' _ S w _ a hw ⟨hC.evol hat.ctx hat.sr.mat.lt hev fun y hy => ghO_app hy, ⟨hat.sr.size, hat.sr.kept, fun t' => ?_, hmat⟩⟩ hQ
      simp only [upd]
      split
      · rename_i e
        subst e
        have := hat.sr.fr t'
        rw [ht] at this
        simp only [Rep] at this ⊢
        obtain ⟨x, hx⟩ := this
        rw [hx]
        exact ⟨rfl, 0, none, (by simp [updO]), Nat.le_refl _, fun _ => .inr ⟨rfl, trivial, x, rfl⟩⟩
      · exact Rep.ext hev.ext _ _ (hat.sr.fr t')
  | ownc t off es r ih =>
    intro c r' F n lo top hF hc C base hC Q Q' σ S w O a hw hat hQ
    simp only [comp] at hc
    rw [Option.map_eq_some_iff] at hc
    obtain ⟨r1, h1, rfl⟩ := hc
    simp only [wpR] at hw
    cases ht : σ.fr t <;> simp only [ht] at hw <;> try exact hw.elim
    case ad id g o =>
      cases hid : σ.hp[id]? with
      | none => simp [hid] at hw
      | some bk =>
        cases bk <;> simp only [hid] at hw <;> try exact hw.elim
        case cells g' vs =>
          cases hv : vs[o + off]? with
          | none => simp [hv] at hw
          | some v =>
            cases v <;> simp only [hv] at hw <;> try exact hw.elim
            case z es' =>
              obtain ⟨rfl, hw⟩ := hw
              have hO := mat_none hat.sr.mat
              have hidlt := getElemLt hid
              obtain ⟨hev, hmat⟩ := virt_own (mat_app hat.sr.mat [.cells 0 []]) hO (by simp) rfl
              refine ih c r1 F n lo top hF h1 C base hC Q Q' _ S w _ a hw ⟨hC.evol hat.ctx hat.sr.mat.lt hev fun y hy => ghO_app (ghO_set hy hid fun _ _ h => by cases h), ⟨hat.sr.size, hat.sr.kept, hat.sr.fr.ext hev.ext, ?_⟩⟩ hQ
              refine ⟨hmat.lt, hmat.own, hmat.inj, fun j gj ob hj => ?_⟩
              have hb := hmat.blk j gj ob hj
              by_cases hji : j = id
              · subst hji
                rw [List.getElem?_append_left (by rw [List.length_set]; exact hidlt), List.getElem?_set_self hidlt]
                rw [List.getElem?_append_left hidlt, hid] at hb
                simp only [BlkOk] at hb ⊢
                refine ⟨hb.1, ?_⟩
                cases ob with
                | none => have := hb.2; simp only at this; rw [this] at hv; simp at hv
                | some b =>
                  obtain ⟨cur, e, hh, hrl, hone⟩ := hb.2
                  refine ⟨cur, e, hh, ?_, hone⟩
                  obtain ⟨cc, hcc, hrep⟩ := RepL.get _ _ _ _ hrl hv
                  have hrep2 : Rep S w (updO O σ.hp.length (0, none)) (.rf σ.hp.length 0 0 0 es) cc := by
                    simp only [Rep] at hrep ⊢
                    obtain ⟨x, hx⟩ := hrep
                    rw [hx]
                    exact ⟨rfl, 0, none, (by simp [updO]), Nat.le_refl _, fun _ => .inr ⟨rfl, trivial, x, rfl⟩⟩
                  have := RepL.set (o + off) vs cur.toList _ cc hrl hrep2
                  rwa [set_self' hcc] at this
              · have e1 : (σ.hp.set id (Blk.cells g' (vs.set (o + off) (.rf σ.hp.length 0 0 0 es))) ++ [Blk.cells 0 []])[j]? = (σ.hp ++ [Blk.cells 0 []])[j]? := by
                  rw [List.getElem?_append, List.getElem?_append, List.length_set, List.getElem?_set_ne (Ne.symm hji)]
                rw [e1]; exact hb
  | rfn f ps lo' rb ra ihb iha =>
    intro c r' F n lo top hF hc C base hC Q Q' σ S w O a hw hat hQ
    cases c <;> (try simp only [comp] at hc) <;> try (cases hc; done)
    case rangeFunc f0 ps0 x y =>
      split at hc
      · rename_i hch
        simp only [Bool.and_eq_true, decide_eq_true_eq, beq_iff_eq] at hch
        obtain ⟨⟨rfl, hlo⟩, hps⟩ := hch
        cases h0 : rOd P 0 f0 with
        | none => simp [h0] at hc
        | some f1 =>
          cases h1 : comp P pu M.nm lo' 0 rb x with
          | none => simp [h0, h1] at hc
          | some b1 =>
            cases h2 : comp P pu M.nm lo' 0 ra y with
            | none => simp [h0, h1, h2] at hc
            | some a1 =>
              simp only [h0, h1, h2, Option.some.injEq] at hc
              subst hc
              refine rfn_sound hG hF hC h0 hlo (fun p hp => ?_) (fun l => ihb x b1 _ _ lo' 0 (openF_in hF l) h1) (fun l => iha y a1 _ _ lo' 0 (openF_in hF l) h2) hw hat hQ
              have := Array.all_eq_true_iff_forall_mem.1 hps p (by simpa using hp)
              exact dstOk_some this
      · cases hc
end
end Go.Fam
