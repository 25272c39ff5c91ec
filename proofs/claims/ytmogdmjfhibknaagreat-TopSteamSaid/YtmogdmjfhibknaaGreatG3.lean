import Derived.Test.YtmogdmjfhibknaaGreatG2
set_option linter.all false
open List renaming range' → Qe, take_of_length_le → Qg, getElem?_eq_getElem → Qh, getElem?_append_left → Qj, getElem?_map → Qk, range_eq_range' → Ql, range'_succ → Qo, range'_append_1 → Qp, getElem?_cons_zero → Qq, length → Qt, getElem?_set_self → Qv, getElem?_set_ne → Qw, getElem?_append → Qx, length_set → Qy, getElem?_of_mem → Q0, mem_of_getElem? → Q1, eq_nil_of_length_eq_zero → Q2, range → Q3, getElem?_append_right → Q4, length_cons → Q6, all_eq_true → Q7, mem_filter → Q8, getElem?_toArray → Q9, getElem?_zipWith → Za, map_cons → Zb, getElem?_take → Zc, getElem?_drop → Zd, ext_getElem? → Zh, cons_append → Zi, of_mem_zip → Zj, length_map → Zk, replicate → Zl, cons → Zm
open Nat renaming le_refl → Qf, le_trans → Qr, zero_add → Qu, lt_of_lt_of_le → Qz, lt_or_eq_of_le → Ze
open Bool renaming and_eq_true → Qc, false_or → Qs, false_eq_true → Q5
open Option renaming map_eq_some_iff → Qa, some → Qb, bind_eq_some_iff → Qd, bind_eq_bind → Qi, pure_def → Qm, map_some → Qn, isNone_none → Zf, isNone_some → Zg
namespace Go.Fam
theorem Qjn {P : Program} {pu : List Nat} {N : Nat × Nat} {ops : Array Oper} {o : Oper} {r : RO} (h : resO P pu N ops o = some r) : r.nid = none := by
 unfold resO at h
 split at h
 ·split at h
  ·cases h
  ·split at h
   ·split at h
    ·rw [Qa] at h
     obtain ⟨_, _, rfl⟩ := h
     rfl
    ·cases h
   ·split at h
    ·cases h; rfl
    ·split at h
     ·rw [Qa] at h
      obtain ⟨_, _, rfl⟩ := h
      rfl
     ·cases h
 ·cases h
theorem Qcl {α β : Type} {f : α → Option β} : ∀ {l : List α} {r : List β}, l.mapM f = some r → l.map f = r.map some
 | [], r, h => by simp at h; subst h; rfl
 | x :: l, r, h => by
  rw [List.mapM_cons] at h
  simp only [Qi, Qd, Qm, Qb.injEq] at h
  obtain ⟨y, hy, ys, hys, rfl⟩ := h
  simp [hy, Qcl hys]
theorem Qqe {p : Nat → Prop} (h : ∃ k, p k) : ∃ k, p k ∧ ∀ j, p j → k ≤ j := by
 obtain ⟨k, hk⟩ := h
 induction k using Nat.strongRecOn with
 | _ k ih =>
  by_cases hj : ∃ j, j < k ∧ p j
  ·obtain ⟨j, hj, hp⟩ := hj
   exact ih j hj hp
  ·exact ⟨k, hk, fun j hpj => Nat.le_of_not_lt fun hlt => hj ⟨j, hlt, hpj⟩⟩
open Classical in
noncomputable def Qqd (p : Nat → Prop) : Nat := if h : ∃ k, p k then (Qqe h).choose else 0
theorem Qke {p : Nat → Prop} (h : ∃ k, p k) : p (Qqd p) ∧ ∀ j, p j → Qqd p ≤ j := by
 unfold Qqd
 rw [dif_pos h]
 exact (Qqe h).choose_spec
theorem Qrp {F : Fence} {n : Nat} {P : Program} {c : Code} {Q : Exit → Act → World → Prop} {a : Act} {w : World} (I : Nat → Act → World → Prop) (h0 : ∃ k, I k a w)
  (round : ∀ k a w, I k a w → c.wpIn F n P (Exit.then (fun a' w' => ∃ j, j < k ∧ I j a' w') Q) a w) : (Code.loop c).wpIn F n P Q a w := by
 refine wpIn_loop (fun a w => ∃ k, I k a w) (fun a w => Qqd fun k => I k a w) h0 fun a w h => ?_
 refine wpIn_mono (round _ a w (Qke h).1) fun e a' w' he => ?_
 cases e <;> first | exact he | skip
 obtain ⟨j, hj, hI⟩ := he
 exact ⟨⟨j, hI⟩, Nat.lt_of_le_of_lt ((Qke ⟨j, hI⟩).2 j hI) hj⟩
theorem Qds {b : Frame} {a : Act} {k : List Item} {cs : List Frame} {w : World} {P : Program} {c : Code} : Go.step P (lone (b.atR a (.code (.scope c) :: k)) cs w) = .next (lone (b.atR a (.code c :: .inScope c :: k)) cs w) :=
 step_lone_go (by simp [stepG, stepG.exec, Frame.atR])
theorem Qn8 {b : Frame} {a : Act} {k : List Item} {cs : List Frame} {w : World} {P : Program} {c : Code} : Go.step P (lone (b.atR a (.inScope c :: k)) cs w) = .next (lone (b.atR a k) cs w) :=
 step_lone_go (by simp [stepG, stepG.exec, Frame.atR])
def Ze1 (Q : Exit → Act → World → Prop) : Exit → Act → World → Prop
 | .goto _, _, _ => False
 | e, a, w => Q e a w
theorem Qh7 {F : Fence} {n : Nat} {P : Program} {Q : Exit → Act → World → Prop} {a : Act} {w : World} {c : Code} (h : c.wpIn F n P (Ze1 Q) a w) : (Code.scope c).wpIn F n P Q a w := by
 intro b k cs hro hb hr
 have h0 : (lone (b.atR a (.code (.scope c) :: k)) cs w).fenced P F := fenced_calm hb hr rfl
 obtain ⟨e, a₁, w₁, hq, harr⟩ := h b (.inScope c :: k) cs hro hb hr
 cases e with
 | normal => exact ⟨.normal, a₁, w₁, hq, .head h0 Qds (StepsIn.trans harr (.one (fenced_calm hb hr rfl) Qn8))⟩
 | exit id =>
  have hx : exitTo id (.inScope c :: k) = exitTo id k := by simp [exitTo]
  exact ⟨.exit id, a₁, w₁, hq, fun k' hk => .head h0 Qds (harr.1 k' (by rw [hx]; exact hk)),
   fun hr' hk => let ⟨k₁, h1, h2⟩ := harr.2 hr' (by rw [hx]; exact hk); ⟨k₁, h1, .head h0 Qds h2⟩⟩
 | goto l => exact hq.elim
 | ret => exact ⟨_, a₁, w₁, hq, .of_steps (.one h0 Qds) harr⟩
 | panic ch => exact ⟨_, a₁, w₁, hq, .of_steps (.one h0 Qds) harr⟩
 | outgrown => exact ⟨_, a₁, w₁, hq, .of_steps (.one h0 Qds) harr⟩
abbrev Ctx := (Nat → Prop) → World → OInfo → List Deferred → Option (List V × Option (List (List V))) → Prop
abbrev col (D : Nat) : Deferred := { target := .collected D, args := #[] }
abbrev Gh := Option (List V × Option (List (List V)))
structure CtxOk (P : Program) (F : Fence) (n : Nat) (M : FrI) (C : Ctx) (lo : Nat) (top : Nat) (base : Nat) : Prop where
 evol : ∀ {S S' : Nat → Prop} {w w' : World} {O O' : OInfo} {ds : List Deferred} {h h' : Gh}, C S w O ds h → (∀ k, S k → k < w.heap.size) → Evol S S' w w' O O' → (∀ y, h = some y → h' = some y) → C S' w' O' ds h'
 cut : ∀ {S : Nat → Prop} {w : World} {O : OInfo} {ds : List Deferred} {h h' : Gh} {k : Nat}, C S w O ds h → lo ≤ k → (1 ≤ lo → ∀ y, h = some y → h' = some y) → C (cutS S O k) w (Qcd O k) ds h'
 rnd : top = 1 → F.round = none
 big : top = 1 → ∀ {S : Nat → Prop} {w : World} {O : OInfo} {ds : List Deferred} {h : Gh}, C S w O ds h → base ≤ w.heap.size
 turn : top = 1 → ∀ {S : Nat → Prop} {w : World} {O : OInfo} {ds : List Deferred} {h : Gh} {L : Nat} {r r' : Loop}, C S w O ds h → w.heap[L]? = some (.loop r) → ¬ S L → ¬ Own O L → base ≤ L → C S (w.putObj L (.loop r')) O ds h
 enter : top = 1 → ∀ {S : Nat → Prop} {w : World} {O : OInfo} {ds : List Deferred} {h : Gh} {r : Loop}, C S w O ds h → (∀ k, S k → k < w.heap.size) → (∀ k, Own O k → k < w.heap.size) →
  C S ((w.alloc (.deferred (some []))).alloc (.loop r)) O (col w.heap.size :: ds) h
 ren : top = 1 → lo = 0 → ∀ {S : Nat → Prop} {w : World} {O O' : OInfo} {ds : List Deferred} {h h' : Gh}, C S w O ds h → (∀ k, Own O' k → Own O k) → C S w O' ds h'
 yld : top = 2 → ∀ {S : Nat → Prop} {w : World} {O : OInfo} {ds : List Deferred} {caps x : List V} {rest : List (List V)} {cx : Array Value} {l : Nat}, C S w O ds (some (caps, some (x :: rest))) → (∀ k, S k → k < w.heap.size) → (∀ id, O id = none) → caps[0]? = some (.yl l) →
  RepL (fun _ => False) w noO x cx.toList → cx.size = x.length → YieldAt F (n - 1) P l cx w fun e W' => ∃ b S', e = .returned (.bool b) ∧ C S' W' noO ds (some (caps, if b then some rest else none)) ∧
   (∀ k, S' k → k < W'.heap.size) ∧ ∀ t v, caps[t]? = some v → t < M.md ∧ Rep S' W' noO v (M.T t)
 yldh : top = 3 → ∀ {S : Nat → Prop} {w : World} {O : OInfo} {ds : List Deferred} {caps bv x z : List V} {rest : List (List V)} {cx : Array Value} {l m : Nat}, C S w O ds (some (caps, some (gyA true bv :: gyE x z :: rest))) → Mat S w O (.hole :: (bv ++ z).map vB) →
  caps[0]? = some (.yl l) → RepL S w O x cx.toList → cx.size = x.length → YieldAt F m P l cx w fun e W' => ∃ b S' O' bv', e = .returned (.bool b) ∧ M.al bv' ∧ C S' W' O' ds (some (caps, some (gyA b bv' :: if b then rest else []))) ∧
   Ext S S' w W' O O' ∧ Mat S' W' O' (.hole :: (bv' ++ z).map vB)
 rnd3 : top = 3 → F.round = none
structure At (C : Ctx) (M : FrI) (S : Nat → Prop) (w : World) (O : OInfo) (σ : St) (a : Act) : Prop where
 ctx : C S w O a.defers (ghO σ.hp)
 sr : SR M S w O σ a
section
variable {P : Program} {F : Fence} {n : Nat} {Γ : Gam} {pu : List Nat} {M : FrI} {C : Ctx} {lo base : Nat} {top : Nat}
theorem Qsn {hp : List Blk} {y : List V × Option (List (List V))} (h : ghO hp = some y) {k : Nat} (hk : 1 ≤ k) : ghO (cutH k hp) = some y := by
 refine Qo6 ?_
 have := Qo5 h
 unfold cutH
 rw [Qk, Zc, if_pos (by omega), this]
 rfl
theorem Qtd (l : List Nat) (fr : Nat → V) (t : Nat) : lkp (l.map fun t => (t, fr t)) t = fr t ∨ lkp (l.map fun t => (t, fr t)) t = .u := by
 induction l with
 | nil => exact .inr rfl
 | cons k l ih =>
  simp only [Zb, lkp]
  split
  ·rename_i e; subst e; exact .inl rfl
  ·exact ih
theorem Za6 (l : List Nat) (fr : Nat → V) (t : Nat) (h : t ∉ l) : lkp (l.map fun t => (t, fr t)) t = .u := by
 induction l with
 | nil => rfl
 | cons k l ih =>
  simp only [List.mem_cons, not_or] at h
  simp only [Zb, lkp]
  rw [if_neg h.1]
  exact ih h.2
theorem Qwt {S : Nat → Prop} {w : World} {O : OInfo} {fr : Nat → V} {a : Act} (h : FrM S w O fr a) (l : List Nat) : FrM S w O (lkp (l.map fun t => (t, fr t))) a := by
 intro t
 rcases Qtd l fr t with e | e
 ·rw [e]; exact h t
 ·rw [e]; simp [Rep]
theorem At.keep {S : Nat → Prop} {w : World} {O : OInfo} {σ : St} {a : Act} (h : At C M S w O σ a) (l : List Nat) : At C M S w O ⟨lkp (l.map fun t => (t, σ.fr t)), σ.hp⟩ a :=
 ⟨h.ctx, ⟨h.sr.size, h.sr.kept, Qwt h.sr.fr l, h.sr.mat⟩⟩
theorem At.drp (hC : CtxOk P F n M C lo top base) {S : Nat → Prop} {w : World} {O : OInfo} {σ : St} {a : Act} (h : At C M S w O σ a) {k : Nat} (hk : lo ≤ k) :
  At C M (cutS S O k) w (Qcd O k) ⟨fun t => cutV σ.hp k (σ.fr t), cutH k σ.hp⟩ a :=
 ⟨hC.cut h.ctx hk fun hl y hy => Qsn hy (by omega), ⟨h.sr.size, h.sr.kept, fun t => Qjw h.sr.mat k _ _ (h.sr.fr t), Qme h.sr.mat k⟩⟩
theorem At.kp (hC : CtxOk P F n M C lo top base) {S : Nat → Prop} {w : World} {O : OInfo} {σ : St} {a : Act} (h : At C M S w O σ a) (l : List Nat) (d : Option Nat) (hd : ∀ k, d = some k → lo ≤ k) :
  ∃ S' O', At C M S' w O' (Fam.kp l d σ) a := by
 cases d with
 | none => exact ⟨S, O, h.keep l⟩
 | some k => exact ⟨_, _, (h.drp hC (hd k rfl)).keep l⟩
theorem Later.evol {S : Nat → Prop} {w w' : World} {O : OInfo} (h : Later w w') (hS : ∀ k, S k → k < w.heap.size) (hO : ∀ k, Own O k → k < w.heap.size) : Evol S S w w' O O :=
 ⟨⟨fun k hk => ⟨hk, h.old k (hS k hk)⟩, fun id g ob ho => ⟨g, ob, ho, Qf _, fun _ => ⟨rfl, fun b cur e hb hh => ⟨cur, (h.old b (hO b ⟨id, g, by rw [ho, hb]⟩)).trans hh, rfl⟩⟩⟩⟩,
  h.os, h.tape, h.output, h.size, h.fz, fun k hk _ => h.old k hk, fun _ h => .inl h, fun _ h => .inl h⟩
theorem Qd3 (hG : GOk P Γ) (hF : Qc7 F) {ops : Array Oper} {g : Bool} {b0 : Nat} (hg : g = false → ∀ o ∈ ops, o.guard = none) {Q : Exit → Act → World → Prop} {K : St → Prop} (rest : List Nat) :
  ∀ (l : List RO) (k : Nat) (σ : St) (S : Nat → Prop) (w : World) (O : OInfo) (a : Act), (∀ q r, l[q]? = some r → ∃ o, ops[k + q]? = some o ∧ resO P pu M.nm ops o = some { r with nid := none }) →
   runR Γ (Qb1 P) g b0 l σ K → SR M S w O σ a →
   (∀ τ S' w' O' a', K τ → (∀ y, ghO σ.hp = some y → ghO τ.hp = some y) → Evol S S' w w' O O' → SR M S' w' O' τ a' → a'.defers = a.defers → wpOpsIn F n P ops Q rest a' w') →
   wpOpsIn F n P ops Q (Qe k l.length ++ rest) a w := by
 intro l
 induction l with
 | nil => intro k σ S w O a _ hrun hsr hK; exact hK σ S w O a hrun (fun _ h => h) (Evol.refl _ _ _) hsr rfl
 | cons r l ih =>
  intro k σ S w O a hops hrun hsr hK
  obtain ⟨hok, hrun⟩ := hrun
  rw [Q6, Qo, Zi, wpOpsIn_cons]
  obtain ⟨o, ho, hro⟩ := hops 0 r rfl
  refine Qkn hG hF ho hro (fun hgf => hg hgf o (Array.mem_of_getElem? ho)) hsr hok ?_
  intro S' w' O' a' hev hsr' hdef
  refine ih (k + 1) _ S' w' O' a' ?_ hrun hsr' fun τ S'' w'' O'' a'' hKτ hgh hev' hsr'' hdef' => hK τ S'' w'' O'' a'' hKτ (fun y hy => hgh y (Ql3 hok hy)) (hev.trans hev') hsr'' (hdef'.trans hdef)
  intro q r' hr'
  have := hops (q + 1) r' (by simpa using hr')
  rwa [Nat.add_comm q 1, ← Nat.add_assoc] at this
theorem Qwi {S : Nat → Prop} {w : World} {O : OInfo} {fr : Nat → V} {a : Act} (h : FrM S w O fr a) {k' : Operand} {k1 : Od} {t : Bool} (h0 : rOd P 0 k' = some k1) (hk : evO fr k1 = .b t) : a.eval k' = .bool t := by
 have hrep : Rep S w O (evO fr k1) (a.eval k') := by
  cases k' with
  | tmp t' => simp only [rOd, Qb.injEq] at h0; subst h0; exact h t'
  | const v =>
   simp only [rOd, Qa] at h0
   obtain ⟨v', hv, rfl⟩ := h0
   exact Quv hv S w O
  | func f => simp only [rOd, Qb.injEq] at h0; subst h0; simp [evO] at hk
  | global g => simp [rOd] at h0
 rw [hk] at hrep
 simpa [Rep] using hrep
theorem Qse {S : Nat → Prop} {w : World} {O : OInfo} {fr : Nat → V} {a : Act} (h : FrM S w O fr a) {k' : Operand} {k1 : Od} (h0 : rOd P 0 k' = some k1) : Rep S w O (evO fr k1) (a.eval k') := by
 cases k' with
 | tmp t' => simp only [rOd, Qb.injEq] at h0; subst h0; exact h t'
 | const v =>
  simp only [rOd, Qa] at h0
  obtain ⟨v', hv, rfl⟩ := h0
  exact Quv hv S w O
 | func f =>
  simp only [rOd, Qb.injEq] at h0
  subst h0
  simp only [evO, Act.eval, Rep]
  exact ⟨#[], rfl, rfl, by simp [RepL]⟩
 | global g => simp [rOd] at h0
theorem Qby {d : Nat} (h : Qhd M.nm (some d) = true) : d < M.n ∧ M.md ≤ d := by
 simp only [Qhd, Qc] at h
 exact ⟨of_decide_eq_true h.1, of_decide_eq_true h.2⟩
theorem Qtn (hF : Qc7 F) {N : Nat × Nat} {id' : Nat} {o1 o2 : Oper} {d m it : Nat} {ops : Array Oper} (hops : ops.toList = [o1, o2]) (hx : Qzz M.nm o1 o2 d m it = true)
  {Q : Exit → St → Prop} {Q' : Exit → Act → World → Prop} {σ : St} {S : Nat → Prop} {w : World} {O : OInfo} {a : Act} (hw : wpR Γ (Qb1 P) (.nxt d m it) Q σ) (hsr : SR M S w O σ a)
  (hQ : ∀ σ' w' a', Q .normal σ' → Evol S S w w' O O → (∀ y, ghO σ.hp = some y → ghO σ'.hp = some y) → SR M S w' O σ' a' → a'.defers = a.defers → Q' .normal a' w') : (Code.region id' ops false).wpIn F n P Q' a w := by
 have hops' : ops = #[o1, o2] := by rw [← hops]
 subst hops'
 unfold Qzz at hx
 simp only [Qc] at hx
 obtain ⟨hx1, hx2⟩ := hx
 split at hx1
 ·rename_i d' it' hd1 hop1 hg1
  split at hx2
  ·rename_i m' d'' hd2 hop2 hg2
   simp only [Qc, beq_iff_eq] at hx1 hx2
   obtain ⟨⟨rfl, rfl⟩, hdl⟩ := hx1
   obtain ⟨⟨rfl, rfl⟩, hml⟩ := hx2
   have hdl : d'' < M.n ∧ M.md ≤ d'' := Qby hdl
   have hml : m' < M.n ∧ M.md ≤ m' := Qby hml
   simp only [wpR] at hw
   have r1 := hsr.fr it'
   cases hit : σ.fr it' <;> simp only [hit] at hw <;> try exact hw.elim
   case it id g =>
    rw [hit] at r1
    cases hid : σ.hp[id]? with
    | none => simp [hid] at hw
    | some bk =>
     cases bk <;> simp only [hid] at hw <;> try exact hw.elim
     case iter mid nn left cur =>
      cases hmid : σ.hp[mid]? with
      | none => simp [hmid] at hw
      | some bk2 =>
       cases bk2 <;> simp only [hmid] at hw <;> try exact hw.elim
       case map st ks vs =>
        obtain ⟨rfl, hn, hw0, hw1⟩ := hw
        simp only [Rep] at r1
        obtain ⟨_, g', ob, hO, _, h1⟩ := r1
        have hbk := hsr.mat.blk id g' ob hO
        rw [hid] at hbk
        simp only [Qbb] at hbk
        obtain ⟨rfl, b, mm, seen, rfl, hbi, hmp, hnd, hleft, hcur⟩ := hbk
        obtain ⟨b', hb', hc⟩ := h1 rfl
        cases hb'
        have hmp' : Rep S w O (.mp mid 0) (.map (some mm)) := by simp only [Rep]; exact hmp
        obtain ⟨b2, es, hO2, hc2, hb2, hes, hvs, hvl, hnd2, hst1⟩ := Qem hsr.mat hmp' hmid rfl
        cases hc2
        have hes' := Qcx hes
        have hborn : ∀ x ∈ es.toList, x.born < nn := by
         intro x hx
         obtain ⟨i, hi⟩ := Q0 hx
         rw [Array.getElem?_toList] at hi
         have h1 := hes.2 i x hi
         have h2 := (Array.getElem?_eq_some_iff.1 hi).1
         omega
        have hmem : ∀ j e, es[j]? = some e → j ∉ seen.toList → e ∈ (leftOf es seen).toList := by
         intro j e he hj
         have := hes.2 j e he
         simp only [leftOf, Array.toList_filter, Q8]
         refine ⟨by have := Array.mem_of_getElem? he; simpa using this, ?_⟩
         rw [this]; simpa using hj
        have hfr2 : ∀ (c : Value) (bb : Bool) (w' : World), Evol S S w w' O O → Rep S w' O (.b bb) (.bool bb) := fun _ _ _ _ => by simp [Rep]
        have fin : ∀ (tv : Array Value) (bb : Bool) (w' : World) (hp' : List Blk), (execOp a.eval o1).run P w = .ok (.value (.tuple tv)) w' → tv[0]? = some (.bool bb) → Evol S S w w' O O → Mat S w' O hp' →
          (∀ y, ghO σ.hp = some y → ghO hp' = some y) → Q .normal ⟨upd (upd σ.fr (some d'') .u) (some m') (.b bb), hp'⟩ → (Code.region id' #[o1, o2] false).wpIn F n P Q' a w := by
         intro tv bb w' hp' hrun htv hev hmat hgh hQn
         refine wpIn_region ?_
         show wpOpsIn F n P #[o1, o2] Q' [0, 1] a w
         rw [wpOpsIn_cons]
         simp only [wpOpIn, Q9, Qq]
         have hw1 : Region.wanted o1 (yielded #[o1, o2] a.tmps) = true := by simp [Region.wanted, hg1]
         rw [if_pos hw1]
         refine Qbf hF (by simp [hop1]) hrun ?_
         rw [wpOpsIn_cons]
         simp only [wpOpIn, Q9, List.getElem?_cons_succ, Qq]
         have hw2 : Region.wanted o2 (yielded #[o1, o2] (a.put o1.dst (.tuple tv)).tmps) = true := by simp [Region.wanted, hg2]
         rw [if_pos hw2]
         have hlt : d'' < a.tmps.size := by rw [hsr.size]; exact hdl.1
         have hdv : (a.put o1.dst (.tuple tv)).tmps.getD d'' undef = .tuple tv := by simp [hd1, Act.put, hlt]
         refine Qbf (w' := w') (c := .bool bb) hF (by simp [hop2]) ?_ ?_
         ·have : (a.put o1.dst (.tuple tv)).eval (.tmp d'') = .tuple tv := hdv
          simp [execOp, hop2, this, Instr.extract, htv]
         ·rw [wpOpsIn]
          refine hQ _ w' _ hQn hev hgh ⟨by rw [Qbk, Qbk]; exact hsr.size, ?_, ?_, hmat⟩ (by rw [Qb6, Qb6])
          ·intro t ht
           rw [Qen _ _ _ _ (by intro d0 h0; rw [hd2] at h0; cases h0; omega), Qen _ _ _ _ (by intro d0 h0; rw [hd1] at h0; cases h0; omega)]
           exact hsr.kept t ht
          ·have f1 : FrM S w' O (upd σ.fr (some d'') .u) (a.put o1.dst (.tuple tv)) := by
            rw [hd1]
            exact FrM.put hsr.fr hev.ext (fun d0 h0 => by cases h0; exact hlt) (by simp [Rep])
           rw [hd2]
           exact FrM.put (dst := some m') f1 (Ext.refl _ _ _) (fun d0 h0 => by cases h0; rw [Qbk, hsr.size]; exact hml.1) (by simp [Rep])
        rcases run_next_at (P := P) w o1.type b mm nn nn seen es es.size hbi hb2 hborn (Qf _) with ⟨h0, hrun⟩ | ⟨e, he, w1, hw1', hrun⟩
        ·have hl0 : left = [] := by
          rw [List.eq_nil_iff_forall_not_mem]
          intro j hj
          obtain ⟨hj1, hj2⟩ := (hleft j).1 hj
          obtain ⟨e, he⟩ : ∃ e : MapEntry, es[j]? = some e := ⟨_, Array.getElem?_eq_getElem (by omega)⟩
          have := hmem j e he hj2
          have hz : leftOf es seen = #[] := Array.eq_empty_of_size_eq_zero h0
          rw [hz] at this
          simp at this
         refine fin #[.bool false] false w σ.hp ?_ rfl (Evol.refl _ _ _) hsr.mat (fun _ h => h) (hw0 hl0)
         have hit' : a.eval (.tmp it') = .pointer (some ⟨b, 0, none⟩) := hc
         simp only [execOp, hop1, hit', hrun, Sem.run_bind, Result.andThen_ok, Sem.run_pure]
        ·obtain ⟨j, hj⟩ : ∃ j, es[j]? = some e := by
          simp only [leftOf, Array.toList_filter, Q8] at he
          obtain ⟨j, hj⟩ := Q0 he.1
          exact ⟨j, by rwa [Array.getElem?_toList] at hj⟩
         have hjb := hes.2 j e hj
         have hjlt := (Array.getElem?_eq_some_iff.1 hj).1
         have hjs : j ∉ seen.toList := by
          simp only [leftOf, Array.toList_filter, Q8] at he
          have := he.2
          rw [hjb] at this
          simpa using this
         have hjl : j ∈ left := (hleft j).2 ⟨by omega, hjs⟩
         have hidlt := Qaf hid
         obtain ⟨ho, hheap⟩ : (∃ ev : Evol S S w w1 O O, True) ∧ w1.heap = w.heap := by
          rcases hw1' with rfl | rfl
          ·exact ⟨⟨Evol.refl _ _ _, trivial⟩, rfl⟩
          ·exact ⟨⟨Qjz S w O, trivial⟩, rfl⟩
         obtain ⟨ev, _⟩ := ho
         have hm1 : Mat S w1 O σ.hp := by
          rcases hw1' with rfl | rfl
          ·exact hsr.mat
          ·exact Qmv hsr.mat
         obtain ⟨hev, hmat⟩ := Qn4 hm1 hO (o' := .mapIter (some mm) nn (seen.push e.born) nn) (by rw [hheap]; exact hbi) rfl rfl hidlt (x := .iter mid nn (left.erase j) (some j)) fun hx hnew => by
          refine ⟨rfl, b, mm, seen.push e.born, rfl, hnew, ?_, hnd.erase _, fun k => ?_, fun k hk => ?_⟩
          ·exact Rep.ext (ev.ext.trans hx) _ _ hmp'
          ·rw [hnd.mem_erase_iff, hleft k, hjb]
           simp only [Array.toList_push, List.mem_append, List.mem_singleton]
           constructor
           ·rintro ⟨h1, h2, h3⟩; exact ⟨h2, fun h => h.elim h3 h1⟩
           ·rintro ⟨h1, h2⟩; exact ⟨fun h => h2 (.inr h), h1, fun h => h2 (.inl h)⟩
          ·cases hk
           exact ⟨by rw [hjb]; simp, by omega⟩
         refine fin #[.bool true, e.key, e.val] true _ _ ?_ rfl (ev.trans hev) hmat (fun y hy => Qk6 hy hid (fun _ _ h => by cases h)) (hw1 j hjl)
         have hit' : a.eval (.tmp it') = .pointer (some ⟨b, 0, none⟩) := hc
         simp only [execOp, hop1, hit', hrun, Sem.run_bind, Result.andThen_ok, Sem.run_pure]
         rw [hes', hn]
         rfl
  ·cases hx2
 ·cases hx1
theorem Quc {S S' : Nat → Prop} {w w' : World} {O O' : OInfo} {v : V} {c : Value} (h : Zb7 v = true) (hr : Rep S w O v c) : Rep S' w' O' v c := by
 cases v <;> simp only [Zb7] at h <;> first | exact Qmo _ _ h hr | skip
 case yl l => simpa only [Rep] using hr
theorem Qdg {ops : Array Oper} {off cnt : Nat} {r1 : List RO} (h : ((ops.toList.drop off).take cnt).mapM (fun o => resO P pu M.nm ops o) = some r1) : ∀ q r, r1[q]? = some r → ∃ o, ops[off + q]? = some o ∧ resO P pu M.nm ops o = some { r with nid := none } := by
 intro q r hq
 have hm := Qcl h
 have h1 := congrArg (fun l => l[q]?) hm
 simp only [Qk, hq, Qn, Zc, Zd] at h1
 split at h1
 ·rw [Qa] at h1
  obtain ⟨o, ho, hr⟩ := h1
  refine ⟨o, by simpa using ho, ?_⟩
  have := Qjn hr
  rw [hr]
  cases r; simp_all
 ·cases h1
theorem Qup (hG : GOk P Γ) (hF : Qc7 F) (hC : CtxOk P F n M C lo 2 base) {g : Bool} {r1 r2 : List RO} {y : RO} {ks : List Nat} {id : Nat} {ops : Array Oper} {o : Oper} (hgd : (g || Qbz ops) = true)
  (ho : ops[r1.length]? = some o) (h1 : (ops.toList.take r1.length).mapM (fun o => resO P pu M.nm ops o) = some r1) (hy : resY P M.nm ops o = some y) (h2 : (ops.toList.drop (r1.length + 1)).mapM (fun o => resO P pu M.nm ops o) = some r2)
  {Q : Exit → St → Prop} {Q' : Exit → Act → World → Prop} {σ : St} {S : Nat → Prop} {w : World} {O : OInfo} {a : Act} (hw : wpR Γ (Qb1 P) (.yrg g r1 y ks r2) Q σ) (hat : At C M S w O σ a)
  (hQ : ∀ σ' S' w' O' a', Q .normal σ' → At C M S' w' O' σ' a' → Q' .normal a' w') : (Code.region id ops false).wpIn F n P Q' a w := by
 have hgn : g = false → ∀ o ∈ ops, o.guard = none := by
  intro hg o ho
  subst hg
  simp only [Qs, Qbz] at hgd
  have := Array.all_eq_true_iff_forall_mem.1 hgd o ho
  simpa using this
 have hlt := (Array.getElem?_eq_some_iff.1 ho).1
 have hl2 : r2.length = ops.size - (r1.length + 1) := by
  have := congrArg Qt (Qcl h2)
  simpa using this.symm
 refine wpIn_region ?_
 have hrange : Q3 ops.size = Qe 0 r1.length ++ (r1.length :: Qe (r1.length + 1) r2.length) := by
  rw [Ql, ← Qo]
  have := Qp (s := 0) (m := r1.length) (n := r2.length + 1)
  rw [Qu] at this
  rw [this]
  congr 1
  omega
 rw [hrange]
 refine Qd3 hG hF (pu := pu) hgn _ r1 0 σ S w O a (Qdg (off := 0) (cnt := r1.length) (by simpa using h1)) hw hat.sr ?_
 intro σ1 S1 w1 O1 a1 hw1 hgh1 hev1 hsr1 hd1
 have hat1 : At C M S1 w1 O1 σ1 a1 := ⟨by rw [hd1]; exact hC.evol hat.ctx hat.sr.mat.lt hev1 hgh1, hsr1⟩
 have rest : ∀ (σ2 : St) S2 w2 O2 a2, At C M S2 w2 O2 σ2 a2 → runR Γ (Qb1 P) g 0 r2 σ2 (Q .normal) → wpOpsIn F n P ops Q' (Qe (r1.length + 1) r2.length) a2 w2 := by
  intro σ2 S2 w2 O2 a2 hat2 hrun
  have := Qd3 hG hF (pu := pu) (n := n) (Q := Q') hgn [] r2 (r1.length + 1) σ2 S2 w2 O2 a2 (Qdg (off := r1.length + 1) (cnt := ops.size) (by
   rw [Qg (by simp)]; exact h2)) hrun hat2.sr (fun τ S' w' O' a' hK hgh hev hsr hd => by
    rw [wpOpsIn]
    exact hQ τ S' w' O' a' hK ⟨by rw [hd]; exact hC.evol hat2.ctx hat2.sr.mat.lt hev hgh, hsr⟩)
  simpa using this
 have hrO : ∀ (q : Nat) (r : RO), r2[q]? = some r → True := fun _ _ _ => trivial
 rw [wpOpsIn_cons]
 simp only [wpOpIn, ho]
 unfold resY at hy
 split at hy
 ·rename_i hds
  simp only [Qc] at hds
  obtain ⟨d, hd⟩ : ∃ d, o.dst = some d := by
   cases h : o.dst with
   | none => simp [h] at hds
   | some d => exact ⟨d, rfl⟩
  have hdl : d < M.n ∧ M.md ≤ d := by have := hds.1; rw [hd] at this; exact Qby this
  have hdsz : d < a1.tmps.size := by rw [hsr1.size]; exact hdl.1
  split at hy
  ·rename_i gd fx hgdo hroc
   obtain ⟨f, xs⟩ := fx
   simp only [Qb.injEq] at hy
   subst hy
   simp only [hd] at hw1
   have hkept : ∀ (c : Value) t, t < M.md → (a1.put o.dst c).tmps.getD t undef = M.T t := fun c t ht => (Qen a1 o.dst c t fun d' hd' => by rw [hd] at hd'; cases hd'; omega).trans (hsr1.kept t ht)
   have wantc : ∀ c, Qd6 σ1.fr gd = some c → Region.wanted o (yielded ops a1.tmps) = c := by
    intro c hc
    cases hgo : o.guard with
    | none =>
     rw [hgo] at hgdo
     simp only [gdOf, Qb.injEq] at hgdo
     subst hgdo
     simp only [Qd6, Qb.injEq] at hc
     simp [Region.wanted, hgo, ← hc]
    | some jw =>
     obtain ⟨j, want⟩ := jw
     rw [hgo] at hgdo
     simp only [gdOf, Qa] at hgdo
     obtain ⟨s, hs, rfl⟩ := hgdo
     exact Qgm hsr1.fr hgo hs hc
   cases hc : Qd6 σ1.fr gd with
   | none => simp [hc] at hw1
   | some c =>
    have hwant := wantc c hc
    rw [hwant]
    cases c with
    | false =>
     rw [if_neg (by simp)]
     simp only [hc] at hw1
     refine ⟨fun f _ => hF.1 f, ?_⟩
     refine rest ⟨upd σ1.fr (some d) (.gv false .u), σ1.hp⟩ S1 w1 O1 _ ⟨by rw [Qb6]; exact hat1.ctx, ⟨by rw [Qbk]; exact hsr1.size, hkept _, ?_, hsr1.mat⟩⟩ hw1
     rw [hd]
     exact FrM.put (dst := some d) hsr1.fr (Ext.refl _ _ _) (fun d0 h0 => by cases h0; exact hdsz) (by simp only [Rep]; exact ⟨fun h => (by cases h), fun _ => trivial⟩)
    | true =>
     rw [if_pos rfl]
     simp only [hc] at hw1
     split at hw1
     ·rename_i l caps x rs hfv hhp
      obtain ⟨hneed, hc0, hargs, hflat, hks, hK⟩ := hw1
      have hgh : ghO σ1.hp = some (caps, some (x :: rs)) := by rw [hhp]; rfl
      have hno : ∀ id, O1 id = none := by
       intro id
       cases hO : O1 id with
       | none => rfl
       | some p =>
        exfalso
        have hb := hsr1.mat.blk id p.1 p.2 hO
        rw [hhp] at hb
        cases id with
        | zero => exact hb.elim
        | succ id => exact hb.elim
      have hods : Qd9 P S1 w1 O1 (opv g σ1.fr) a1.eval o := by
       cases g with
       | false => exact Qc6 hsr1.fr o
       | true => exact Qbr hsr1.fr o hneed
      unfold Qfq at hroc
      unfold Qd9 at hods
      cases hop : o.op <;> rw [hop] at hroc hods <;> simp only [Op.operands] at hods <;> first | (simp at hroc; done) | (try dsimp only at hroc)
      case call cl =>
       split at hroc
       ·rename_i f0 hcal
        simp only [Qi, Qd, Qm, Qb.injEq, Prod.mk.injEq] at hroc
        obtain ⟨f', hf, ods, hodse, rfl, rfl⟩ := hroc
        have q1 := hods f0 (by simp [Call.operands, hcal]) _ _ hf
        have qs := Qcs _ _ _ hodse (fun x hx => hods x (by simp only [Call.operands, Array.mem_append]; exact .inr (by simpa using hx)))
        rw [hfv] at q1
        have hcv : a1.eval f0 = .func (.yield l) #[] #[] := by simpa only [Rep] using q1
        have hxrep : RepL (fun _ => False) w1 noO x (cl.args.map a1.eval).toList := by
         rw [← hargs] at hflat ⊢
         exact Qhh _ _ hflat (by simpa using qs.1)
        have hcx : (cl.args.map a1.eval).size = x.length := by rw [← hargs]; simp [qs.2]
        have hyl := hC.yld rfl (by have := hat1.ctx; rw [hgh] at this; exact this) hsr1.mat.lt hno hc0 hxrep hcx
        obtain ⟨fn, tm, as0, bd, hyr, hround⟩ := hyl
        refine ⟨fun f _ => hF.1 f, ?_⟩
        rw [Oper.semAt_eq _ _ _ (by simp [hop])]
        have hex : (execOp a1.eval o).run P w1 = .ok (.round l fn tm as0 bd) w1 := by
         have hdv : (resolve a1.eval cl o.type).run P w1 = .ok { target := .fn (.yield l) #[], args := cl.args.map a1.eval } w1 := by
          simp [resolve, hcal, hcv, Deferred.ofValue]
         simp only [execOp, hop, Sem.run_bind, hdv, Result.andThen_ok, invoke]
         exact hyr
        rw [hex, Oper.uponIn_round]
        refine ⟨fun hh => by simp [hF.2.1] at hh, hround.mono ?_⟩
        rintro e w2 ⟨b, S2, rfl, hctx, hlt2, hcaps⟩
        have := hK b
        refine rest _ S2 w2 noO _ ⟨by rw [Qb6]; exact hctx, ⟨by rw [Qbk]; exact hsr1.size, hkept _, ?_, ⟨hlt2, fun _ _ _ h => (by cases h), fun _ _ _ _ _ h => (by cases h), fun _ _ _ h => (by cases h)⟩⟩⟩ this
        intro t
        simp only [hd, upd, Act.put]
        split
        ·rename_i e; subst e
         have : (a1.tmps.setIfInBounds t (.bool b)).getD t undef = .bool b := by simp [hdsz]
         rw [this]
         unfold yres
         cases gd <;> simp [Rep]
        ·rename_i e
         have hne : (a1.tmps.setIfInBounds d (.bool b)).getD t undef = a1.tmps.getD t undef := by simp [Array.getElem?_setIfInBounds_ne (Ne.symm e)]
         rw [hne]
         rcases Qtd ks σ1.fr t with h0 | h0
         ·unfold slots
          rw [h0]
          by_cases htk : t ∈ ks
          ·rcases hks t htk with h3 | h3
           ·exact Quc h3 (hsr1.fr t)
           ·obtain ⟨h4, h5⟩ := hcaps t _ h3
            have := hsr1.kept t h4
            rw [this]; exact h5
          ·have : lkp (ks.map fun t => (t, σ1.fr t)) t = .u := Za6 _ _ _ htk
           rw [← h0, this]; simp [Rep]
         ·unfold slots; rw [h0]; simp [Rep]
       ·cases hroc
     ·exact hw1.elim
  ·cases hy
 ·cases hy
theorem Qqf {S : Nat → Prop} {w : World} {O : OInfo} {a : Blk} {tl : List Blk} (h : Mat S w O (a :: tl)) (ha : ∀ g ob, ¬ Qbb S w O g ob (some a)) (b : Blk) : Mat S w O (b :: tl) := by
 refine ⟨h.lt, h.own, h.inj, fun id g ob ho => ?_⟩
 have := h.blk id g ob ho
 cases id with
 | zero => exact absurd this (ha g ob)
 | succ id => exact this
theorem Quq (hG : GOk P Γ) (hF : Qc7 F) (hal : ∀ bv, M.al bv → Γ.al bv) (hC : CtxOk P F n M C lo 3 base) {g : Bool} {r1 r2 : List RO} {y : RO} {id : Nat} {ops : Array Oper} {o : Oper} (hgd : (g || Qbz ops) = true)
  (ho : ops[r1.length]? = some o) (h1 : (ops.toList.take r1.length).mapM (fun o => resO P pu M.nm ops o) = some r1) (hy : resY P M.nm ops o = some y) (h2 : (ops.toList.drop (r1.length + 1)).mapM (fun o => resO P pu M.nm ops o) = some r2)
  {Q : Exit → St → Prop} {Q' : Exit → Act → World → Prop} {σ : St} {S : Nat → Prop} {w : World} {O : OInfo} {a : Act} (hw : wpR Γ (Qb1 P) (.yrh g r1 y r2) Q σ) (hat : At C M S w O σ a)
  (hQ : ∀ σ' S' w' O' a', Q .normal σ' → At C M S' w' O' σ' a' → Q' .normal a' w') : (Code.region id ops false).wpIn F n P Q' a w := by
 have hgn : g = false → ∀ o ∈ ops, o.guard = none := by
  intro hg o ho
  subst hg
  simp only [Qs, Qbz] at hgd
  have := Array.all_eq_true_iff_forall_mem.1 hgd o ho
  simpa using this
 have hlt := (Array.getElem?_eq_some_iff.1 ho).1
 have hl2 : r2.length = ops.size - (r1.length + 1) := by
  have := congrArg Qt (Qcl h2)
  simpa using this.symm
 refine wpIn_region ?_
 have hrange : Q3 ops.size = Qe 0 r1.length ++ (r1.length :: Qe (r1.length + 1) r2.length) := by
  rw [Ql, ← Qo]
  have := Qp (s := 0) (m := r1.length) (n := r2.length + 1)
  rw [Qu] at this
  rw [this]
  congr 1
  omega
 rw [hrange]
 refine Qd3 hG hF (pu := pu) hgn _ r1 0 σ S w O a (Qdg (off := 0) (cnt := r1.length) (by simpa using h1)) hw hat.sr ?_
 intro σ1 S1 w1 O1 a1 hw1 hgh1 hev1 hsr1 hd1
 have hat1 : At C M S1 w1 O1 σ1 a1 := ⟨by rw [hd1]; exact hC.evol hat.ctx hat.sr.mat.lt hev1 hgh1, hsr1⟩
 have rest : ∀ (σ2 : St) S2 w2 O2 a2, At C M S2 w2 O2 σ2 a2 → runR Γ (Qb1 P) g 0 r2 σ2 (Q .normal) → wpOpsIn F n P ops Q' (Qe (r1.length + 1) r2.length) a2 w2 := by
  intro σ2 S2 w2 O2 a2 hat2 hrun
  have := Qd3 hG hF (pu := pu) (n := n) (Q := Q') hgn [] r2 (r1.length + 1) σ2 S2 w2 O2 a2 (Qdg (off := r1.length + 1) (cnt := ops.size) (by
   rw [Qg (by simp)]; exact h2)) hrun hat2.sr (fun τ S' w' O' a' hK hgh hev hsr hd => by
    rw [wpOpsIn]
    exact hQ τ S' w' O' a' hK ⟨by rw [hd]; exact hC.evol hat2.ctx hat2.sr.mat.lt hev hgh, hsr⟩)
  simpa using this
 have hrO : ∀ (q : Nat) (r : RO), r2[q]? = some r → True := fun _ _ _ => trivial
 rw [wpOpsIn_cons]
 simp only [wpOpIn, ho]
 unfold resY at hy
 split at hy
 ·rename_i hds
  simp only [Qc] at hds
  obtain ⟨d, hd⟩ : ∃ d, o.dst = some d := by
   cases h : o.dst with
   | none => simp [h] at hds
   | some d => exact ⟨d, rfl⟩
  have hdl : d < M.n ∧ M.md ≤ d := by have := hds.1; rw [hd] at this; exact Qby this
  have hdsz : d < a1.tmps.size := by rw [hsr1.size]; exact hdl.1
  split at hy
  ·rename_i gd fx hgdo hroc
   obtain ⟨f, xs⟩ := fx
   simp only [Qb.injEq] at hy
   subst hy
   simp only [hd] at hw1
   have hkept : ∀ (c : Value) t, t < M.md → (a1.put o.dst c).tmps.getD t undef = M.T t := fun c t ht => (Qen a1 o.dst c t fun d' hd' => by rw [hd] at hd'; cases hd'; omega).trans (hsr1.kept t ht)
   have wantc : ∀ c, Qd6 σ1.fr gd = some c → Region.wanted o (yielded ops a1.tmps) = c := by
    intro c hc
    cases hgo : o.guard with
    | none =>
     rw [hgo] at hgdo
     simp only [gdOf, Qb.injEq] at hgdo
     subst hgdo
     simp only [Qd6, Qb.injEq] at hc
     simp [Region.wanted, hgo, ← hc]
    | some jw =>
     obtain ⟨j, want⟩ := jw
     rw [hgo] at hgdo
     simp only [gdOf, Qa] at hgdo
     obtain ⟨s, hs, rfl⟩ := hgdo
     exact Qgm hsr1.fr hgo hs hc
   cases hc : Qd6 σ1.fr gd with
   | none => simp [hc] at hw1
   | some c =>
    have hwant := wantc c hc
    rw [hwant]
    cases c with
    | false =>
     rw [if_neg (by simp)]
     simp only [hc] at hw1
     refine ⟨fun f _ => hF.1 f, ?_⟩
     refine rest ⟨upd σ1.fr (some d) (.gv false .u), σ1.hp⟩ S1 w1 O1 _ ⟨by rw [Qb6]; exact hat1.ctx, ⟨by rw [Qbk]; exact hsr1.size, hkept _, ?_, hsr1.mat⟩⟩ hw1
     rw [hd]
     exact FrM.put (dst := some d) hsr1.fr (Ext.refl _ _ _) (fun d0 h0 => by cases h0; exact hdsz) (by simp only [Rep]; exact ⟨fun h => (by cases h), fun _ => trivial⟩)
    | true =>
     rw [if_pos rfl]
     simp only [hc] at hw1
     split at hw1
     ·rename_i l caps bv x z rs tl hfv hhp
      obtain ⟨hneed, hc0, hargs, htl, hK⟩ := hw1
      have hgh : ghO σ1.hp = some (caps, some (gyA true bv :: gyE x z :: rs)) := by rw [hhp]; rfl
      have hmat : Mat S1 w1 O1 (.hole :: (bv ++ z).map vB) := by
       have := hsr1.mat
       rw [hhp, htl] at this
       exact Qqf this (fun _ _ h => h) _
      have hods : Qd9 P S1 w1 O1 (opv g σ1.fr) a1.eval o := by
       cases g with
       | false => exact Qc6 hsr1.fr o
       | true => exact Qbr hsr1.fr o hneed
      unfold Qfq at hroc
      unfold Qd9 at hods
      cases hop : o.op <;> rw [hop] at hroc hods <;> simp only [Op.operands] at hods <;> first | (simp at hroc; done) | (try dsimp only at hroc)
      case call cl =>
       split at hroc
       ·rename_i f0 hcal
        simp only [Qi, Qd, Qm, Qb.injEq, Prod.mk.injEq] at hroc
        obtain ⟨f', hf, ods, hodse, rfl, rfl⟩ := hroc
        have q1 := hods f0 (by simp [Call.operands, hcal]) _ _ hf
        have qs := Qcs _ _ _ hodse (fun x hx => hods x (by simp only [Call.operands, Array.mem_append]; exact .inr (by simpa using hx)))
        rw [hfv] at q1
        have hcv : a1.eval f0 = .func (.yield l) #[] #[] := by simpa only [Rep] using q1
        have hxrep : RepL S1 w1 O1 x (cl.args.map a1.eval).toList := by
         rw [← hargs]; simpa using qs.1
        have hcx : (cl.args.map a1.eval).size = x.length := by rw [← hargs]; simp [qs.2]
        have hyl := hC.yldh rfl (m := n - 1) (by have := hat1.ctx; rw [hgh] at this; exact this) hmat hc0 hxrep hcx
        obtain ⟨fn, tm, as0, bd, hyr, hround⟩ := hyl
        refine ⟨fun f _ => hF.1 f, ?_⟩
        rw [Oper.semAt_eq _ _ _ (by simp [hop])]
        have hex : (execOp a1.eval o).run P w1 = .ok (.round l fn tm as0 bd) w1 := by
         have hdv : (resolve a1.eval cl o.type).run P w1 = .ok { target := .fn (.yield l) #[], args := cl.args.map a1.eval } w1 := by
          simp [resolve, hcal, hcv, Deferred.ofValue]
         simp only [execOp, hop, Sem.run_bind, hdv, Result.andThen_ok, invoke]
         exact hyr
        rw [hex, Oper.uponIn_round]
        refine ⟨fun hh => by simp [hF.2.1] at hh, hround.mono ?_⟩
        rintro e w2 ⟨b, S2, O2, bv', rfl, hal2, hctx, hext, hmat2⟩
        have := hK b bv' (hal bv' hal2)
        refine rest _ S2 w2 O2 _ ⟨by rw [Qb6]; exact hctx, ⟨by rw [Qbk]; exact hsr1.size, hkept _, ?_, Qqf hmat2 (fun _ _ h => h) _⟩⟩ this
        rw [hd]
        refine FrM.put (dst := some d) hsr1.fr hext (fun d0 h0 => by cases h0; exact hdsz) ?_
        unfold yres
        cases gd <;> simp [Rep]
       ·cases hroc
     ·exact hw1.elim
  ·cases hy
 ·cases hy
theorem Quo (hG : GOk P Γ) (hF : Qc7 F) (hal : ∀ bv, M.al bv → Γ.al bv) (hro : F.round = none) (hC : CtxOk P F n M C lo 3 base) {g : Bool} {r1 r2 : List RO} {y : RO} {id : Nat} {ops : Array Oper} {o : Oper} (hgd : (g || Qbz ops) = true)
  (ho : ops[r1.length]? = some o) (h1 : (ops.toList.take r1.length).mapM (fun o => resO P pu M.nm ops o) = some r1) (hy : resC P M.nm o = some y) (h2 : (ops.toList.drop (r1.length + 1)).mapM (fun o => resO P pu M.nm ops o) = some r2)
  {Q : Exit → St → Prop} {Q' : Exit → Act → World → Prop} {σ : St} {S : Nat → Prop} {w : World} {O : OInfo} {a : Act} (hw : wpR Γ (Qb1 P) (.ycl lo g r1 y r2) Q σ) (hat : At C M S w O σ a)
  (hQ : ∀ σ' S' w' O' a', Q .normal σ' → At C M S' w' O' σ' a' → Q' .normal a' w') : (Code.region id ops false).wpIn F n P Q' a w := by
 have hgn : g = false → ∀ o ∈ ops, o.guard = none := by
  intro hg o ho
  subst hg
  simp only [Qs, Qbz] at hgd
  have := Array.all_eq_true_iff_forall_mem.1 hgd o ho
  simpa using this
 have hlt := (Array.getElem?_eq_some_iff.1 ho).1
 have hl2 : r2.length = ops.size - (r1.length + 1) := by
  have := congrArg Qt (Qcl h2)
  simpa using this.symm
 refine wpIn_region ?_
 have hrange : Q3 ops.size = Qe 0 r1.length ++ (r1.length :: Qe (r1.length + 1) r2.length) := by
  rw [Ql, ← Qo]
  have := Qp (s := 0) (m := r1.length) (n := r2.length + 1)
  rw [Qu] at this
  rw [this]
  congr 1
  omega
 rw [hrange]
 refine Qd3 hG hF (pu := pu) hgn _ r1 0 σ S w O a (Qdg (off := 0) (cnt := r1.length) (by simpa using h1)) hw hat.sr ?_
 intro σ1 S1 w1 O1 a1 hw1 hgh1 hev1 hsr1 hd1
 have hat1 : At C M S1 w1 O1 σ1 a1 := ⟨by rw [hd1]; exact hC.evol hat.ctx hat.sr.mat.lt hev1 hgh1, hsr1⟩
 have rest : ∀ (σ2 : St) S2 w2 O2 a2, At C M S2 w2 O2 σ2 a2 → runR Γ (Qb1 P) g 0 r2 σ2 (Q .normal) → wpOpsIn F n P ops Q' (Qe (r1.length + 1) r2.length) a2 w2 := by
  intro σ2 S2 w2 O2 a2 hat2 hrun
  have := Qd3 hG hF (pu := pu) (n := n) (Q := Q') hgn [] r2 (r1.length + 1) σ2 S2 w2 O2 a2 (Qdg (off := r1.length + 1) (cnt := ops.size) (by
   rw [Qg (by simp)]; exact h2)) hrun hat2.sr (fun τ S' w' O' a' hK hgh hev hsr hd => by
    rw [wpOpsIn]
    exact hQ τ S' w' O' a' hK ⟨by rw [hd]; exact hC.evol hat2.ctx hat2.sr.mat.lt hev hgh, hsr⟩)
  simpa using this
 rw [wpOpsIn_cons]
 simp only [wpOpIn, ho]
 unfold resC at hy
 split at hy
 ·rename_i hds
  simp only [Qc] at hds
  obtain ⟨hdo, hgo⟩ := hds
  have hgo' : o.guard = none := by simpa using hgo
  rw [Qa] at hy
  obtain ⟨⟨f, xs⟩, hroc, rfl⟩ := hy
  simp only at hw1
  have hdl : ∀ d, o.dst = some d → d < M.n ∧ M.md ≤ d := fun d hd => by rw [hd] at hdo; exact Qby hdo
  have hkept : ∀ (c : Value) t, t < M.md → (a1.put o.dst c).tmps.getD t undef = M.T t := fun c t ht => (Qen a1 o.dst c t fun d' hd' => by have := (hdl d' hd').2; omega).trans (hsr1.kept t ht)
  have hwant : Region.wanted o (yielded ops a1.tmps) = true := by simp [Region.wanted, hgo']
  rw [if_pos hwant]
  split at hw1
  ·rename_i gf caps hfv
   obtain ⟨hneed, hlen, hpre, hK⟩ := hw1
   obtain ⟨hen, hheap⟩ := hG.yc gf _ _ _ hpre
   have hods : Qd9 P S1 w1 O1 (opv g σ1.fr) a1.eval o := by
    cases g with
    | false => exact Qc6 hsr1.fr o
    | true => exact Qbr hsr1.fr o hneed
   unfold Qfq at hroc
   unfold Qd9 at hods
   cases hop : o.op <;> rw [hop] at hroc hods <;> simp only [Op.operands] at hods <;> first | (simp at hroc; done) | (try dsimp only at hroc)
   case call cl =>
    split at hroc
    ·rename_i f0 hcal
     simp only [Qi, Qd, Qm, Qb.injEq, Prod.mk.injEq] at hroc
     obtain ⟨f', hf, ods, hodse, rfl, rfl⟩ := hroc
     have q1 := hods f0 (by simp [Call.operands, hcal]) _ _ hf
     have qs := Qcs _ _ _ hodse (fun x hx => hods x (by simp only [Call.operands, Array.mem_append]; exact .inr (by simpa using hx)))
     rw [hfv] at q1
     simp only [Rep] at q1
     obtain ⟨ccs, hc, hn, hrl⟩ := q1
     have hall := RepL.append _ _ _ _ qs.1 (by simp [qs.2]) hrl
     have hyok : YOk P F Γ.al lo fun S w O h => C S w O a1.defers h := by
      refine ⟨fun h hlt ev hg => hC.evol h hlt ev hg, fun h hk hg => hC.cut h hk fun _ => hg, fun {S w O caps bv x z rest cx l m} h hm hl hx hs => ?_⟩
      obtain ⟨fn, tm, as0, bd, hyr, hround⟩ := hC.yldh rfl (m := m) h hm hl hx hs
      refine ⟨fn, tm, as0, bd, hyr, hround.mono ?_⟩
      rintro e W' ⟨b, S', O', bv', h1, h2, h3⟩
      exact ⟨b, S', O', bv', h1, hal bv' h2, h3⟩
     have hcalls := hheap F (n - 1) lo _ S1 w1 O1 (cl.args.map a1.eval ++ ccs) hF hro hyok hlen hat1.ctx hsr1.mat (by simp [qs.2, hn]) (by simpa using hall)
     refine ⟨fun f _ => hF.1 f, ?_⟩
     rw [Oper.semAt_eq _ _ _ (by simp [hop])]
     have hex : (execOp a1.eval o).run P w1 = .ok (.enter gf (cl.args.map a1.eval ++ ccs)) w1 := by
      have hd : (resolve a1.eval cl o.type).run P w1 = .ok { target := .fn (.func gf) ccs, args := cl.args.map a1.eval } w1 := by
       simp [resolve, hcal, hc, Deferred.ofValue]
      simp only [execOp, hop, Sem.run_bind, hd, Result.andThen_ok, invoke]
      exact hen _ _
     rw [hex]
     refine ⟨fun hh => by simp [hF.2.1] at hh, hcalls.mono ?_⟩
     rintro e w2 ⟨v, S2, O2, r, hp', rfl, hR, hctx, hext, hmat, hrep⟩
     refine rest _ S2 w2 O2 _ ⟨?_, ⟨by rw [Qbk]; exact hsr1.size, hkept _, ?_, hmat⟩⟩ (hK r hp' hR)
     ·rw [Qb6]
      exact hctx
     ·exact FrM.put hsr1.fr hext (fun d hd => by rw [hsr1.size]; exact (hdl d hd).1) hrep
    ·cases hroc
  ·exact hw1.elim
 ·cases hy
theorem Qxr (i j k : Nat) : sw i j (sw i j k) = k := by
 unfold sw
 split
 ·rename_i h
  split
  ·rename_i h2; omega
  ·rw [if_pos rfl]; exact h.symm
 ·rename_i h
  split
  ·rename_i h2; rw [if_pos rfl]; exact h2.symm
  ·rename_i h2; simp [h, h2]
theorem Qej (f : Nat → Nat) : ∀ vs : List V, (renL f vs).length = vs.length
 | [] => rfl
 | _ :: vs => by simp [renL, Qej f vs]
mutual
theorem Qn5 {S : Nat → Prop} {w : World} {O O2 : OInfo} {f : Nat → Nat} (h : ∀ id, O2 (f id) = O id) : ∀ (v : V) (c : Value), Rep S w O v c → Rep S w O2 (renV f v) c
 | .u, _, _ => by simp [renV, Rep]
 | .b x, c, hr => by simpa [renV, Rep] using hr
 | .i x, c, hr => by simpa [renV, Rep] using hr
 | .z es, c, hr => by simpa [renV, Rep] using hr
 | .sl es rows, c, hr => by simpa only [renV, Rep] using hr
 | .sx es rows, c, hr => by simpa only [renV, Rep] using hr
 | .pa cs, c, hr => by simpa only [renV, Rep] using hr
 | .pn, c, hr => by simpa [renV, Rep] using hr
 | .yl l, c, hr => by simpa [renV, Rep] using hr
 | .pm _ _ _, c, hr => by simpa only [renV, Rep] using hr
 | .fb _ _, c, hr => by simpa only [renV, Rep] using hr
 | .w k n, c, hr => by simpa [renV, Rep] using hr
 | .ag cs, c, hr => by
  simp only [renV, Rep] at hr ⊢
  obtain ⟨ccs, hc, hn, hr⟩ := hr
  exact ⟨ccs, hc, by rw [Qej]; exact hn, Qgi h cs _ hr⟩
 | .tp cs, c, hr => by
  simp only [renV, Rep] at hr ⊢
  obtain ⟨ccs, hc, hn, hr⟩ := hr
  exact ⟨ccs, hc, by rw [Qej]; exact hn, Qgi h cs _ hr⟩
 | .fn g cs, c, hr => by
  simp only [renV, Rep] at hr ⊢
  obtain ⟨ccs, hc, hn, hr⟩ := hr
  exact ⟨ccs, hc, by rw [Qej]; exact hn, Qgi h cs _ hr⟩
 | .gv q v, c, hr => by
  simp only [renV, Rep] at hr ⊢
  exact ⟨fun hq => Qn5 h v c (hr.1 hq), hr.2⟩
 | .ad id g off, c, hr => by simpa only [renV, Rep, h id] using hr
 | .rf id g off len es, c, hr => by simpa only [renV, Rep, h id] using hr
 | .mp id g, c, hr => by simpa only [renV, Rep, h id] using hr
 | .it id g, c, hr => by simpa only [renV, Rep, h id] using hr
theorem Qgi {S : Nat → Prop} {w : World} {O O2 : OInfo} {f : Nat → Nat} (h : ∀ id, O2 (f id) = O id) : ∀ (vs : List V) (cs : List Value), RepL S w O vs cs → RepL S w O2 (renL f vs) cs
 | [], _, _ => by simp [renL, RepL]
 | _ :: _, [], hr => by simp [RepL] at hr
 | v :: vs, c :: cs, hr => by
  simp only [renL, RepL] at hr ⊢
  exact ⟨Qn5 h v c hr.1, Qgi h vs cs hr.2⟩
end
theorem Zaz {S : Nat → Prop} {w : World} {O O2 : OInfo} {f : Nat → Nat} {g : Nat} {ob : Option Nat} (h : ∀ id, O2 (f id) = O id) {x : Option Blk} (hx : Qbb S w O g ob x) : Qbb S w O2 g ob (x.map (renB f)) := by
 unfold Qbb at hx
 split at hx
 ·rename_i g' vs
  simp only [Qn, renB, Qbb]
  refine ⟨hx.1, ?_⟩
  cases ob with
  | none => have := hx.2; simp only at this ⊢; rw [this]; rfl
  | some b =>
   obtain ⟨cur, e, hb, hr, h1⟩ := hx.2
   exact ⟨cur, e, hb, Qgi h _ _ hr, h1⟩
 ·simp only [Qn, renB, Qbb]
  obtain ⟨h0, b, es, hob, hb, h1, h3, h4, h5⟩ := hx
  exact ⟨h0, b, es, hob, hb, h1, Qgi h _ _ h3, by rw [Qej]; exact h4, h5⟩
 ·rename_i mid n left cur
  simp only [Qn, renB, Qbb]
  obtain ⟨h0, b, m, seen, hob, hb, h1, h2⟩ := hx
  exact ⟨h0, b, m, seen, hob, hb, Qn5 h (.mp mid 0) _ h1, h2⟩
 ·exact hx.elim
 ·simpa only [Qn, renB, Qbb] using hx
 ·exact hx.elim
 ·exact hx.elim
theorem Zbb {i j : Nat} {hp : List Blk} (hi : i < hp.length) (hj : j < hp.length) (k : Nat) : (swH i j hp)[k]? = (hp[sw i j k]?).map (renB (sw i j)) := by
 unfold swH
 rw [Qh hi, Qh hj]
 simp only [Qk]
 congr 1
 unfold sw
 by_cases h2 : k = j
 ·subst h2
  rw [Qv (by rw [Qy]; exact hj)]
  split
  ·rename_i h; subst h; rw [Qh hi]
  ·rw [if_pos rfl, Qh hi]
 ·rw [Qw (Ne.symm h2)]
  by_cases h1 : k = i
  ·subst h1
   rw [Qv hi, if_pos rfl, Qh hj]
  ·rw [Qw (Ne.symm h1), if_neg h1, if_neg h2]
theorem Zgk {S : Nat → Prop} {w : World} {O : OInfo} {hp : List Blk} (h : Mat S w O hp) {i j : Nat} (hi : i < hp.length) (hj : j < hp.length) : Mat S w (fun id => O (sw i j id)) (swH i j hp) := by
 refine ⟨h.lt, fun id g b ho => h.own _ g b ho, fun id id' g g' b h1 h2 => ?_, fun id g ob ho => ?_⟩
 ·have := h.inj _ _ g g' b h1 h2
  rw [← Qxr i j id, this, Qxr]
 ·rw [Zbb hi hj]
  exact Zaz (fun id => by rw [Qxr]) (h.blk _ g ob ho)
theorem Qs5 (hG : GOk P Γ) (hF : Qc7 F) (hC : CtxOk P F n M C lo top base) {g : Bool} {r1 r2 : List RO} {y : RO} {id : Nat} {ops : Array Oper} {o : Oper} (hgd : (g || Qbz ops) = true)
  (ho : ops[r1.length]? = some o) (h1 : (ops.toList.take r1.length).mapM (fun o => resO P pu M.nm ops o) = some r1) (hy : resC P M.nm o = some y) (h2 : (ops.toList.drop (r1.length + 1)).mapM (fun o => resO P pu M.nm ops o) = some r2)
  {Q : Exit → St → Prop} {Q' : Exit → Act → World → Prop} {σ : St} {S : Nat → Prop} {w : World} {O : OInfo} {a : Act} (hw : wpR Γ (Qb1 P) (.crl g r1 y r2) Q σ) (hat : At C M S w O σ a)
  (hQ : ∀ σ' S' w' O' a', Q .normal σ' → At C M S' w' O' σ' a' → Q' .normal a' w') : (Code.region id ops false).wpIn F n P Q' a w := by
 have hgn : g = false → ∀ o ∈ ops, o.guard = none := by
  intro hg o ho
  subst hg
  simp only [Qs, Qbz] at hgd
  have := Array.all_eq_true_iff_forall_mem.1 hgd o ho
  simpa using this
 have hlt := (Array.getElem?_eq_some_iff.1 ho).1
 have hl2 : r2.length = ops.size - (r1.length + 1) := by
  have := congrArg Qt (Qcl h2)
  simpa using this.symm
 refine wpIn_region ?_
 have hrange : Q3 ops.size = Qe 0 r1.length ++ (r1.length :: Qe (r1.length + 1) r2.length) := by
  rw [Ql, ← Qo]
  have := Qp (s := 0) (m := r1.length) (n := r2.length + 1)
  rw [Qu] at this
  rw [this]
  congr 1
  omega
 rw [hrange]
 refine Qd3 hG hF (pu := pu) hgn _ r1 0 σ S w O a (Qdg (off := 0) (cnt := r1.length) (by simpa using h1)) hw hat.sr ?_
 intro σ1 S1 w1 O1 a1 hw1 hgh1 hev1 hsr1 hd1
 have hat1 : At C M S1 w1 O1 σ1 a1 := ⟨by rw [hd1]; exact hC.evol hat.ctx hat.sr.mat.lt hev1 hgh1, hsr1⟩
 have rest : ∀ (σ2 : St) S2 w2 O2 a2, At C M S2 w2 O2 σ2 a2 → runR Γ (Qb1 P) g 0 r2 σ2 (Q .normal) → wpOpsIn F n P ops Q' (Qe (r1.length + 1) r2.length) a2 w2 := by
  intro σ2 S2 w2 O2 a2 hat2 hrun
  have := Qd3 hG hF (pu := pu) (n := n) (Q := Q') hgn [] r2 (r1.length + 1) σ2 S2 w2 O2 a2 (Qdg (off := r1.length + 1) (cnt := ops.size) (by
   rw [Qg (by simp)]; exact h2)) hrun hat2.sr (fun τ S' w' O' a' hK hgh hev hsr hd => by
    rw [wpOpsIn]
    exact hQ τ S' w' O' a' hK ⟨by rw [hd]; exact hC.evol hat2.ctx hat2.sr.mat.lt hev hgh, hsr⟩)
  simpa using this
 rw [wpOpsIn_cons]
 simp only [wpOpIn, ho]
 unfold resC at hy
 split at hy
 ·rename_i hds
  simp only [Qc] at hds
  obtain ⟨hdo, hgo⟩ := hds
  have hgo' : o.guard = none := by simpa using hgo
  rw [Qa] at hy
  obtain ⟨⟨f, xs⟩, hroc, rfl⟩ := hy
  simp only at hw1
  have hdl : ∀ d, o.dst = some d → d < M.n ∧ M.md ≤ d := fun d hd => by rw [hd] at hdo; exact Qby hdo
  have hkept : ∀ (c : Value) t, t < M.md → (a1.put o.dst c).tmps.getD t undef = M.T t := fun c t ht => (Qen a1 o.dst c t fun d' hd' => by have := (hdl d' hd').2; omega).trans (hsr1.kept t ht)
  have hwant : Region.wanted o (yielded ops a1.tmps) = true := by simp [Region.wanted, hgo']
  rw [if_pos hwant]
  split at hw1
  ·rename_i gf caps hfv
   obtain ⟨hneed, hg6, href, hpre, hK⟩ := hw1
   obtain ⟨hen, hrel⟩ := hG.rel gf _ hg6 hpre
   have hods : Qd9 P S1 w1 O1 (opv g σ1.fr) a1.eval o := by
    cases g with
    | false => exact Qc6 hsr1.fr o
    | true => exact Qbr hsr1.fr o hneed
   unfold Qfq at hroc
   unfold Qd9 at hods
   cases hop : o.op <;> rw [hop] at hroc hods <;> simp only [Op.operands] at hods <;> first | (simp at hroc; done) | (try dsimp only at hroc)
   case call cl =>
    split at hroc
    ·rename_i f0 hcal
     simp only [Qi, Qd, Qm, Qb.injEq, Prod.mk.injEq] at hroc
     obtain ⟨f', hf, ods, hodse, rfl, rfl⟩ := hroc
     have q1 := hods f0 (by simp [Call.operands, hcal]) _ _ hf
     have qs := Qcs _ _ _ hodse (fun x hx => hods x (by simp only [Call.operands, Array.mem_append]; exact .inr (by simpa using hx)))
     rw [hfv] at q1
     simp only [Rep] at q1
     obtain ⟨ccs, hc, hn, hrl⟩ := q1
     have hall := RepL.append _ _ _ _ qs.1 (by simp [qs.2]) hrl
     have hcalls := Qxh hrel hsr1.mat (cargs := cl.args.map a1.eval ++ ccs) (by simp [qs.2, hn]) (Qi0 _ _ href (by simpa using hall))
     refine Qec (w' := w1) (f := gf) (args := cl.args.map a1.eval ++ ccs) hF (by simp [hop]) ?_ (hcalls.mono ?_)
     ·have hd : (resolve a1.eval cl o.type).run P w1 = .ok { target := .fn (.func gf) ccs, args := cl.args.map a1.eval } w1 := by
       simp [resolve, hcal, hc, Deferred.ofValue]
      simp only [execOp, hop, Sem.run_bind, hd, Result.andThen_ok, invoke]
      exact hen _ _
     ·rintro e w2 ⟨v, S2, O2, r, bs0, rfl, ⟨bs, rfl, hR⟩, hev, hmat, hrep⟩
      refine ⟨v, rfl, rest _ S2 w2 O2 _ ⟨?_, ⟨by rw [Qbk]; exact hsr1.size, hkept _, ?_, hmat⟩⟩ (hK r bs hR)⟩
      ·rw [Qb6]
       exact hC.evol hat1.ctx hsr1.mat.lt hev fun y hy => Qeq hy
      ·exact FrM.put hsr1.fr hev.ext (fun d hd => by rw [hsr1.size]; exact (hdl d hd).1) hrep
    ·cases hroc
  ·exact hw1.elim
 ·cases hy
theorem Qsr (hG : GOk P Γ) (hF : Qc7 F) (hC : CtxOk P F n M C lo top base) {g : Bool} {r1 r2 : List RO} {y : RO} {id : Nat} {ops : Array Oper} {o : Oper} (hgd : (g || Qbz ops) = true)
  (ho : ops[r1.length]? = some o) (h1 : (ops.toList.take r1.length).mapM (fun o => resO P pu M.nm ops o) = some r1) (hy : resC P M.nm o = some y) (h2 : (ops.toList.drop (r1.length + 1)).mapM (fun o => resO P pu M.nm ops o) = some r2)
  {Q : Exit → St → Prop} {Q' : Exit → Act → World → Prop} {σ : St} {S : Nat → Prop} {w : World} {O : OInfo} {a : Act} (hw : wpR Γ (Qb1 P) (.hcl g r1 y r2) Q σ) (hat : At C M S w O σ a)
  (hQ : ∀ σ' S' w' O' a', Q .normal σ' → At C M S' w' O' σ' a' → Q' .normal a' w') : (Code.region id ops false).wpIn F n P Q' a w := by
 have hgn : g = false → ∀ o ∈ ops, o.guard = none := by
  intro hg o ho
  subst hg
  simp only [Qs, Qbz] at hgd
  have := Array.all_eq_true_iff_forall_mem.1 hgd o ho
  simpa using this
 have hlt := (Array.getElem?_eq_some_iff.1 ho).1
 have hl2 : r2.length = ops.size - (r1.length + 1) := by
  have := congrArg Qt (Qcl h2)
  simpa using this.symm
 refine wpIn_region ?_
 have hrange : Q3 ops.size = Qe 0 r1.length ++ (r1.length :: Qe (r1.length + 1) r2.length) := by
  rw [Ql, ← Qo]
  have := Qp (s := 0) (m := r1.length) (n := r2.length + 1)
  rw [Qu] at this
  rw [this]
  congr 1
  omega
 rw [hrange]
 refine Qd3 hG hF (pu := pu) hgn _ r1 0 σ S w O a (Qdg (off := 0) (cnt := r1.length) (by simpa using h1)) hw hat.sr ?_
 intro σ1 S1 w1 O1 a1 hw1 hgh1 hev1 hsr1 hd1
 have hat1 : At C M S1 w1 O1 σ1 a1 := ⟨by rw [hd1]; exact hC.evol hat.ctx hat.sr.mat.lt hev1 hgh1, hsr1⟩
 have rest : ∀ (σ2 : St) S2 w2 O2 a2, At C M S2 w2 O2 σ2 a2 → runR Γ (Qb1 P) g 0 r2 σ2 (Q .normal) → wpOpsIn F n P ops Q' (Qe (r1.length + 1) r2.length) a2 w2 := by
  intro σ2 S2 w2 O2 a2 hat2 hrun
  have := Qd3 hG hF (pu := pu) (n := n) (Q := Q') hgn [] r2 (r1.length + 1) σ2 S2 w2 O2 a2 (Qdg (off := r1.length + 1) (cnt := ops.size) (by
   rw [Qg (by simp)]; exact h2)) hrun hat2.sr (fun τ S' w' O' a' hK hgh hev hsr hd => by
    rw [wpOpsIn]
    exact hQ τ S' w' O' a' hK ⟨by rw [hd]; exact hC.evol hat2.ctx hat2.sr.mat.lt hev hgh, hsr⟩)
  simpa using this
 rw [wpOpsIn_cons]
 simp only [wpOpIn, ho]
 unfold resC at hy
 split at hy
 ·rename_i hds
  simp only [Qc] at hds
  obtain ⟨hdo, hgo⟩ := hds
  have hgo' : o.guard = none := by simpa using hgo
  rw [Qa] at hy
  obtain ⟨⟨f, xs⟩, hroc, rfl⟩ := hy
  simp only at hw1
  have hdl : ∀ d, o.dst = some d → d < M.n ∧ M.md ≤ d := fun d hd => by rw [hd] at hdo; exact Qby hdo
  have hkept : ∀ (c : Value) t, t < M.md → (a1.put o.dst c).tmps.getD t undef = M.T t := fun c t ht => (Qen a1 o.dst c t fun d' hd' => by have := (hdl d' hd').2; omega).trans (hsr1.kept t ht)
  have hwant : Region.wanted o (yielded ops a1.tmps) = true := by simp [Region.wanted, hgo']
  rw [if_pos hwant]
  split at hw1
  ·rename_i gf caps hfv
   obtain ⟨hneed, hpre, hK⟩ := hw1
   obtain ⟨hen, hgh, hheap⟩ := hG.heap gf _ _ hpre
   have hods : Qd9 P S1 w1 O1 (opv g σ1.fr) a1.eval o := by
    cases g with
    | false => exact Qc6 hsr1.fr o
    | true => exact Qbr hsr1.fr o hneed
   unfold Qfq at hroc
   unfold Qd9 at hods
   cases hop : o.op <;> rw [hop] at hroc hods <;> simp only [Op.operands] at hods <;> first | (simp at hroc; done) | (try dsimp only at hroc)
   case call cl =>
    split at hroc
    ·rename_i f0 hcal
     simp only [Qi, Qd, Qm, Qb.injEq, Prod.mk.injEq] at hroc
     obtain ⟨f', hf, ods, hodse, rfl, rfl⟩ := hroc
     have q1 := hods f0 (by simp [Call.operands, hcal]) _ _ hf
     have qs := Qcs _ _ _ hodse (fun x hx => hods x (by simp only [Call.operands, Array.mem_append]; exact .inr (by simpa using hx)))
     rw [hfv] at q1
     simp only [Rep] at q1
     obtain ⟨ccs, hc, hn, hrl⟩ := q1
     have hall := RepL.append _ _ _ _ qs.1 (by simp [qs.2]) hrl
     have hcalls := hheap S1 w1 O1 (cl.args.map a1.eval ++ ccs) hsr1.mat (by simp [qs.2, hn]) (by simpa using hall)
     refine Qec (w' := w1) (f := gf) (args := cl.args.map a1.eval ++ ccs) hF (by simp [hop]) ?_ (hcalls.mono ?_)
     ·have hd : (resolve a1.eval cl o.type).run P w1 = .ok { target := .fn (.func gf) ccs, args := cl.args.map a1.eval } w1 := by
       simp [resolve, hcal, hc, Deferred.ofValue]
      simp only [execOp, hop, Sem.run_bind, hd, Result.andThen_ok, invoke]
      exact hen _ _
     ·rintro e w2 ⟨v, S2, O2, r, hp', rfl, hR, hev, hmat, hrep⟩
      refine ⟨v, rfl, rest _ S2 w2 O2 _ ⟨?_, ⟨by rw [Qbk]; exact hsr1.size, hkept _, ?_, hmat⟩⟩ (hK r hp' hR)⟩
      ·rw [Qb6]
       exact hC.evol hat1.ctx hsr1.mat.lt hev (hgh r hp' hR)
      ·exact FrM.put hsr1.fr hev.ext (fun d hd => by rw [hsr1.size]; exact (hdl d hd).1) hrep
    ·cases hroc
  ·exact hw1.elim
 ·cases hy
theorem Qhv (w : World) (t e : TypeId) (a : Option Addr) (l c : Nat) (h : P.underlying t = some (.slice e)) : (binOp .eql t (.slice a l c) (.slice none 0 0)).run P w = .ok (.bool a.isNone) w := by
 have h1 : ∀ d, (Op.equalIn (d + 1) t (.slice a l c) (.slice none 0 0)).run P w = .ok a.isNone w := fun d => by
  cases a <;> simp [Op.equalIn, run_underlying h]
 simp only [binOp]
 simp [Op.equal, Op.maxDepth, h1 9999]
theorem Qu2 (hG : GOk P Γ) (hF : Qc7 F) (hC : CtxOk P F n M C lo top base) {g : Bool} {r1 r2 : List RO} {y : RO} {id : Nat} {ops : Array Oper} {o : Oper} (hgd : (g || Qbz ops) = true)
  (ho : ops[r1.length]? = some o) (h1 : (ops.toList.take r1.length).mapM (fun o => resO P pu M.nm ops o) = some r1) (hy : resN P M.nm o = some y) (h2 : (ops.toList.drop (r1.length + 1)).mapM (fun o => resO P pu M.nm ops o) = some r2)
  {Q : Exit → St → Prop} {Q' : Exit → Act → World → Prop} {σ : St} {S : Nat → Prop} {w : World} {O : OInfo} {a : Act} (hw : wpR Γ (Qb1 P) (.rnl g r1 y r2) Q σ) (hat : At C M S w O σ a)
  (hQ : ∀ σ' S' w' O' a', Q .normal σ' → At C M S' w' O' σ' a' → Q' .normal a' w') : (Code.region id ops false).wpIn F n P Q' a w := by
 have hgn : g = false → ∀ o ∈ ops, o.guard = none := by
  intro hg o ho
  subst hg
  simp only [Qs, Qbz] at hgd
  have := Array.all_eq_true_iff_forall_mem.1 hgd o ho
  simpa using this
 have hlt := (Array.getElem?_eq_some_iff.1 ho).1
 have hl2 : r2.length = ops.size - (r1.length + 1) := by
  have := congrArg Qt (Qcl h2)
  simpa using this.symm
 refine wpIn_region ?_
 have hrange : Q3 ops.size = Qe 0 r1.length ++ (r1.length :: Qe (r1.length + 1) r2.length) := by
  rw [Ql, ← Qo]
  have := Qp (s := 0) (m := r1.length) (n := r2.length + 1)
  rw [Qu] at this
  rw [this]
  congr 1
  omega
 rw [hrange]
 refine Qd3 hG hF (pu := pu) hgn _ r1 0 σ S w O a (Qdg (off := 0) (cnt := r1.length) (by simpa using h1)) hw hat.sr ?_
 intro σ1 S1 w1 O1 a1 hw1 hgh1 hev1 hsr1 hd1
 have hat1 : At C M S1 w1 O1 σ1 a1 := ⟨by rw [hd1]; exact hC.evol hat.ctx hat.sr.mat.lt hev1 hgh1, hsr1⟩
 have rest : ∀ (σ2 : St) S2 w2 O2 a2, At C M S2 w2 O2 σ2 a2 → runR Γ (Qb1 P) g 0 r2 σ2 (Q .normal) → wpOpsIn F n P ops Q' (Qe (r1.length + 1) r2.length) a2 w2 := by
  intro σ2 S2 w2 O2 a2 hat2 hrun
  have := Qd3 hG hF (pu := pu) (n := n) (Q := Q') hgn [] r2 (r1.length + 1) σ2 S2 w2 O2 a2 (Qdg (off := r1.length + 1) (cnt := ops.size) (by
   rw [Qg (by simp)]; exact h2)) hrun hat2.sr (fun τ S' w' O' a' hK hgh hev hsr hd => by
    rw [wpOpsIn]
    exact hQ τ S' w' O' a' hK ⟨by rw [hd]; exact hC.evol hat2.ctx hat2.sr.mat.lt hev hgh, hsr⟩)
  simpa using this
 rw [wpOpsIn_cons]
 simp only [wpOpIn, ho]
 unfold resN at hy
 split at hy
 ·rename_i hds
  simp only [Qc] at hds
  obtain ⟨hdo, hgo⟩ := hds
  have hgo' : o.guard = none := by simpa using hgo
  have hdl : ∀ d, o.dst = some d → d < M.n ∧ M.md ≤ d := fun d hd => by rw [hd] at hdo; exact Qby hdo
  have hkept : ∀ (c : Value) t, t < M.md → (a1.put o.dst c).tmps.getD t undef = M.T t := fun c t ht => (Qen a1 o.dst c t fun d' hd' => by have := (hdl d' hd').2; omega).trans (hsr1.kept t ht)
  have hwant : Region.wanted o (yielded ops a1.tmps) = true := by simp [Region.wanted, hgo']
  rw [if_pos hwant]
  split at hy
  ·rename_i t x yt hop
   simp only [Qd, Qa] at hy
   obtain ⟨e, he, f, hf, rfl⟩ := hy
   have ht : P.underlying t = some (.slice e) := by
    unfold elB at he
    split at he
    ·rename_i e' h'; cases he; exact h'
    ·cases he
   simp only at hw1
   have key : ∀ v, opv g σ1.fr f = v → Qc2 g ⟨o.dst, none, o.op.operands.toList.filterMap Qfh, none, .q (.len f)⟩ σ1.fr → Rep S1 w1 O1 v (a1.eval x) := by
    intro v hv hneed
    have hods : Qd9 P S1 w1 O1 (opv g σ1.fr) a1.eval o := by
     cases g with
     | false => exact Qc6 hsr1.fr o
     | true => exact Qbr hsr1.fr o hneed
    have := hods x (by rw [hop]; simp [Op.operands]) _ _ hf
    rw [hv] at this
    exact this
   have fin : ∀ (ad : Option Addr) (m c : Nat), a1.eval x = .slice ad m c → runR Γ (Qb1 P) g 0 r2 ⟨upd σ1.fr o.dst (.b ad.isNone), σ1.hp⟩ (Q .normal) →
     o.wpIn F n P a1 w1 (wpOpsIn F n P ops Q' (Qe (r1.length + 1) r2.length)) Q' := by
    intro ad m c hx hrun
    refine Qbf (c := .bool ad.isNone) (w' := w1) hF (by simp [hop]) ?_ ?_
    ·have hb := Qhv (P := P) w1 t e ad m c ht
     have h2 : a1.eval (.const (.slice none 0 0)) = .slice none 0 0 := rfl
     have hg2 : (do eqGuard .eql t x (.const (.slice none 0 0)) (.slice ad m c) (.slice none 0 0); binOp .eql t (.slice ad m c) (.slice none 0 0) : Sem Value).run P w1 = .ok (.bool ad.isNone) w1 := by
      simp [eqGuard, hb]
     simp only [execOp, hop, hx, h2, Sem.run_bind, Sem.run_pure]
     simp only [Sem.run_bind] at hg2
     rw [hg2]; rfl
    ·refine rest ⟨upd σ1.fr o.dst (.b ad.isNone), σ1.hp⟩ S1 w1 O1 _ ⟨by rw [Qb6]; exact hat1.ctx, ⟨by rw [Qbk]; exact hsr1.size, hkept _, ?_, hsr1.mat⟩⟩ hrun
     exact FrM.put hsr1.fr (Ext.refl _ _ _) (fun d hd => by rw [hsr1.size]; exact (hdl d hd).1) (by simp [Rep])
   split at hw1
   ·rename_i es rows hfv
    have hr := key _ hfv hw1.1
    simp only [Rep] at hr
    obtain ⟨ad, cap, hc, _, hrow⟩ := hr
    refine fin ad _ _ hc (hw1.2 _ fun hne => ?_)
    rcases hrow with h | ⟨blk, off, cur, e', fr, h, _⟩
    ·exact absurd h hne
    ·rw [h]; rfl
   ·rename_i es hfv
    have hr := key _ hfv hw1.1
    simp only [Rep] at hr
    obtain ⟨ad, hc⟩ := hr
    exact fin ad _ _ hc (hw1.2 _)
   ·exact hw1.elim
  ·cases hy
 ·cases hy
theorem Anc.trans {ops : Array Oper} {i j k : Nat} (h : Anc ops i j) (h' : Anc ops j k) : Anc ops i k := by
 induction h' with
 | base ho he hb e => exact .step ho he hb (e ▸ h)
 | step ho he hb _ ih => exact .step ho he hb ih
theorem Zdu (hG : GOk P Γ) (hF : Qc7 F) (hC : CtxOk P F n M C lo top base) {g : Bool} {y : RO} {ops : Array Oper} {i : Nat} {o : Oper} (hgn : g = false → ∀ o ∈ ops, o.guard = none)
  (ho : ops[i]? = some o) (hy : resC P M.nm o = some y) {K : St → Prop} {Q' : Exit → Act → World → Prop} {σ1 : St} {S1 : Nat → Prop} {w1 : World} {O1 : OInfo} {a1 : Act}
  (hw1 : match y.x with
   | .o f args => match opv g σ1.fr f with
    | .fn gf caps => Qc2 g y σ1.fr ∧ (Γ.h gf (args.map (opv g σ1.fr) ++ caps) σ1.hp).1 ∧ ∀ r hp', (Γ.h gf (args.map (opv g σ1.fr) ++ caps) σ1.hp).2 r hp' → K ⟨upd σ1.fr y.dst r, hp'⟩
    | _ => False
   | _ => False) (hat1 : At C M S1 w1 O1 σ1 a1) {KK : Act → World → Prop} (hK0 : ∀ σ2 S2 w2 O2 a2, K σ2 → At C M S2 w2 O2 σ2 a2 → KK a2 w2) : wpOpIn F n P ops Q' i KK a1 w1 := by
 have hsr1 := hat1.sr
 simp only [wpOpIn, ho]
 unfold resC at hy
 split at hy
 ·rename_i hds
  simp only [Qc] at hds
  obtain ⟨hdo, hgo⟩ := hds
  have hgo' : o.guard = none := by simpa using hgo
  rw [Qa] at hy
  obtain ⟨⟨f, xs⟩, hroc, rfl⟩ := hy
  simp only at hw1
  have hdl : ∀ d, o.dst = some d → d < M.n ∧ M.md ≤ d := fun d hd => by rw [hd] at hdo; exact Qby hdo
  have hkept : ∀ (c : Value) t, t < M.md → (a1.put o.dst c).tmps.getD t undef = M.T t := fun c t ht => (Qen a1 o.dst c t fun d' hd' => by have := (hdl d' hd').2; omega).trans (hsr1.kept t ht)
  have hwant : Region.wanted o (yielded ops a1.tmps) = true := by simp [Region.wanted, hgo']
  rw [if_pos hwant]
  split at hw1
  ·rename_i gf caps hfv
   obtain ⟨hneed, hpre, hK⟩ := hw1
   obtain ⟨hen, hgh, hheap⟩ := hG.heap gf _ _ hpre
   have hods : Qd9 P S1 w1 O1 (opv g σ1.fr) a1.eval o := by
    cases g with
    | false => exact Qc6 hsr1.fr o
    | true => exact Qbr hsr1.fr o hneed
   unfold Qfq at hroc
   unfold Qd9 at hods
   cases hop : o.op <;> rw [hop] at hroc hods <;> simp only [Op.operands] at hods <;> first | (simp at hroc; done) | (try dsimp only at hroc)
   case call cl =>
    split at hroc
    ·rename_i f0 hcal
     simp only [Qi, Qd, Qm, Qb.injEq, Prod.mk.injEq] at hroc
     obtain ⟨f', hf, ods, hodse, rfl, rfl⟩ := hroc
     have q1 := hods f0 (by simp [Call.operands, hcal]) _ _ hf
     have qs := Qcs _ _ _ hodse (fun x hx => hods x (by simp only [Call.operands, Array.mem_append]; exact .inr (by simpa using hx)))
     rw [hfv] at q1
     simp only [Rep] at q1
     obtain ⟨ccs, hc, hn, hrl⟩ := q1
     have hall := RepL.append _ _ _ _ qs.1 (by simp [qs.2]) hrl
     have hcalls := hheap S1 w1 O1 (cl.args.map a1.eval ++ ccs) hsr1.mat (by simp [qs.2, hn]) (by simpa using hall)
     refine Qec (w' := w1) (f := gf) (args := cl.args.map a1.eval ++ ccs) hF (by simp [hop]) ?_ (hcalls.mono ?_)
     ·have hd : (resolve a1.eval cl o.type).run P w1 = .ok { target := .fn (.func gf) ccs, args := cl.args.map a1.eval } w1 := by
       simp [resolve, hcal, hc, Deferred.ofValue]
      simp only [execOp, hop, Sem.run_bind, hd, Result.andThen_ok, invoke]
      exact hen _ _
     ·rintro e w2 ⟨v, S2, O2, r, hp', rfl, hR, hev, hmat, hrep⟩
      refine ⟨v, rfl, hK0 _ S2 w2 O2 _ (hK r hp' hR) ⟨?_, ⟨by rw [Qbk]; exact hsr1.size, hkept _, ?_, hmat⟩⟩⟩
      ·rw [Qb6]
       exact hC.evol hat1.ctx hsr1.mat.lt hev (hgh r hp' hR)
      ·exact FrM.put hsr1.fr hev.ext (fun d hd => by rw [hsr1.size]; exact (hdl d hd).1) hrep
    ·cases hroc
  ·exact hw1.elim
 ·cases hy
theorem Qr7 {rs : List RO} {l : List AnyOp} {q : Nat} {z : AnyOp} (h : (zipX rs l)[q]? = some z) : ∃ r, rs[q]? = some r ∧ ({ z.o with nid := none } : RO) = { r with nid := none } := by
 unfold zipX at h
 rw [Za] at h
 cases hr : rs[q]? with
 | none => simp [hr] at h
 | some r =>
  cases hl : l[q]? with
  | none => simp [hr, hl] at h
  | some x =>
   simp only [hr, hl, Qb.injEq] at h
   subst h
   exact ⟨r, rfl, rfl⟩
theorem Qsq (hG : GOk P Γ) (hF : Qc7 F) (hm : P.follows .mixedOrders = true) (hC : CtxOk P F n M C lo top base) {g : Bool} {m1 m2 : Nat} {l1 l2 : List AnyOp} {r1 r2 : List RO} {y1 : RO} {y : AnyOp} {id : Nat} {ops : Array Oper} {o : Oper}
  (hgd : (g || Qbz ops) = true) (ho : ops[l1.length]? = some o) (h1 : (ops.toList.take l1.length).mapM (fun o => resO P pu M.nm ops o) = some r1) (hy : resC P M.nm o = some y1) (h2 : (ops.toList.drop (l1.length + 1)).mapM (fun o => resO P pu M.nm ops o) = some r2)
  (hch : Qzh ops r1 l1 y1 y r2 l2 = true) {Q : Exit → St → Prop} {Q' : Exit → Act → World → Prop} {σ : St} {S : Nat → Prop} {w : World} {O : OInfo} {a : Act} (hw : wpR Γ (Qb1 P) (.hca g m1 (zipX r1 l1) ⟨y1, [], y.an⟩ m2 (zipX r2 l2)) Q σ) (hat : At C M S w O σ a)
  (hQ : ∀ σ' S' w' O' a', Q .normal σ' → At C M S' w' O' σ' a' → Q' .normal a' w') : (Code.region id ops true).wpIn F n P Q' a w := by
 have hgn : g = false → ∀ o ∈ ops, o.guard = none := by
  intro hg o ho
  subst hg
  simp only [Qs, Qbz] at hgd
  have := Array.all_eq_true_iff_forall_mem.1 hgd o ho
  simpa using this
 unfold Qzh at hch
 simp only [Qc, decide_eq_true_eq] at hch
 obtain ⟨⟨⟨⟨⟨hp, ha⟩, e1⟩, e2⟩, hyan⟩, hzan⟩ := hch
 have hL := (Array.getElem?_eq_some_iff.1 ho).1
 have hz1 : (zipX r1 l1).length = l1.length := by simp [zipX, e1]
 have hz2 : (zipX r2 l2).length = ops.size - (l1.length + 1) := by
  have := congrArg Qt (Qcl h2)
  simp at this
  simp [zipX, ← e2, ← this]
 have hsub1 : ∀ q z, (zipX r1 l1)[q]? = some z → (zipX r1 l1 ++ ⟨y1, [], y.an⟩ :: zipX r2 l2)[0 + q]? = some z := by
  intro q z hz
  rw [Qu, Qj (Qaf hz)]; exact hz
 have hsubL : (zipX r1 l1 ++ ⟨y1, [], y.an⟩ :: zipX r2 l2)[l1.length]? = some ⟨y1, [], y.an⟩ := by
  rw [Q4 (by omega), hz1, Nat.sub_self]; rfl
 have hsub2 : ∀ q z, (zipX r2 l2)[q]? = some z → (zipX r1 l1 ++ ⟨y1, [], y.an⟩ :: zipX r2 l2)[l1.length + 1 + q]? = some z := by
  intro q z hz
  rw [Q4 (by omega), hz1, show l1.length + 1 + q - l1.length = q + 1 by omega]; exact hz
 have hop1 : ∀ q z, (zipX r1 l1)[q]? = some z → ∃ o, ops[0 + q]? = some o ∧ resO P pu M.nm ops o = some { z.o with nid := none } := by
  intro q z hz
  obtain ⟨r, hr, e⟩ := Qr7 hz
  rw [e]
  exact Qdg (off := 0) (cnt := l1.length) (by simpa using h1) q r hr
 have hop2 : ∀ q z, (zipX r2 l2)[q]? = some z → ∃ o, ops[l1.length + 1 + q]? = some o ∧ resO P pu M.nm ops o = some { z.o with nid := none } := by
  intro q z hz
  obtain ⟨r, hr, e⟩ := Qr7 hz
  rw [e]
  exact Qdg (off := l1.length + 1) (cnt := ops.size) (by rw [Qg (by simp)]; exact h2) q r hr
 have hancL : ∀ i, i < l1.length → Anc ops i l1.length := fun i hi =>
  (Qdw ha _ _ hsubL hL).1 i (by have := Q7.1 hyan i (by simpa using hi); simpa using this)
 have hancU : ∀ u, l1.length < u → u < ops.size → Anc ops l1.length u := by
  intro u h1 h2
  obtain ⟨z, hz⟩ : ∃ z, (zipX r2 l2)[u - (l1.length + 1)]? = some z := ⟨_, Qh (by omega)⟩
  have hz' := hsub2 _ _ hz
  rw [show l1.length + 1 + (u - (l1.length + 1)) = u by omega] at hz'
  exact (Qdw ha _ _ hz' h2).1 _ (by have := Q7.1 hzan z (Q1 hz); simpa using this)
 refine wpIn_region_any hm ?_
 obtain ⟨rest1, τ1, k1, k2, k3, k4, k5, k6⟩ := Qop (k := 0) (M := M) (pu := pu) hsub1 hp ha hop1 rfl hw
 refine Qus hG hF hgn (pu := pu) (M := M) (U := fun i => l1.length ≤ i ∧ i < ops.size) (extra := ops.size - l1.length) ops.size rest1 _ _ S _ O a ?_ ?_ k3 k4 ?_ ?_ ?_ k5 ⟨hat.sr.size, hat.sr.kept, hat.sr.fr.ext (Qja _ _ _), Qmv (Qfb hat.sr.mat _)⟩ ?_
 ·omega
 ·intro i
  rw [k2, hz1]
  constructor
  ·intro h
   rcases Nat.lt_or_ge i ops.size with h' | h'
   ·omega
   ·simp [Nat.not_lt.2 h'] at h
  ·intro h
   have : i < ops.size := by omega
   simp [this]
 ·intro x hx u hu
  have hxl := ((k2 x.1).1 ⟨x, hx, rfl⟩).2
  rw [hz1] at hxl
  refine ⟨?_, by omega⟩
  rcases Ze hu.1 with h | h
  ·exact (hancL _ (by omega)).trans (hancU u h hu.2)
  ·rw [← h]; exact hancL _ (by omega)
 ·intro i j _ hj
  exfalso
  by_cases h : j < ops.size <;> simp [h] at hj
 ·intro i hi
  simpa using hi
 ·intro fuel' listed' S1 w1 O1 a1 hfu hl hcl hsz hev1 hsr1 hd1
  obtain ⟨fuel, rfl⟩ : ∃ f, fuel' = f + 1 := ⟨fuel' - 1, by omega⟩
  have hLf : listed'.getD l1.length true = false := (hl _).2 ⟨Qf _, hL⟩
  have hlow : ∀ i, i < l1.length → listed'.getD i false = true := by
   intro i hi
   have h3 : ¬ listed'.getD i true = false := fun h => by have := (hl i).1 h; omega
   have h4 := hsz i (by omega)
   simp [h4] at h3 ⊢
   exact h3
  have honly : ∀ i, i ∈ Region.ready .any ops listed' → i = l1.length := by
   intro i hi
   rw [mem_ready] at hi
   obtain ⟨h0, o', ho', hall⟩ := hi
   obtain ⟨h3, h4⟩ := (hl i).1 h0
   rcases Ze h3 with h | h
   ·exfalso
    have h5 : listed'.getD l1.length false = true := by
     cases hancU i h h4 with
     | base ho2 he hb e => rw [ho'] at ho2; cases ho2; rw [← e]; exact hall _ he hb
     | step ho2 he hb e => rw [ho'] at ho2; cases ho2; exact hcl _ _ e (hall _ he hb)
    cases hle : listed'[l1.length]? with
    | none => simp [hle] at hLf
    | some b => simp [hle] at hLf h5; simp_all
   ·exact h.symm
  have hready : l1.length ∈ Region.ready .any ops listed' := by
   rw [mem_ready]
   exact ⟨hLf, o, ho, fun e he hb => hlow _ ((Qdw ha _ _ hsubL hL).2 o ho e he hb)⟩
  refine ⟨fun hnone => (by rw [hnone] at hready; cases hready), fun i hi => ?_⟩
  have := honly i hi
  subst this
  have hat1 : At C M S1 w1 O1 τ1 a1 := ⟨by rw [hd1]; exact hC.evol hat.ctx hat.sr.mat.lt ((Qjz S w O).trans hev1) fun y hy => RunD.gh _ _ _ k5 (Qeq hy), hsr1⟩
  refine Zdu hG hF hC hgn ho hy (K := fun σ2 => runX Γ (Qb1 P) g σ2.hp.length (zipX r2 l2) (Zl ((zipX r1 l1).length + 1) ⟨none, []⟩) ⟨σ2.fr, σ2.hp ++ Zl m2 .hole⟩ (Q .normal)) k6 hat1 ?_
  intro σ2 S2 w2 O2 a2 hK2 hat2
  obtain ⟨rest2, τ2, j1, j2, j3, j4, j5, j6⟩ := Qop (k := l1.length + 1) (M := M) (pu := pu) hsub2 hp ha hop2 (by simp [hz1]) hK2
  refine Qnh hG hF hgn (pu := pu) (M := M) fuel rest2 _ _ S2 _ O2 a2 ?_ ?_ j3 j4 ?_ ?_ j5 ⟨hat2.sr.size, hat2.sr.kept, hat2.sr.fr, Qfb hat2.sr.mat _⟩ ?_
  ·omega
  ·intro i
   rw [j2, hz2]
   by_cases hi : i = l1.length
   ·subst hi
    have := hsz _ hL
    simp [this]
    omega
   ·rw [getD_set_ne true (Ne.symm hi), hl]
    omega
  ·intro i j hij hj
   by_cases hjL : j = l1.length
   ·subst hjL
    refine getD_set_true ?_
    have := (Qdw ha _ _ hsubL hL).2 o ho
    cases hij with
    | base ho2 he hb e => rw [ho] at ho2; cases ho2; rw [← e]; exact hlow _ (this _ he hb)
    | step ho2 he hb e => rw [ho] at ho2; cases ho2; exact hcl _ _ e (hlow _ (this _ he hb))
   ·rw [getD_set_ne false (Ne.symm hjL)] at hj
    exact getD_set_true (hcl i j hij hj)
  ·intro i hi
   simpa using hsz i hi
  ·intro S' w' O' a' hev hsr hd
   exact hQ _ _ _ _ _ j6 ⟨by rw [hd]; exact hC.evol hat2.ctx hat2.sr.mat.lt hev fun y hy => RunD.gh _ _ _ j5 (Qeq hy), hsr⟩
structure ExtN (lo : Nat) (S S' : Nat → Prop) (w w' : World) (O O' : OInfo) : Prop where
 keep : ∀ n, S n → S' n ∧ w'.heap[n]? = w.heap[n]?
 own : ∀ id g ob, id < lo → O id = some (g, ob) → ∃ g' ob', O' id = some (g', ob') ∧ g ≤ g' ∧ (g' = g → ob' = ob ∧
  (∀ b cur e, ob = some b → w.heap[b]? = some (.cells cur e (0, 0)) → ∃ cur', w'.heap[b]? = some (.cells cur' e (0, 0)) ∧ cur'.size = cur.size))
theorem ExtN.refl (lo : Nat) (S : Nat → Prop) (w : World) (O : OInfo) : ExtN lo S S w w O O :=
 ⟨fun _ h => ⟨h, rfl⟩, fun _ g ob _ h => ⟨g, ob, h, Qf _, fun _ => ⟨rfl, fun _ cur _ _ hb => ⟨cur, hb, rfl⟩⟩⟩⟩
theorem ExtN.then {lo : Nat} {S S' S'' : Nat → Prop} {w w' w'' : World} {O O' O'' : OInfo} (h : ExtN lo S S' w w' O O') (k : Ext S' S'' w' w'' O' O'') : ExtN lo S S'' w w'' O O'' := by
 refine ⟨fun n hn => ⟨(k.keep n (h.keep n hn).1).1, ((k.keep n (h.keep n hn).1).2).trans (h.keep n hn).2⟩, fun id g ob hl ho => ?_⟩
 obtain ⟨g', ob', ho', hg, h1⟩ := h.own id g ob hl ho
 obtain ⟨g'', ob'', ho'', hg', h2⟩ := k.own id g' ob' ho'
 refine ⟨g'', ob'', ho'', Qr hg hg', fun e => ?_⟩
 obtain ⟨a1, a2⟩ := h1 (by omega)
 obtain ⟨b1, b2⟩ := h2 (by omega)
 refine ⟨b1.trans a1, fun b cur e hb hh => ?_⟩
 obtain ⟨cur', hh', hs⟩ := a2 b cur e hb hh
 obtain ⟨cur'', hh'', hs'⟩ := b2 b cur' e (a1.trans hb) hh'
 exact ⟨cur'', hh'', hs'.trans hs⟩
theorem ExtN.cut {lo : Nat} {S S' : Nat → Prop} {w w' : World} {O O' : OInfo} (h : ExtN lo S S' w w' O O') {k : Nat} (hk : lo ≤ k) : ExtN lo S (cutS S' O' k) w w' O (Qcd O' k) := by
 refine ⟨fun n hn => ⟨.inl (h.keep n hn).1, (h.keep n hn).2⟩, fun id g ob hl ho => ?_⟩
 obtain ⟨g', ob', ho', h1⟩ := h.own id g ob hl ho
 exact ⟨g', ob', by unfold Qcd; rw [if_pos (by omega)]; exact ho', h1⟩
theorem ExtN.ext {lo : Nat} {S S' : Nat → Prop} {w w' : World} {O O' : OInfo} (h : ExtN lo S S' w w' O O') (hO : ∀ id x, O id = some x → id < lo) : Ext S S' w w' O O' :=
 ⟨h.keep, fun id g ob ho => h.own id g ob (hO id _ ho) ho⟩
theorem Qf9 {S : Nat → Prop} {w : World} {O : OInfo} {L : Nat} (o' : Obj) (hS : ¬ S L) (hO : ¬ Own O L) : Ext S S w (w.putObj L o') O O := by
 have hoth : ∀ k, k ≠ L → (w.putObj L o').heap[k]? = w.heap[k]? := fun k hk => World.putObj_heap_other hk
 refine ⟨fun k hk => ⟨hk, hoth k (by rintro rfl; exact hS hk)⟩, fun id g ob ho => ⟨g, ob, ho, Qf _, fun _ => ⟨rfl, fun b cur e hb hh => ⟨cur, ?_, rfl⟩⟩⟩⟩
 rw [hoth b (by rintro rfl; exact hO ⟨id, g, by rw [ho, hb]⟩)]
 exact hh
theorem Qmw {S : Nat → Prop} {w : World} {O : OInfo} {hp : List Blk} (h : Mat S w O hp) {L : Nat} (o' : Obj) (hS : ¬ S L) (hO : ¬ Own O L) : Mat S (w.putObj L o') O hp := by
 refine h.keep (Qf9 o' hS hO) (by simp) (fun b hb => World.putObj_heap_other (by rintro rfl; exact hO hb)) (fun k hk => by simpa using h.lt k hk) fun k hk ⟨id, g, ho⟩ => (h.own id g k ho).2 hk
theorem Qg3 {S : Nat → Prop} {w : World} {O : OInfo} {σ : St} {a : Act} (h : SR M S w O σ a) {L : Nat} (o' : Obj) (hS : ¬ S L) (hO : ¬ Own O L) : SR M S (w.putObj L o') O σ a :=
 ⟨h.size, h.kept, h.fr.ext (Qf9 o' hS hO), Qmw h.mat o' hS hO⟩
theorem Qcw (w : World) (o : Obj) (ho : o.isCells = false) : Later w (w.alloc o) :=
 ⟨rfl, rfl, rfl, by simp, fun a _ => Qdd w o ho a, fun n hn => heap_alloc_old w o hn⟩
theorem Later.trans {w w' w'' : World} (h : Later w w') (k : Later w' w'') : Later w w'' :=
 ⟨k.os.trans h.os, k.tape.trans h.tape, k.output.trans h.output, Qr h.size k.size, fun a ha => (k.fz a (Qz ha h.size)).trans (h.fz a ha), fun n hn => (k.old n (Qz hn h.size)).trans (h.old n hn)⟩
theorem Qco {S : Nat → Prop} {w : World} {O : OInfo} {hp : List Blk} (h : Mat S w O hp) : ∀ k, Own O k → k < w.heap.size := fun k ⟨id, g, ho⟩ => (h.own id g k ho).1
theorem Qjf {S : Nat → Prop} {w w' : World} {O : OInfo} {hp : List Blk} (h : Mat S w O hp) (hl : Later w w') : Mat S w' O hp :=
 h.keep (hl.evol h.lt (Qco h)).ext hl.size (fun b hb => hl.old b (Qco h b hb)) (fun k hk => Qz (h.lt k hk) hl.size) fun k hk ⟨id, g, ho⟩ => (h.own id g k ho).2 hk
theorem Qq7 {S : Nat → Prop} {w : World} {O : OInfo} : ∀ (ps : List Tmp) (x : List V) (cx : List Value) (fr : Nat → V) (a : Act), FrM S w O fr a → x.length = ps.length → cx.length = ps.length → (∀ p ∈ ps, p < a.tmps.size) → RepL (fun _ => False) w noO x cx →
  FrM S w O (updL fr ps x) { a with tmps := (ps.zip cx).foldl (fun t (p, v) => t.setIfInBounds p v) a.tmps }
 | [], x, cx, fr, a, h, hx, hc, hp, hr => by
  have : x = [] := Q2 (by simpa using hx)
  subst this
  simpa [updL] using h
 | p :: ps, [], cx, fr, a, h, hx, hc, hp, hr => by simp at hx
 | p :: ps, v :: x, [], fr, a, h, hx, hc, hp, hr => by simp at hc
 | p :: ps, v :: x, c :: cx, fr, a, h, hx, hc, hp, hr => by
  simp only [RepL] at hr
  have hrep : Rep S w O v c := Qio (Rep.ext (S := fun _ => False) ⟨fun _ h => h.elim, fun _ _ _ h => by cases h⟩ _ _ hr.1)
  have h1 := FrM.put (dst := some p) (c := c) h (Ext.refl _ _ _) (fun d hd => by cases hd; exact hp p (by simp)) hrep
  have := Qq7 ps x cx (upd fr (some p) v) (a.put (some p) c) h1 (by simpa using hx) (by simpa using hc) (fun q hq => by rw [Qbk]; exact hp q (by simp [hq])) hr.2
  simpa [updL, Act.put] using this
theorem Qk3 : ∀ (l : List (Tmp × Value)) (t : Array Value), (l.foldl (fun t (p, v) => t.setIfInBounds p v) t).size = t.size
 | [], t => rfl
 | (p, v) :: l, t => by simp [Qk3 l]
theorem Qpe : ∀ (l : List (Tmp × Value)) (t : Array Value) (k : Nat), (∀ p ∈ l, p.1 ≠ k) → (l.foldl (fun t (p, v) => t.setIfInBounds p v) t).getD k undef = t.getD k undef
 | [], t, k, _ => rfl
 | (p, v) :: l, t, k, h => by
  rw [List.foldl_cons, Qpe l _ k fun q hq => h q (by simp [hq])]
  have : p ≠ k := h (p, v) (by simp)
  simp [Array.getElem?_setIfInBounds_ne this]
def Qjr (Γ : Gam) (P : Program) (M : FrI) (F : Fence) (n lo : Nat) (top : Nat) (r' : RC) (c : Code) : Prop :=
 ∀ (C : Ctx) (base : Nat), CtxOk P F n M C lo top base → ∀ (Q : Exit → St → Prop) (Q' : Exit → Act → World → Prop) (σ : St) (S : Nat → Prop) (w : World) (O : OInfo) (a : Act),
  wpR Γ (Qb1 P) r' Q σ → At C M S w O σ a → (∀ e σ' S' w' O' a', Q e σ' → At C M S' w' O' σ' a' → Q' e a' w') → c.wpIn F n P Q' a w
theorem Qjm (hF : Qc7 F) (l : Nat) : Qc7 (F.inRound l) := hF
set_option maxHeartbeats 1000000 in
theorem Qu1 (hG : GOk P Γ) (hF : Qc7 F) (hC : CtxOk P F n M C lo 1 base) {f0 : Operand} {f : Od} (hf : rOd P 0 f0 = some f) {ps : Array Tmp} {lo' : Nat} (hlo : lo ≤ lo') (hps : ∀ p ∈ ps.toList, p < M.n ∧ M.md ≤ p) {b' a' : RC} {cx cy : Code}
  (hb : ∀ l, Qjr Γ P M (F.inRound l) (n - 1 - 1) lo' 0 b' cx) (ha : ∀ l, Qjr Γ P M (F.inRound l) (n - 1 - 1) lo' 0 a' cy)
  {Q : Exit → St → Prop} {Q' : Exit → Act → World → Prop} {σ : St} {S : Nat → Prop} {w : World} {O : OInfo} {a : Act} (hw : wpR Γ (Qb1 P) (.rfn f ps.toList lo' b' a') Q σ) (hat : At C M S w O σ a)
  (hQ : ∀ e σ' S' w' O' a', Q e σ' → At C M S' w' O' σ' a' → Q' e a' w') : (Code.rangeFunc f0 ps cx cy).wpIn F n P Q' a w := by
 simp only [wpR] at hw
 have hrf := Qse hat.sr.fr hf
 split at hw
 ·rename_i gf caps hfv
  rw [hfv] at hrf
  split at hw
  ·rename_i ok ys hΓ
   obtain ⟨hg6, hok, href, hlen, I, hI0, hround, hdone⟩ := hw
   simp only [Rep] at hrf
   obtain ⟨ccs, hcf, hcn, hcr⟩ := hrf
   obtain ⟨hen, hit⟩ := hG.iter gf _ ys hg6 (by rw [hΓ]; exact hok) (by rw [hΓ])
   have hat1 := hat.drp hC hlo
   obtain ⟨S1, hS1⟩ : ∃ S1, S1 = cutS S O lo' := ⟨_, rfl⟩
   obtain ⟨O1, hO1⟩ : ∃ O1, O1 = Qcd O lo' := ⟨_, rfl⟩
   obtain ⟨fr0, hfr0⟩ : ∃ fr0 : Nat → V, fr0 = fun t => cutV σ.hp lo' (σ.fr t) := ⟨_, rfl⟩
   rw [← hS1, ← hO1, ← hfr0] at hat1
   rw [← hfr0] at hround hdone
   have hO1lt : ∀ id x, O1 id = some x → id < lo' := fun id x h => by rw [hO1] at h; exact (Qbe h).1
   have hSS1 : ∀ m, S m → S1 m := fun m h => by rw [hS1]; exact .inl h
   refine wpIn_rangeFunc ?_
   intro fn hfn
   rw [hC.rnd rfl]
   obtain ⟨rec, hrec⟩ : ∃ rec : LoopState → Option Code → Loop, rec = fun st pe => { state := st, pending := pe, fn, tmps := a.tmps, params := ps, assign := cx, body := cy, defers := w.heap.size } := ⟨_, rfl⟩
   obtain ⟨W1, hW1⟩ : ∃ W1, (w.alloc (.deferred (some []))).alloc (.loop (rec .ready none)) = W1 := ⟨_, rfl⟩
   obtain ⟨L, hL⟩ : ∃ L, L = w.heap.size + 1 := ⟨_, rfl⟩
   have hL1 : W1.heap[L]? = some (.loop (rec .ready none)) := by
    rw [← hW1, hL]; have := World.alloc_heap_new (w.alloc (.deferred (some []))) (.loop (rec .ready none)); rwa [World.size_alloc] at this
   have hlat : Later w W1 := by rw [← hW1]; exact (Qcw w _ rfl).trans (Qcw _ _ rfl)
   have hbase := hC.big rfl hat.ctx
   obtain ⟨J, hJ⟩ : ∃ J : Nat → World → Prop, J = fun k W => ∃ S2 O2 hp, I k hp ∧ C S2 W O2 (col w.heap.size :: a.defers) (ghO hp) ∧ FrM S2 W O2 fr0 a ∧ Mat S2 W O2 hp ∧ (∀ id x, O2 id = some x → id < lo') ∧ ¬ S2 L ∧ ¬ Own O2 L ∧
    W.heap[L]? = some (.loop (rec .ready none)) ∧ (∀ m, S m → S2 m ∧ W.heap[m]? = w.heap[m]?) ∧ W1.heap.size ≤ W.heap.size := ⟨_, rfl⟩
   obtain ⟨Jx, hJx⟩ : ∃ Jx : Nat → World → Prop, Jx = fun _ W => ∃ id S2 O2 hp, Q (.exit id) ⟨fr0, hp⟩ ∧ C S2 W O2 (col w.heap.size :: a.defers) (ghO hp) ∧ FrM S2 W O2 fr0 a ∧ Mat S2 W O2 hp ∧ ¬ S2 L ∧ ¬ Own O2 L ∧
    W.heap[L]? = some (.loop (rec .done (some (.exit id)))) ∧ (∀ m, S m → S2 m ∧ W.heap[m]? = w.heap[m]?) ∧ W1.heap.size ≤ W.heap.size := ⟨_, rfl⟩
   have hJl : ∀ k W W', J k W → Later W W' → J k W' := by
    intro k W W' h hl
    rw [hJ] at h ⊢
    obtain ⟨S2, O2, hp, h1, h2, h3, h4, h5, h6, h7, h8, h9, h10⟩ := h
    have ev := hl.evol h4.lt (Qco h4)
    refine ⟨S2, O2, hp, h1, hC.evol h2 h4.lt ev (fun _ h => h), h3.ext ev.ext, Qjf h4 hl, h5, h6, h7, (hl.old L (Array.getElem?_eq_some_iff.1 h8).1).trans h8, fun m hm => ⟨(h9 m hm).1, ?_⟩, Qr h10 hl.size⟩
    rw [hl.old m (h4.lt m (h9 m hm).1)]
    exact (h9 m hm).2
   have hJxl : ∀ k W W', Jx k W → Later W W' → Jx k W' := by
    intro k W W' h hl
    rw [hJx] at h ⊢
    obtain ⟨id, S2, O2, hp, h1, h2, h3, h4, h6, h7, h8, h9, h10⟩ := h
    have ev := hl.evol h4.lt (Qco h4)
    refine ⟨id, S2, O2, hp, h1, hC.evol h2 h4.lt ev (fun _ h => h), h3.ext ev.ext, Qjf h4 hl, h6, h7, (hl.old L (Array.getElem?_eq_some_iff.1 h8).1).trans h8, fun m hm => ⟨(h9 m hm).1, ?_⟩, Qr h10 hl.size⟩
    rw [hl.old m (h4.lt m (h9 m hm).1)]
    exact (h9 m hm).2
   have hJ0 : J 0 W1 := by
    rw [hJ]
    have ev := hlat.evol hat1.sr.mat.lt (Qco hat1.sr.mat)
    refine ⟨S1, O1, cutH lo' σ.hp, hI0, ?_, hat1.sr.fr.ext ev.ext, Qjf hat1.sr.mat hlat, hO1lt, fun h => ?_, fun h => ?_, hL1, fun m hm => ⟨hSS1 m hm, hlat.old m (hat.sr.mat.lt m hm)⟩, Qf _⟩
    ·rw [← hW1]
     exact hC.enter rfl hat1.ctx hat1.sr.mat.lt (Qco hat1.sr.mat)
    ·have := hat1.sr.mat.lt L h; omega
    ·have := Qco hat1.sr.mat L h; omega
   have hbL : base ≤ L := by omega
   refine ⟨L, [{ target := .collected w.heap.size, args := #[] }], W1, { target := .fn (.func gf) ccs, args := #[.func (.yield L) #[] #[]] }, W1, gf,
    #[.func (.yield L) #[] #[]] ++ ccs, W1, ?_, ?_, ?_, ?_, fun h => by simp [hF.2.1] at h, ?_⟩
   ·rw [← hW1, hrec, hL]; exact run_enterLoop_outer _ _ _ _ _
   ·simp only [resolve, hcf]
    simp [go_sem]
   ·intro f' hf'; exact hF.1 f'
   ·simp only [invoke]; exact hen _ _
   ·refine (hit F (n - 1) S W1 ccs L J Jx hF (hC.rnd rfl) (fun m hm => Qz (hat.sr.mat.lt m hm) hlat.size) (by simpa using hcn) ?_ hJl hJxl ?_ ?_ hJ0).mono ?_
    ·have h0 := Qi0 (hp := σ.hp) _ _ href hcr
     exact RepL.ext ⟨fun m hm => ⟨hm, hlat.old m (hat.sr.mat.lt m hm)⟩, fun _ _ _ h => by cases h⟩ _ _ h0
    ·rintro k W (h | h)
     ·rw [hJ] at h
      obtain ⟨S2, O2, hp, h1, h2, h3, h4, h5, h6, h7, h8, h9, h10⟩ := h
      exact ⟨h10, fun m hm => (h9 m hm).2.trans (hlat.old m (hat.sr.mat.lt m hm)).symm⟩
     ·rw [hJx] at h
      obtain ⟨id, S2, O2, hp, h1, h2, h3, h4, h6, h7, h8, h9, h10⟩ := h
      exact ⟨h10, fun m hm => (h9 m hm).2.trans (hlat.old m (hat.sr.mat.lt m hm)).symm⟩
    ·
     intro k x W cxs hx h hxr hxs
     rw [hJ] at h
     obtain ⟨S2, O2, hp, h1, h2, h3, h4, h5, h6, h7, h8, h9, h10⟩ := h
     have hxl : x.length = ps.size := by have := hlen x (Q1 hx); simpa using this
     have hy := run_yield (P := P) (args := cxs) h8 (by rw [hrec]; show cxs.size = ps.size; omega)
     rw [hrec] at hy
     refine ⟨fn, _, cx, cy, hy, roundIn_of_wpIn hfn ?_⟩
     obtain ⟨Cb, hCb⟩ : ∃ Cb : Loop → Ctx, Cb = fun r S' W' O' ds' h' => ds' = [] ∧ C S' W' O' (col w.heap.size :: a.defers) h' ∧ ExtN lo' S2 S' W W' O2 O' ∧ ¬ S' L ∧ ¬ Own O' L ∧ W'.heap[L]? = some (.loop r) ∧ W.heap.size ≤ W'.heap.size := ⟨_, rfl⟩
     have hCbOk : ∀ r, CtxOk P (F.inRound L) (n - 1 - 1) M (Cb r) lo' 0 0 := by
      intro r
      rw [hCb]
      refine ⟨?_, ?_, fun h => (by cases h), fun h => (by cases h), fun h => (by cases h), fun h => (by cases h), fun h => (by cases h), fun h => (by cases h), fun h => (by cases h), fun h => (by cases h)⟩
      ·rintro S' S'' W' W'' O' O'' ds g g' ⟨k1, k2, k3, k4, k5, k6, k7⟩ hlt ev hg
       have hLlt := (Array.getElem?_eq_some_iff.1 k6).1
       refine ⟨k1, hC.evol k2 hlt ev hg, k3.then ev.ext, fun hS => ?_, fun hO => ?_, (ev.old L hLlt k5).trans k6, Qr k7 ev.size⟩
       ·rcases ev.grow L hS with h | h | h
        ·exact k4 h
        ·exact k5 h
        ·omega
       ·rcases ev.fresh L hO with h | h
        ·exact k5 h
        ·omega
      ·rintro S' W' O' ds g g' kk ⟨k1, k2, k3, k4, k5, k6, k7⟩ hkk hg
       refine ⟨k1, hC.cut k2 (Qr hlo hkk) (fun hl => hg (Qr hl hlo)), k3.cut hkk, ?_, fun ⟨id, g2, ho⟩ => k5 ⟨id, g2, (Qbe ho).2⟩, k6, k7⟩
       rintro (h | ⟨id, g2, ho⟩)
       ·exact k4 h
       ·exact k5 ⟨id, g2, (Qbi ho).2⟩
     have hpsz : ∀ p ∈ ps.toList, p < a.tmps.size := fun p hp => by rw [hat.sr.size]; exact (hps p hp).1
     refine hb L (Cb (rec .ready none)) 0 (hCbOk _) _ _ ⟨updL fr0 ps.toList x, hp⟩ S2 W O2 _ (hround k x hp hx h1) ⟨?_, ⟨?_, ?_, ?_, h4⟩⟩ ?_
     ·rw [hCb]; exact ⟨rfl, h2, ExtN.refl _ _ _ _, h6, h7, h8, Qf _⟩
     ·show ((ps.zip cxs).foldl (fun t (x : Tmp × Value) => t.setIfInBounds x.1 x.2) a.tmps).size = _
      rw [← Array.foldl_toList, Qk3, hat.sr.size]
     ·intro t ht
      show ((ps.zip cxs).foldl (fun t (x : Tmp × Value) => t.setIfInBounds x.1 x.2) a.tmps).getD t undef = _
      rw [← Array.foldl_toList, Qpe]
      ·exact hat.sr.kept t ht
      ·rintro ⟨p, v⟩ hpv
       have : p ∈ ps.toList := by
        rw [Array.toList_zip] at hpv
        exact (Zj hpv).1
       have := (hps p this).2
       intro h
       have h : p = t := h
       rw [h] at this
       exact absurd this (Nat.not_le.2 ht)
     ·have := Qq7 ps.toList x cxs.toList fr0 { tmps := a.tmps, defers := [] } h3 (by simpa using hxl) (by simp; omega) hpsz hxr
      have e : (ps.zip cxs).foldl (fun t (x : Tmp × Value) => t.setIfInBounds x.1 x.2) a.tmps = (ps.toList.zip cxs.toList).foldl (fun t (x : Tmp × Value) => t.setIfInBounds x.1 x.2) a.tmps := by
       rw [← Array.foldl_toList, Array.toList_zip]
      show FrM S2 W O2 (updL fr0 ps.toList x) { tmps := (ps.zip cxs).foldl (fun t (x : Tmp × Value) => t.setIfInBounds x.1 x.2) a.tmps, defers := [] }
      rw [e]
      exact this
     ·
      intro e σ1 S3 W3 O3 a3 he hat3
      cases e <;> first | exact he.elim | skip
      have hctx3 := hat3.ctx
      rw [hCb] at hctx3
      obtain ⟨k1, k2, k3, k4, k5, k6, k7⟩ := hctx3
      have hbeg := run_beginRound (P := P) k6 (by rw [hrec])
      refine ⟨_, hbeg, ?_⟩
      have hL3 := (Array.getElem?_eq_some_iff.1 k6).1
      refine ha L (Cb { rec .ready none with state := .busy }) 0 (hCbOk _) _ _ σ1 S3 _ O3 a3 he ⟨?_, Qg3 hat3.sr _ k4 k5⟩ ?_
      ·rw [hCb]
       exact ⟨k1, hC.turn rfl k2 k6 k4 k5 hbL, k3.then (Qf9 _ k4 k5), k4, k5, World.putObj_heap_same hL3, by simpa using k7⟩
      ·
       intro e σ5 S5 W5 O5 a5 he5 hat5
       have hctx5 := hat5.ctx
       rw [hCb] at hctx5
       obtain ⟨m1, m2, m3, m4, m5, m6, m7⟩ := hctx5
       have hL5 := (Array.getElem?_eq_some_iff.1 m6).1
       have c4 : ¬ cutS S5 O5 lo' L := by
        rintro (h | ⟨id, g2, ho⟩)
        ·exact m4 h
        ·exact m5 ⟨id, g2, (Qbi ho).2⟩
       have c5 : ¬ Own (Qcd O5 lo') L := fun ⟨id, g2, ho⟩ => m5 ⟨id, g2, (Qbe ho).2⟩
       have hc := hC.cut (h' := ghO (cutH lo' σ5.hp)) m2 hlo fun hl y hy => Qsn hy (by omega)
       have hx5 : Ext S2 (cutS S5 O5 lo') W W5 O2 (Qcd O5 lo') := (m3.cut (Qf _)).ext h5
       have common : ∀ r : Loop, C (cutS S5 O5 lo') (W5.putObj L (.loop r)) (Qcd O5 lo') (col w.heap.size :: a.defers) (ghO (cutH lo' σ5.hp)) ∧ FrM (cutS S5 O5 lo') (W5.putObj L (.loop r)) (Qcd O5 lo') fr0 a ∧
         Mat (cutS S5 O5 lo') (W5.putObj L (.loop r)) (Qcd O5 lo') (cutH lo' σ5.hp) := fun r =>
        ⟨hC.turn rfl hc m6 c4 c5 hbL, (h3.ext hx5).ext (Qf9 _ c4 c5), Qmw (Qme hat5.sr.mat lo') _ c4 c5⟩
       have hrdy : ∀ jump : Option Code, ({ ({ rec .ready none with state := .busy } : Loop) with state := if jump.isNone then .ready else .done, pending := jump } : Loop) = rec (if jump.isNone then .ready else .done) jump := by
        intro jump; rw [hrec]
       cases e <;> first | exact he5.elim | skip
       case normal =>
        obtain ⟨c1, c2, c3⟩ := common (rec .ready none)
        refine ⟨_, _, run_endRound (P := P) none m6, .inl ⟨rfl, ?_⟩⟩
        rw [hrdy none, hJ]
        simp only [Zf, if_true]
        refine ⟨_, _, cutH lo' σ5.hp, he5, c1, c2, c3, fun id x h => (Qbe h).1, c4, c5, World.putObj_heap_same hL5, fun m hm => ?_, ?_⟩
        ·have := hx5.keep m (h9 m hm).1
         refine ⟨this.1, ?_⟩
         rw [World.putObj_heap_other (by rintro rfl; exact c4 this.1), this.2]
         exact (h9 m hm).2
        ·have : W1.heap.size ≤ W5.heap.size := Qr h10 m7
         simpa using this
       case exit id =>
        obtain ⟨c1, c2, c3⟩ := common (rec .done (some (.exit id)))
        refine ⟨_, _, run_endRound (P := P) (some (.exit id)) m6, .inr ⟨rfl, ?_⟩⟩
        rw [hrdy (some (.exit id)), hJx]
        simp only [Zg, Q5, if_false]
        refine ⟨id, _, _, cutH lo' σ5.hp, he5, c1, c2, c3, c4, c5, World.putObj_heap_same hL5, fun m hm => ?_, ?_⟩
        ·have := hx5.keep m (h9 m hm).1
         refine ⟨this.1, ?_⟩
         rw [World.putObj_heap_other (by rintro rfl; exact c4 this.1), this.2]
         exact (h9 m hm).2
        ·have : W1.heap.size ≤ W5.heap.size := Qr h10 m7
         simpa using this
    ·
     rintro e W2 ⟨⟨v, rfl⟩, h | ⟨k, h⟩⟩
     ·rw [hJ] at h
      obtain ⟨S2, O2, hp, h1, h2, h3, h4, h5, h6, h7, h8, h9, h10⟩ := h
      refine ⟨none, _, by have := run_endLoop (P := P) h8 (by rw [hrec]; simp); rw [hrec] at this; exact this, ?_⟩
      have s := Qg3 (σ := ⟨fr0, hp⟩) ⟨hat.sr.size, hat.sr.kept, h3, h4⟩ (.loop { rec .ready none with state := .exhausted }) h6 h7
      rw [hrec] at s
      exact hQ _ ⟨fr0, hp⟩ S2 _ O2 _ (hdone hp h1) ⟨hC.turn rfl h2 h8 h6 h7 hbL, ⟨s.size, s.kept, s.fr, s.mat⟩⟩
     ·rw [hJx] at h
      obtain ⟨id, S2, O2, hp, h1, h2, h3, h4, h6, h7, h8, _, _⟩ := h
      refine ⟨some (.exit id), _, by have := run_endLoop (P := P) h8 (by rw [hrec]; simp); rw [hrec] at this; exact this, ?_⟩
      have s := Qg3 (σ := ⟨fr0, hp⟩) ⟨hat.sr.size, hat.sr.kept, h3, h4⟩ (.loop { rec .done (some (.exit id)) with state := .exhausted }) h6 h7
      rw [hrec] at s
      exact wpIn_exit (hQ _ ⟨fr0, hp⟩ S2 _ O2 _ h1 ⟨hC.turn rfl h2 h8 h6 h7 hbL, ⟨s.size, s.kept, s.fr, s.mat⟩⟩)
  ·exact hw.elim
 ·exact hw.elim
theorem Qml {S S' : Nat → Prop} {w w' : World} {O O' : OInfo} (h : Ext S S' w w' O O') (k : Nat) : Ext S S' w w' (Qcd O k) (Qcd O' k) := by
 refine ⟨h.keep, fun id g ob ho => ?_⟩
 obtain ⟨hl, ho'⟩ := Qbe ho
 obtain ⟨g', ob', h1, h2⟩ := h.own id g ob ho'
 exact ⟨g', ob', by unfold Qcd; rw [if_pos hl]; exact h1, h2⟩
theorem Qrc {S : Nat → Prop} {w : World} {O : OInfo} (k : Nat) : Ext S S w w (Qcd O k) O := by
 refine ⟨fun n hn => ⟨hn, rfl⟩, fun id g ob ho => ⟨g, ob, (Qbe ho).2, Qf _, fun _ => ⟨rfl, fun b cur e _ hh => ⟨cur, hh, rfl⟩⟩⟩⟩
theorem Qkt {O : OInfo} {j k : Nat} (h : k ≤ j) : Qcd (Qcd O j) k = Qcd O k := by
 funext id
 unfold Qcd
 split
 ·rw [if_pos (by omega)]
 ·rfl
theorem Qo3 {S : Nat → Prop} {w : World} {O : OInfo} : ∀ (ps : List Tmp) (x : List V) (cx : List Value) (fr : Nat → V) (a : Act), FrM S w O fr a → x.length = ps.length → cx.length = ps.length → (∀ p ∈ ps, p < a.tmps.size) → RepL S w O x cx →
  FrM S w O (updL fr ps x) { a with tmps := (ps.zip cx).foldl (fun t (p, v) => t.setIfInBounds p v) a.tmps }
 | [], x, cx, fr, a, h, hx, hc, hp, hr => by
  have : x = [] := Q2 (by simpa using hx)
  subst this
  simpa [updL] using h
 | p :: ps, [], cx, fr, a, h, hx, hc, hp, hr => by simp at hx
 | p :: ps, v :: x, [], fr, a, h, hx, hc, hp, hr => by simp at hc
 | p :: ps, v :: x, c :: cx, fr, a, h, hx, hc, hp, hr => by
  simp only [RepL] at hr
  have h1 := FrM.put (dst := some p) (c := c) h (Ext.refl _ _ _) (fun d hd => by cases hd; exact hp p (by simp)) hr.1
  have := Qo3 ps x cx (upd fr (some p) v) (a.put (some p) c) h1 (by simpa using hx) (by simpa using hc) (fun q hq => by rw [Qbk]; exact hp q (by simp [hq])) hr.2
  simpa [updL, Act.put] using this
theorem Qu3 (hF : Qc7 F) {m : Nat} {l : Nat} {f : FuncId} {tmps : Array Value} {assign body : Code} {w : World} {R : Ending → World → Prop} (h : RoundIn F n P l f tmps assign body w R) : RoundIn F m P l f tmps assign body w R :=
 ⟨h.1, fun c cs _ => h.2 c cs (fun d hd => by rw [hF.2.1] at hd; cases hd)⟩
set_option maxHeartbeats 1000000 in
theorem Qtz (hG : GOk P Γ) (hF : Qc7 F) (hC : CtxOk P F n M C lo 1 base) {f0 : Operand} {f : Od} (hf : rOd P 0 f0 = some f) {ps : Array Tmp} {lo' zl : Nat} (hlo : lo ≤ lo') (hps : ∀ p ∈ ps.toList, p < M.n ∧ M.md ≤ p) {b' a' : RC} {cx cy : Code}
  (hb : ∀ l, Qjr Γ P M (F.inRound l) (n - 1 - 1) (lo' + zl) 0 b' cx) (ha : ∀ l, Qjr Γ P M (F.inRound l) (n - 1 - 1) (lo' + zl) 0 a' cy)
  {Q : Exit → St → Prop} {Q' : Exit → Act → World → Prop} {σ : St} {S : Nat → Prop} {w : World} {O : OInfo} {a : Act} (hw : wpR Γ (Qb1 P) (.rfh f ps.toList lo' zl b' a') Q σ) (hat : At C M S w O σ a)
  (hQ : ∀ e σ' S' w' O' a', Q e σ' → At C M S' w' O' σ' a' → Q' e a' w') : (Code.rangeFunc f0 ps cx cy).wpIn F n P Q' a w := by
 simp only [wpR] at hw
 have hrf0 := Qse hat.sr.fr hf
 have hrf := Qjw hat.sr.mat lo' _ _ hrf0
 split at hw
 ·rename_i gf caps sd hfv
  obtain ⟨al, ys, bv0, I, hhp0, hI0, hIal, hallo, hcall, hround, hdone⟩ := hw
  obtain ⟨enc, henc⟩ : ∃ enc : List V × List V → List V, enc = fun y => gyE y.1 y.2 := ⟨_, rfl⟩
  rw [← henc] at hcall
  have hrf2 : ∃ bnd cap : Array Value, a.eval f0 = .func (.func gf) bnd cap ∧ (bnd.size + cap.size = caps.length) ∧ ∀ (L : Nat) (S2 : Nat → Prop) (W2 : World) (O2 : OInfo), Ext (cutS S O lo') S2 w W2 (Qcd O lo') O2 → RepL S2 W2 O2 (rfG caps sd L) (bnd ++ #[Value.func (.yield L) #[] #[]] ++ cap).toList := by
   unfold rfA at hfv
   split at hfv
   ·rename_i g0 c0 hcv
    simp only [Qb.injEq, Prod.mk.injEq] at hfv
    obtain ⟨rfl, rfl, rfl⟩ := hfv
    rw [hcv] at hrf
    simp only [Rep] at hrf
    obtain ⟨ccs, hcf, hcn, hcr⟩ := hrf
    refine ⟨#[], ccs, hcf, by simp [hcn], fun L S2 W2 O2 hx => ?_⟩
    simp only [rfG, Q5, if_false, Array.toList_append, List.nil_append, Zi, RepL, Rep]
    exact ⟨trivial, RepL.ext hx _ _ hcr⟩
   ·rename_i g0 c0 hcv
    simp only [Qb.injEq, Prod.mk.injEq] at hfv
    obtain ⟨rfl, rfl, rfl⟩ := hfv
    rw [hcv] at hrf
    simp only [Rep] at hrf
    obtain ⟨ccs, hcf, hcn, hcr⟩ := hrf
    refine ⟨ccs, #[], hcf, by simp [hcn], fun L S2 W2 O2 hx => ?_⟩
    have h1 := RepL.ext hx.noO _ _ hcr
    have h2 : RepL S2 W2 O2 c0 ccs.toList := RepL.ext ⟨fun _ h => ⟨h, rfl⟩, fun _ _ _ h => by cases h⟩ _ _ h1
    simp only [rfG, if_true, Array.toList_append, List.append_nil]
    exact RepL.append _ _ _ _ h2 (by simp [hcn]) (by simp [RepL, Rep])
   ·cases hfv
  obtain ⟨bnd, cap, hcf, hcn, hcr⟩ := hrf2
  have hat1 := hat.drp hC hlo
  obtain ⟨S1, hS1⟩ : ∃ S1, S1 = cutS S O lo' := ⟨_, rfl⟩
  obtain ⟨O1, hO1⟩ : ∃ O1, O1 = Qcd O lo' := ⟨_, rfl⟩
  obtain ⟨fr0, hfr0⟩ : ∃ fr0 : Nat → V, fr0 = fun t => cutV σ.hp lo' (σ.fr t) := ⟨_, rfl⟩
  rw [← hS1, ← hO1, ← hfr0, hhp0] at hat1
  rw [← hS1, ← hO1] at hcr
  have hlenG : ∀ L, (rfG caps sd L).length = caps.length + 1 := fun L => by unfold rfG; split <;> simp
  rw [← hfr0] at hround hdone
  have hO11 : Qcd O1 lo' = O1 := by rw [hO1]; exact Qkt (Qf _)
  have hbv0 := (hallo bv0 (hIal 0 bv0 hI0)).1
  refine wpIn_rangeFunc ?_
  intro fn hfn
  rw [hC.rnd rfl]
  obtain ⟨rec, hrec⟩ : ∃ rec : LoopState → Option Code → Loop, rec = fun st pe => { state := st, pending := pe, fn, tmps := a.tmps, params := ps, assign := cx, body := cy, defers := w.heap.size } := ⟨_, rfl⟩
  obtain ⟨W1, hW1⟩ : ∃ W1, (w.alloc (.deferred (some []))).alloc (.loop (rec .ready none)) = W1 := ⟨_, rfl⟩
  obtain ⟨L, hL⟩ : ∃ L, L = w.heap.size + 1 := ⟨_, rfl⟩
  have hL1 : W1.heap[L]? = some (.loop (rec .ready none)) := by
   rw [← hW1, hL]; have := World.alloc_heap_new (w.alloc (.deferred (some []))) (.loop (rec .ready none)); rwa [World.size_alloc] at this
  have hlat : Later w W1 := by rw [← hW1]; exact (Qcw w _ rfl).trans (Qcw _ _ rfl)
  have hbase := hC.big rfl hat.ctx
  have hbL : base ≤ L := by omega
  obtain ⟨capL, hcapL⟩ : ∃ capL, capL = V.yl L :: caps := ⟨_, rfl⟩
  obtain ⟨CJ, hCJ⟩ : ∃ CJ : (Nat → Prop) → World → OInfo → Gh → Prop, CJ = fun S2 W O2 h => ∃ (b : Bool) (bv : List V) (rest : List (List V)), h = some (capL, some (gyA b bv :: rest)) ∧ C S2 W O2 (col w.heap.size :: a.defers) none ∧ FrM S2 W (Qcd O2 lo') fr0 a ∧
    ¬ S2 L ∧ ¬ Own O2 L ∧ ((b = true ∧ (∃ k, k ≤ ys.length ∧ rest = (ys.drop k).map enc ∧ I k bv) ∧ W.heap[L]? = some (.loop (rec .ready none))) ∨
     (b = false ∧ rest = [] ∧ ∃ id, Q (.exit id) ⟨fr0, .hole :: bv.map vB⟩ ∧ W.heap[L]? = some (.loop (rec .done (some (.exit id)))))) := ⟨_, rfl⟩
  have hevL : ∀ {S2 S3 W W' O2 O3}, Evol S2 S3 W W' O2 O3 → ¬ S2 L → ¬ Own O2 L → L < W.heap.size → ¬ S3 L ∧ ¬ Own O3 L ∧ W'.heap[L]? = W.heap[L]? := by
   intro S2 S3 W W' O2 O3 ev h1 h2 h3
   refine ⟨fun hS => ?_, fun hO => ?_, ev.old L h3 h2⟩
   ·rcases ev.grow L hS with h | h | h
    ·exact h1 h
    ·exact h2 h
    ·omega
   ·rcases ev.fresh L hO with h | h
    ·exact h2 h
    ·omega
  have hyok : YOk P F al lo' CJ := by
   refine ⟨?_, ?_, ?_⟩
   ·intro S2 S3 W W' O2 O3 h h' hc hlt ev hg
    rw [hCJ] at hc ⊢
    obtain ⟨b, bv, rest, h1, h2, h3, h4, h5, h6⟩ := hc
    have hLW : L < W.heap.size := by
     rcases h6 with ⟨_, _, h⟩ | ⟨_, _, _, _, h⟩ <;> exact (Array.getElem?_eq_some_iff.1 h).1
    obtain ⟨e1, e2, e3⟩ := hevL ev h4 h5 hLW
    refine ⟨b, bv, rest, hg _ h1, hC.evol h2 hlt ev (fun _ h => h), h3.ext (Qml ev.ext lo'), e1, e2, ?_⟩
    rw [e3]
    exact h6
   ·intro S2 W O2 h h' k hc hk hg
    rw [hCJ] at hc ⊢
    obtain ⟨b, bv, rest, h1, h2, h3, h4, h5, h6⟩ := hc
    refine ⟨b, bv, rest, hg _ h1, hC.cut h2 (Qr hlo hk) (fun _ _ h => h), ?_, ?_, fun ⟨id, g, ho⟩ => h5 ⟨id, g, (Qbe ho).2⟩, h6⟩
    ·rw [Qkt hk]
     exact h3.ext ⟨fun n hn => ⟨.inl hn, rfl⟩, fun id g ob ho => ⟨g, ob, ho, Qf _, fun _ => ⟨rfl, fun b cur e _ hh => ⟨cur, hh, rfl⟩⟩⟩⟩
    ·rintro (h | ⟨id, g, ho⟩)
     ·exact h4 h
     ·exact h5 ⟨id, g, (Qbi ho).2⟩
   ·
    intro S2 W O2 caps' bv x z rest cxs l m hc hmat hl hxr hxs
    rw [hCJ] at hc
    obtain ⟨b, bv1, rest1, h1, h2, h3, h4, h5, h6⟩ := hc
    simp only [Qb.injEq, Prod.mk.injEq, Zm.injEq, V.b.injEq] at h1
    obtain ⟨rfl, ⟨rfl, rfl⟩, rfl⟩ := h1
    rw [hcapL] at hl
    simp only [Qq, Qb.injEq, V.yl.injEq] at hl
    subst hl
    rcases h6 with ⟨_, ⟨k, hk, hrest, hI⟩, h8⟩ | ⟨hbf, _⟩
    ·have hyk : ys[k]? = some (x, z) := by
      have e := congrArg (fun l => l[0]?) hrest
      simp only [Qq, Qk, Zd, Nat.add_zero] at e
      cases hy : ys[k]? with
      | none => rw [hy] at e; cases e
      | some y =>
       rw [hy, henc] at e
       simp only [Qn, Qb.injEq, Zm.injEq, V.tp.injEq, and_true] at e
       rw [e.1, e.2]
     have hrest2 : rest = (ys.drop (k + 1)).map enc := by
      have e := congrArg List.tail hrest
      simpa [List.tail_drop] using e
     have hklt := Qaf hyk
     obtain ⟨hxl0, hzl, hwp⟩ := hround k x z bv hyk hI
     have hxl : x.length = ps.size := by simpa using hxl0
     have hbvl := (hallo bv (hIal k bv hI)).1
     have hy := run_yield (P := P) (args := cxs) h8 (by rw [hrec]; show cxs.size = ps.size; omega)
     rw [hrec] at hy
     refine ⟨fn, _, cx, cy, hy, Qu3 (n := n - 1 - 1) hF (roundIn_of_wpIn hfn ?_)⟩
     obtain ⟨Cb, hCb⟩ : ∃ Cb : Loop → Ctx, Cb = fun r S' W' O' ds' _ => ds' = [] ∧ C S' W' O' (col w.heap.size :: a.defers) none ∧ ExtN (lo' + zl) S2 S' W W' O2 O' ∧ ¬ S' L ∧ ¬ Own O' L ∧ W'.heap[L]? = some (.loop r) := ⟨_, rfl⟩
     have hCbOk : ∀ r, CtxOk P (F.inRound L) (n - 1 - 1) M (Cb r) (lo' + zl) 0 0 := by
      intro r
      rw [hCb]
      refine ⟨?_, ?_, fun h => (by cases h), fun h => (by cases h), fun h => (by cases h), fun h => (by cases h), fun h => (by cases h), fun h => (by cases h), fun h => (by cases h), fun h => (by cases h)⟩
      ·rintro S' S'' W' W'' O' O'' ds g g' ⟨k1, k2, k3, k4, k5, k6⟩ hlt ev hg
       obtain ⟨e1, e2, e3⟩ := hevL ev k4 k5 (Array.getElem?_eq_some_iff.1 k6).1
       exact ⟨k1, hC.evol k2 hlt ev (fun _ h => h), k3.then ev.ext, e1, e2, e3.trans k6⟩
      ·rintro S' W' O' ds g g' kk ⟨k1, k2, k3, k4, k5, k6⟩ hkk hg
       refine ⟨k1, hC.cut k2 (by omega) (fun _ _ h => h), k3.cut hkk, ?_, fun ⟨id, g2, ho⟩ => k5 ⟨id, g2, (Qbe ho).2⟩, k6⟩
       rintro (h | ⟨id, g2, ho⟩)
       ·exact k4 h
       ·exact k5 ⟨id, g2, (Qbi ho).2⟩
     have hpsz : ∀ p ∈ ps.toList, p < a.tmps.size := fun p hp => by rw [hat.sr.size]; exact (hps p hp).1
     have hO2lt : ∀ id y, O2 id = some y → id < lo' + zl := by
      intro id y hy
      have := Qiz hmat hy
      simp only [Q6, Zk, List.length_append] at this
      omega
     refine hb L (Cb (rec .ready none)) 0 (hCbOk _) _ _ ⟨updL fr0 ps.toList x, .hole :: (bv ++ z).map vB⟩ S2 W O2 _ hwp ⟨?_, ⟨?_, ?_, ?_, hmat⟩⟩ ?_
     ·rw [hCb]; exact ⟨rfl, h2, ExtN.refl _ _ _ _, h4, h5, h8⟩
     ·show ((ps.zip cxs).foldl (fun t (x : Tmp × Value) => t.setIfInBounds x.1 x.2) a.tmps).size = _
      rw [← Array.foldl_toList, Qk3, hat.sr.size]
     ·intro t ht
      show ((ps.zip cxs).foldl (fun t (x : Tmp × Value) => t.setIfInBounds x.1 x.2) a.tmps).getD t undef = _
      rw [← Array.foldl_toList, Qpe]
      ·exact hat.sr.kept t ht
      ·rintro ⟨p, v⟩ hpv
       have : p ∈ ps.toList := by
        rw [Array.toList_zip] at hpv
        exact (Zj hpv).1
       have := (hps p this).2
       intro h
       have h : p = t := h
       rw [h] at this
       exact absurd this (Nat.not_le.2 ht)
     ·have := Qo3 (O := O2) ps.toList x cxs.toList fr0 { tmps := a.tmps, defers := [] } (FrM.ext h3 (Qrc lo')) (by simpa using hxl) (by simp; omega) hpsz hxr
      have e : (ps.zip cxs).foldl (fun t (x : Tmp × Value) => t.setIfInBounds x.1 x.2) a.tmps = (ps.toList.zip cxs.toList).foldl (fun t (x : Tmp × Value) => t.setIfInBounds x.1 x.2) a.tmps := by
       rw [← Array.foldl_toList, Array.toList_zip]
      show FrM S2 W O2 (updL fr0 ps.toList x) { tmps := (ps.zip cxs).foldl (fun t (x : Tmp × Value) => t.setIfInBounds x.1 x.2) a.tmps, defers := [] }
      rw [e]
      exact this
     ·
      intro e σ1 S3 W3 O3 a3 he hat3
      cases e <;> first | exact he.elim | skip
      have hctx3 := hat3.ctx
      rw [hCb] at hctx3
      obtain ⟨k1, k2, k3, k4, k5, k6⟩ := hctx3
      have hbeg := run_beginRound (P := P) k6 (by rw [hrec])
      refine ⟨_, hbeg, ?_⟩
      have hL3 := (Array.getElem?_eq_some_iff.1 k6).1
      refine ha L (Cb { rec .ready none with state := .busy }) 0 (hCbOk _) _ _ σ1 S3 _ O3 a3 he ⟨?_, Qg3 hat3.sr _ k4 k5⟩ ?_
      ·rw [hCb]
       exact ⟨k1, hC.turn rfl k2 k6 k4 k5 hbL, k3.then (Qf9 _ k4 k5), k4, k5, World.putObj_heap_same hL3⟩
      ·
       intro e σ5 S5 W5 O5 a5 he5 hat5
       have hctx5 := hat5.ctx
       rw [hCb] at hctx5
       obtain ⟨m1, m2, m3, m4, m5, m6⟩ := hctx5
       have hL5 := (Array.getElem?_eq_some_iff.1 m6).1
       obtain ⟨S6, hS6⟩ : ∃ S6, S6 = cutS S5 O5 (lo' + zl) := ⟨_, rfl⟩
       obtain ⟨O6, hO6⟩ : ∃ O6, O6 = Qcd O5 (lo' + zl) := ⟨_, rfl⟩
       have c4 : ¬ S6 L := by
        rw [hS6]
        rintro (h | ⟨id, g2, ho⟩)
        ·exact m4 h
        ·exact m5 ⟨id, g2, (Qbi ho).2⟩
       have c5 : ¬ Own O6 L := by
        rw [hO6]
        exact fun ⟨id, g2, ho⟩ => m5 ⟨id, g2, (Qbe ho).2⟩
       have hc : C S6 W5 O6 (col w.heap.size :: a.defers) none := by
        rw [hS6, hO6]
        exact hC.cut m2 (by omega) (fun _ _ h => h)
       have hx5 : Ext S2 S6 W W5 O2 O6 := by
        rw [hS6, hO6]
        exact (m3.cut (Qf _)).ext hO2lt
       have hm5 : Mat S6 W5 O6 (cutH (lo' + zl) σ5.hp) := by
        rw [hS6, hO6]
        exact Qme hat5.sr.mat (lo' + zl)
       have common : ∀ r : Loop, C S6 (W5.putObj L (.loop r)) O6 (col w.heap.size :: a.defers) none ∧ FrM S6 (W5.putObj L (.loop r)) (Qcd O6 lo') fr0 a ∧
         Mat S6 (W5.putObj L (.loop r)) O6 (cutH (lo' + zl) σ5.hp) ∧ Ext S2 S6 W (W5.putObj L (.loop r)) O2 O6 := fun r =>
        ⟨hC.turn rfl hc m6 c4 c5 hbL, (h3.ext (Qml hx5 lo')).ext (Qml (Qf9 _ c4 c5) lo'), Qmw hm5 _ c4 c5, hx5.trans (Qf9 _ c4 c5)⟩
       have hrdy : ∀ jump : Option Code, ({ ({ rec .ready none with state := .busy } : Loop) with state := if jump.isNone then .ready else .done, pending := jump } : Loop) = rec (if jump.isNone then .ready else .done) jump := by
        intro jump; rw [hrec]
       cases e <;> first | exact he5.elim | skip
       case normal =>
        obtain ⟨c1, c2, c3, cx3⟩ := common (rec .ready none)
        obtain ⟨bv', g1, g2, g3, g4⟩ := he5
        refine ⟨_, _, run_endRound (P := P) none m6, ?_⟩
        rw [hrdy none]
        simp only [Zf, if_true]
        refine ⟨true, S6, O6, bv', rfl, g3, ?_, cx3, by rw [← g1]; exact c3⟩
        rw [hCJ]
        exact ⟨true, bv', _, rfl, c1, c2, c4, c5, .inl ⟨rfl, ⟨k + 1, hklt, by simpa using hrest2, g4⟩, World.putObj_heap_same hL5⟩⟩
       case exit id =>
        obtain ⟨c1, c2, c3, cx3⟩ := common (rec .done (some (.exit id)))
        obtain ⟨bv', g1, g2, g3, g4⟩ := he5
        refine ⟨_, _, run_endRound (P := P) (some (.exit id)) m6, ?_⟩
        rw [hrdy (some (.exit id))]
        simp only [Zg, Q5, if_false]
        refine ⟨false, S6, O6, bv', rfl, g3, ?_, cx3, by rw [← g1]; exact c3⟩
        rw [hCJ]
        exact ⟨false, bv', _, rfl, c1, c2, c4, c5, .inr ⟨rfl, by simp, id, g4, World.putObj_heap_same hL5⟩⟩
    ·cases hbf
  have ev1 := hlat.evol hat1.sr.mat.lt (Qco hat1.sr.mat)
  have hLn : ¬ S1 L ∧ ¬ Own O1 L := ⟨fun h => by have := hat1.sr.mat.lt L h; omega, fun h => by have := Qco hat1.sr.mat L h; omega⟩
  have hCJ0 : CJ S1 W1 O1 (some (capL, some (gyA true bv0 :: ys.map enc))) := by
   rw [hCJ]
   refine ⟨true, bv0, _, rfl, ?_, ?_, hLn.1, hLn.2, .inl ⟨rfl, ⟨0, Nat.zero_le _, by simp, hI0⟩, hL1⟩⟩
   ·rw [← hW1]
    exact hC.enter rfl hat1.ctx hat1.sr.mat.lt (Qco hat1.sr.mat)
   ·rw [hO11]
    exact hat1.sr.fr.ext ev1.ext
  obtain ⟨hpre, hpost⟩ := hcall L
  rw [← hcapL] at hpre hpost
  obtain ⟨hen, hyc⟩ := hG.yc gf al _ _ hpre
  refine ⟨L, [{ target := .collected w.heap.size, args := #[] }], W1, { target := .fn (.func gf) cap, args := bnd ++ #[.func (.yield L) #[] #[]] }, W1, gf,
   bnd ++ #[.func (.yield L) #[] #[]] ++ cap, W1, ?_, ?_, ?_, ?_, fun h => by simp [hF.2.1] at h, ?_⟩
  ·rw [← hW1, hrec, hL]; exact run_enterLoop_outer _ _ _ _ _
  ·simp only [resolve, hcf]
   simp [go_sem]
  ·intro f' hf'; exact hF.1 f'
  ·simp only [invoke]; exact hen _ _
  ·have hm1 : Mat S1 W1 O1 (.gh capL (some (gyA true bv0 :: ys.map enc)) :: bv0.map vB) := Qqf (Qjf hat1.sr.mat hlat) (fun _ _ h => h) _
   refine (hyc F (n - 1) lo' CJ S1 W1 O1 _ hF (hC.rnd rfl) hyok (by simp; omega) hCJ0 hm1 (by rw [hlenG]; simp; omega) ?_).mono ?_
   ·exact hcr L _ _ _ ev1.ext
   ·
    rintro e W2 ⟨v, S2, O2, r, hp', rfl, hR, hc, _, hmat, _⟩
    obtain ⟨b, bv', rest, tl, hhp, hbr, halb⟩ := hpost r hp' hR
    rw [hCJ] at hc
    obtain ⟨b1, bv1, rest1, h1, h2, h3, h4, h5, h6⟩ := hc
    rw [hhp] at h1
    simp only [ghO, Qq, Qb.injEq, Prod.mk.injEq, Zm.injEq, V.b.injEq, true_and] at h1
    obtain ⟨⟨rfl, rfl⟩, rfl⟩ := h1
    obtain ⟨hbl, hcb⟩ := hallo bv' halb
    have hcut : cutH lo' hp' = .gh capL (some (gyA b bv' :: rest)) :: bv'.map vB := by
     have e1 : hp'.take lo' = .gh capL (some (gyA b bv' :: rest)) :: bv'.map vB := by
      rw [hhp, ← hbl, List.take_succ_cons]
      congr 1
      rw [List.take_append_of_le_length (by simp), Qg (by simp)]
     unfold cutH
     rw [e1, Zb, hcb hp']
     rfl
    have hmat2 : Mat (cutS S2 O2 lo') W2 (Qcd O2 lo') (cutH lo' hp') := Qme hmat lo'
    rw [hcut] at hmat2
    have hmat3 := Qqf hmat2 (fun _ _ h => h) .hole
    have d4 : ¬ cutS S2 O2 lo' L := by
     rintro (h | ⟨id, g2, ho⟩)
     ·exact h4 h
     ·exact h5 ⟨id, g2, (Qbi ho).2⟩
    have d5 : ¬ Own (Qcd O2 lo') L := fun ⟨id, g2, ho⟩ => h5 ⟨id, g2, (Qbe ho).2⟩
    have hc2 : C (cutS S2 O2 lo') W2 (Qcd O2 lo') (col w.heap.size :: a.defers) none := hC.cut h2 hlo (fun _ _ h => h)
    have hfr2 : FrM (cutS S2 O2 lo') W2 (Qcd O2 lo') fr0 a :=
     h3.ext ⟨fun n hn => ⟨.inl hn, rfl⟩, fun id g ob ho => ⟨g, ob, ho, Qf _, fun _ => ⟨rfl, fun b cur e _ hh => ⟨cur, hh, rfl⟩⟩⟩⟩
    rcases h6 with ⟨rfl, ⟨k, hk, hrest, hI⟩, h8⟩ | ⟨rfl, _, id, hx, h8⟩
    ·have hkl : k = ys.length := by
      have e := hbr rfl
      rw [hrest] at e
      have := congrArg Qt e
      simp at this
      omega
     refine ⟨none, _, by have := run_endLoop (P := P) h8 (by rw [hrec]; simp); rw [hrec] at this; exact this, ?_⟩
     have s := Qg3 (σ := ⟨fr0, .hole :: bv'.map vB⟩) ⟨hat.sr.size, hat.sr.kept, hfr2, hmat3⟩ (.loop { rec .ready none with state := .exhausted }) d4 d5
     rw [hrec] at s
     exact hQ _ ⟨fr0, .hole :: bv'.map vB⟩ _ _ _ _ (hdone bv' (hkl ▸ hI)) ⟨hC.turn rfl hc2 h8 d4 d5 hbL, ⟨s.size, s.kept, s.fr, s.mat⟩⟩
    ·refine ⟨some (.exit id), _, by have := run_endLoop (P := P) h8 (by rw [hrec]; simp); rw [hrec] at this; exact this, ?_⟩
     have s := Qg3 (σ := ⟨fr0, .hole :: bv'.map vB⟩) ⟨hat.sr.size, hat.sr.kept, hfr2, hmat3⟩ (.loop { rec .done (some (.exit id)) with state := .exhausted }) d4 d5
     rw [hrec] at s
     exact wpIn_exit (hQ _ ⟨fr0, .hole :: bv'.map vB⟩ _ _ _ _ hx ⟨hC.turn rfl hc2 h8 d4 d5 hbL, ⟨s.size, s.kept, s.fr, s.mat⟩⟩)
 ·exact hw.elim
theorem Qoz {α : Type} {l : List α} {i : Nat} {x : α} (h : l[i]? = some x) : l.set i x = l := by
 apply Zh
 intro j
 rw [List.getElem?_set]
 split
 ·rename_i e; subst e
  split
  ·exact h.symm
  ·rename_i hl; rw [List.getElem?_eq_none (by omega)]
 ·rfl
theorem Qum {S : Nat → Prop} {w w1 : World} {O : OInfo} {hp : List Blk} (hm : Mat S w O hp) {id : Nat} (hO : O id = none) {gs : Nat} (hid : hp[id]? = some (.cells gs [])) (h1 : w1 = w) :
  Evol S S w w1 O (updO O id (gs, none)) ∧ Mat S w1 (updO O id (gs, none)) hp := by
 subst h1
 have hx := Qpd hm hO w1 (fun _ _ => rfl) (gs, none)
 have hcase : ∀ j g ob, updO O id (gs, none) j = some (g, ob) → (j = id ∧ g = gs ∧ ob = none) ∨ (j ≠ id ∧ O j = some (g, ob)) := by
  intro j g ob h
  unfold updO at h
  split at h
  ·rename_i hj; left; simp at h; exact ⟨hj, h.1.symm, h.2.symm⟩
  ·rename_i hj; exact .inr ⟨hj, h⟩
 have hown : ∀ j g b, updO O id (gs, none) j = some (g, some b) → O j = some (g, some b) := by
  intro j g b h
  rcases hcase j g _ h with ⟨_, _, h'⟩ | ⟨_, h'⟩
  ·cases h'
  ·exact h'
 refine ⟨⟨hx, rfl, rfl, rfl, Qf _, fun _ _ => rfl, fun _ _ _ => rfl, fun k ⟨j, g, h⟩ => .inl ⟨j, g, hown j g k h⟩, fun _ h => .inl h⟩, ⟨hm.lt, fun j g b h => hm.own j g b (hown _ _ _ h), fun j j' g g' b h h' => hm.inj j j' g g' b (hown _ _ _ h) (hown _ _ _ h'), ?_⟩⟩
 intro j g ob h
 rcases hcase j g _ h with ⟨rfl, rfl, rfl⟩ | ⟨_, h'⟩
 ·rw [hid]; exact ⟨rfl, rfl⟩
 ·exact (hm.blk j g ob h').ext hx fun _ _ => rfl
theorem w_op (hF : Qc7 F) {M : FrI} {o : Oper} {ro : RO} {q : W} (hq : resW P o = some q) (hxq : ro.x = .w q) (hdst : ro.dst = o.dst) (hts : ro.ts = o.op.operands.toList.filterMap Qfh) (hnid : ro.nid = none) (hdlt : ∀ d, o.dst = some d → d < M.n ∧ M.md ≤ d)
  {S : Nat → Prop} {w : World} {O : OInfo} {σ : St} {a : Act} (hsr : SR M S w O σ a) (hok : (step Γ (Qb1 P) true 0 ro σ).1) {K : Act → World → Prop} {Q' : Exit → Act → World → Prop}
  (hK : ∀ S' w' O' a', Evol S S' w w' O O' → SR M S' w' O' (step Γ (Qb1 P) true 0 ro σ).2 a' → a'.defers = a.defers → K a' w') : o.wpIn F n P a w K Q' := by
 have hdlt' : ∀ d, o.dst = some d → d < a.tmps.size := by rw [hsr.size]; exact fun d hd => (hdlt d hd).1
 have hkept : ∀ (c : Value) t, t < M.md → (a.put o.dst c).tmps.getD t undef = M.T t := fun c t ht => (Qen a o.dst c t fun d hd => by have := (hdlt d hd).2; omega).trans (hsr.kept t ht)
 have hods : Qc2 true ro σ.fr → Qd9 P S w O (opv true σ.fr) a.eval o := by
  intro hn
  simp only [Qc2] at hn; rw [hts] at hn; exact Qbr hsr.fr o hn
 simp only [step, hxq, Qlc] at hok hK
 cases hnv : nv σ.hp q (opv true σ.fr) with
 | none =>
  simp only [hnv] at hok hK
  refine Qub hF hq hsr.mat (hods hok.1) hok.2 ?_
  intro c w' O' hev hmat hrep hno
  refine hK S w' O' _ hev ⟨by rw [Qbk]; exact hsr.size, hkept _, ?_, hmat⟩ (Qb6 _ _ _)
  rw [hdst]
  exact hsr.fr.put hev.ext hdlt' hrep
 | some t =>
  obtain ⟨ok, blk, mk⟩ := t
  simp only [hnv, hnid] at hok hK
  refine Qpg (id := σ.hp.length) hF hq hsr.mat (Qfb hsr.mat [blk]) (hods hok.1) hnv hok.2 (Qgd hsr.mat) (by simp) ?_
  intro c w' O' hev hmat hrep _
  refine hK S w' O' _ hev ⟨by rw [Qbk]; exact hsr.size, hkept _, ?_, hmat⟩ (Qb6 _ _ _)
  rw [hdst]
  exact hsr.fr.put hev.ext hdlt' hrep
theorem Qk5 {ops : Array Oper} {o : Oper} {gd : Option (Nat × Bool)} (hgd : gdOf ops o.guard = some gd) {S : Nat → Prop} {w : World} {O : OInfo} {fr : Nat → V} {a : Act} (hfr : FrM S w O fr a) {c : Bool} (hc : Qd6 fr gd = some c) :
  Region.wanted o (yielded ops a.tmps) = c := by
 cases hgo : o.guard with
 | none =>
  rw [hgo] at hgd
  simp only [gdOf, Qb.injEq] at hgd
  subst hgd
  simp only [Qd6, Qb.injEq] at hc
  simp [Region.wanted, hgo, ← hc]
 | some jw =>
  obtain ⟨j, want⟩ := jw
  rw [hgo] at hgd
  simp only [gdOf, Qa] at hgd
  obtain ⟨s, hs, rfl⟩ := hgd
  exact Qgm hfr hgo hs hc
theorem h_op (hG : GOk P Γ) (hF : Qc7 F) (hC : CtxOk P F n M C lo top base) {o : Oper} {y : RO} {f : Od} {xs : List Od} (hroc : Qfq P o = some (f, xs)) (hxy : y.x = .o f xs) (hdst : y.dst = o.dst) (hts : y.ts = o.op.operands.toList.filterMap Qfh)
  (hdl : ∀ d, o.dst = some d → d < M.n ∧ M.md ≤ d) {K : St → Prop} {Q' : Exit → Act → World → Prop} {σ1 : St} {S1 : Nat → Prop} {w1 : World} {O1 : OInfo} {a1 : Act}
  (hw1 : match opv true σ1.fr f with
    | .fn gf caps => Qc2 true y σ1.fr ∧ (Γ.h gf (xs.map (opv true σ1.fr) ++ caps) σ1.hp).1 ∧ ∀ r hp', (Γ.h gf (xs.map (opv true σ1.fr) ++ caps) σ1.hp).2 r hp' → K ⟨upd σ1.fr y.dst r, hp'⟩
    | _ => False) (hat1 : At C M S1 w1 O1 σ1 a1) {KK : Act → World → Prop} (hK0 : ∀ σ2 S2 w2 O2 a2, K σ2 → At C M S2 w2 O2 σ2 a2 → KK a2 w2) : o.wpIn F n P a1 w1 KK Q' := by
 have hsr1 := hat1.sr
 have hkept : ∀ (c : Value) t, t < M.md → (a1.put o.dst c).tmps.getD t undef = M.T t := fun c t ht => (Qen a1 o.dst c t fun d' hd' => by have := (hdl d' hd').2; omega).trans (hsr1.kept t ht)
 split at hw1
 ·rename_i gf caps hfv
  obtain ⟨hneed, hpre, hK⟩ := hw1
  obtain ⟨hen, hgh, hheap⟩ := hG.heap gf _ _ hpre
  have hods : Qd9 P S1 w1 O1 (opv true σ1.fr) a1.eval o := by
   simp only [Qc2] at hneed; rw [hts] at hneed; exact Qbr hsr1.fr o hneed
  unfold Qfq at hroc
  unfold Qd9 at hods
  cases hop : o.op <;> rw [hop] at hroc hods <;> simp only [Op.operands] at hods <;> first | (simp at hroc; done) | (try dsimp only at hroc)
  case call cl =>
   split at hroc
   ·rename_i f0 hcal
    simp only [Qi, Qd, Qm, Qb.injEq, Prod.mk.injEq] at hroc
    obtain ⟨f', hf, ods, hodse, rfl, rfl⟩ := hroc
    have q1 := hods f0 (by simp [Call.operands, hcal]) _ _ hf
    have qs := Qcs _ _ _ hodse (fun x hx => hods x (by simp only [Call.operands, Array.mem_append]; exact .inr (by simpa using hx)))
    rw [hfv] at q1
    simp only [Rep] at q1
    obtain ⟨ccs, hc, hn, hrl⟩ := q1
    have hall := RepL.append _ _ _ _ qs.1 (by simp [qs.2]) hrl
    have hcalls := hheap S1 w1 O1 (cl.args.map a1.eval ++ ccs) hsr1.mat (by simp [qs.2, hn]) (by simpa using hall)
    refine Qec (w' := w1) (f := gf) (args := cl.args.map a1.eval ++ ccs) hF (by simp [hop]) ?_ (hcalls.mono ?_)
    ·have hd : (resolve a1.eval cl o.type).run P w1 = .ok { target := .fn (.func gf) ccs, args := cl.args.map a1.eval } w1 := by
      simp [resolve, hcal, hc, Deferred.ofValue]
     simp only [execOp, hop, Sem.run_bind, hd, Result.andThen_ok, invoke]
     exact hen _ _
    ·rintro e w2 ⟨v, S2, O2, r, hp', rfl, hR, hev, hmat, hrep⟩
     refine ⟨v, rfl, hK0 _ S2 w2 O2 _ (hK r hp' hR) ⟨?_, ⟨by rw [Qbk]; exact hsr1.size, hkept _, ?_, hmat⟩⟩⟩
     ·rw [Qb6]
      exact hC.evol hat1.ctx hsr1.mat.lt hev (hgh r hp' hR)
     ·rw [hdst]
      exact FrM.put hsr1.fr hev.ext (fun d hd => by rw [hsr1.size]; exact (hdl d hd).1) hrep
   ·cases hroc
 ·exact hw1.elim
theorem y_op (hG : GOk P Γ) (hF : Qc7 F) (hal : ∀ bv, M.al bv → Γ.al bv) (hro : F.round = none) (hC : CtxOk P F n M C lo 3 base) {o : Oper} {y : RO} {f : Od} {xs : List Od} (hroc : Qfq P o = some (f, xs)) (hxy : y.x = .o f xs) (hdst : y.dst = o.dst) (hts : y.ts = o.op.operands.toList.filterMap Qfh)
  (hdl : ∀ d, o.dst = some d → d < M.n ∧ M.md ≤ d) {K : St → Prop} {Q' : Exit → Act → World → Prop} {σ1 : St} {S1 : Nat → Prop} {w1 : World} {O1 : OInfo} {a1 : Act}
  (hw1 : match opv true σ1.fr f with
    | .fn gf caps => Qc2 true y σ1.fr ∧ lo ≤ σ1.hp.length ∧ (Γ.y gf Γ.al (xs.map (opv true σ1.fr) ++ caps) σ1.hp).1 ∧ ∀ r hp', (Γ.y gf Γ.al (xs.map (opv true σ1.fr) ++ caps) σ1.hp).2 r hp' → K ⟨upd σ1.fr y.dst r, hp'⟩
    | _ => False) (hat1 : At C M S1 w1 O1 σ1 a1) {KK : Act → World → Prop} (hK0 : ∀ σ2 S2 w2 O2 a2, K σ2 → At C M S2 w2 O2 σ2 a2 → KK a2 w2) : o.wpIn F n P a1 w1 KK Q' := by
 have hsr1 := hat1.sr
 have hkept : ∀ (c : Value) t, t < M.md → (a1.put o.dst c).tmps.getD t undef = M.T t := fun c t ht => (Qen a1 o.dst c t fun d' hd' => by have := (hdl d' hd').2; omega).trans (hsr1.kept t ht)
 split at hw1
 ·rename_i gf caps hfv
  obtain ⟨hneed, hlen, hpre, hK⟩ := hw1
  obtain ⟨hen, hheap⟩ := hG.yc gf _ _ _ hpre
  have hods : Qd9 P S1 w1 O1 (opv true σ1.fr) a1.eval o := by
   simp only [Qc2] at hneed; rw [hts] at hneed; exact Qbr hsr1.fr o hneed
  unfold Qfq at hroc
  unfold Qd9 at hods
  cases hop : o.op <;> rw [hop] at hroc hods <;> simp only [Op.operands] at hods <;> first | (simp at hroc; done) | (try dsimp only at hroc)
  case call cl =>
   split at hroc
   ·rename_i f0 hcal
    simp only [Qi, Qd, Qm, Qb.injEq, Prod.mk.injEq] at hroc
    obtain ⟨f', hf, ods, hodse, rfl, rfl⟩ := hroc
    have q1 := hods f0 (by simp [Call.operands, hcal]) _ _ hf
    have qs := Qcs _ _ _ hodse (fun x hx => hods x (by simp only [Call.operands, Array.mem_append]; exact .inr (by simpa using hx)))
    rw [hfv] at q1
    simp only [Rep] at q1
    obtain ⟨ccs, hc, hn, hrl⟩ := q1
    have hall := RepL.append _ _ _ _ qs.1 (by simp [qs.2]) hrl
    have hyok : YOk P F Γ.al lo fun S w O h => C S w O a1.defers h := by
     refine ⟨fun h hlt ev hg => hC.evol h hlt ev hg, fun h hk hg => hC.cut h hk fun _ => hg, fun {S w O caps bv x z rest cx l m} h hm hl hx hs => ?_⟩
     obtain ⟨fn, tm, as0, bd, hyr, hround⟩ := hC.yldh rfl (m := m) h hm hl hx hs
     refine ⟨fn, tm, as0, bd, hyr, hround.mono ?_⟩
     rintro e W' ⟨b, S', O', bv', h1, h2, h3⟩
     exact ⟨b, S', O', bv', h1, hal bv' h2, h3⟩
    have hcalls := hheap F (n - 1) lo _ S1 w1 O1 (cl.args.map a1.eval ++ ccs) hF hro hyok hlen hat1.ctx hsr1.mat (by simp [qs.2, hn]) (by simpa using hall)
    refine ⟨fun f _ => hF.1 f, ?_⟩
    rw [Oper.semAt_eq _ _ _ (by simp [hop])]
    have hex : (execOp a1.eval o).run P w1 = .ok (.enter gf (cl.args.map a1.eval ++ ccs)) w1 := by
     have hd : (resolve a1.eval cl o.type).run P w1 = .ok { target := .fn (.func gf) ccs, args := cl.args.map a1.eval } w1 := by
      simp [resolve, hcal, hc, Deferred.ofValue]
     simp only [execOp, hop, Sem.run_bind, hd, Result.andThen_ok, invoke]
     exact hen _ _
    rw [hex]
    refine ⟨fun hh => by simp [hF.2.1] at hh, hcalls.mono ?_⟩
    rintro e w2 ⟨v, S2, O2, r, hp', rfl, hR, hctx, hext, hmat, hrep⟩
    refine hK0 _ S2 w2 O2 _ (hK r hp' hR) ⟨?_, ⟨by rw [Qbk]; exact hsr1.size, hkept _, ?_, hmat⟩⟩
    ·rw [Qb6]
     exact hctx
    ·rw [hdst]
     exact FrM.put hsr1.fr hext (fun d hd => by rw [hsr1.size]; exact (hdl d hd).1) hrep
   ·cases hroc
 ·exact hw1.elim
theorem Za0 (hG : GOk P Γ) (hF : Qc7 F) (hal : ∀ bv, M.al bv → Γ.al bv) (hC : CtxOk P F n M C lo top base) {ops : Array Oper} {Q' : Exit → Act → World → Prop} {K : St → Prop} :
  ∀ (l : List It) (k : Nat) (σ : St) (S : Nat → Prop) (w : World) (O : OInfo) (a : Act), (∀ q x, l[q]? = some x → ∃ o y, ops[k + q]? = some o ∧ resI P pu M.nm ops y o = some x ∧ itOk lo top y = true) →
   runI Γ (Qb1 P) l σ K → At C M S w O σ a → (∀ τ S' w' O' a', K τ → At C M S' w' O' τ a' → Q' .normal a' w') → wpOpsIn F n P ops Q' (Qe k l.length) a w := by
 intro l
 induction l with
 | nil => intro k σ S w O a _ hrun hat hK; rw [List.length_nil, List.range'_zero, wpOpsIn]; exact hK σ S w O a hrun hat
 | cons x l ih =>
  intro k σ S w O a hops hrun hat hK
  rw [Q6, Qo, wpOpsIn_cons]
  obtain ⟨o, y, ho, hro, hito⟩ := hops 0 x rfl
  have hops' : ∀ q x, l[q]? = some x → ∃ o y, ops[k + 1 + q]? = some o ∧ resI P pu M.nm ops y o = some x ∧ itOk lo top y = true := fun q x' hx' => by
   have := hops (q + 1) x' (by simpa using hx')
   rwa [Nat.add_comm q 1, ← Nat.add_assoc] at this
  have skip : ∀ (ro : RO), (∀ d, o.dst = some d → d < M.n ∧ M.md ≤ d) → ro.dst = o.dst → Region.wanted o (yielded ops a.tmps) = false → runI Γ (Qb1 P) l ⟨upd σ.fr ro.dst (.gv false .u), σ.hp⟩ K →
    wpOpIn F n P ops Q' k (wpOpsIn F n P ops Q' (Qe (k + 1) l.length)) a w := by
   intro ro hdl hdst hwant hrun
   have ho' : ops[k]? = some o := by simpa using ho
   simp only [wpOpIn, ho']
   rw [hwant, if_neg (by simp)]
   refine ⟨fun f _ => hF.1 f, ?_⟩
   have hkept : ∀ (c : Value) t, t < M.md → (a.put o.dst c).tmps.getD t undef = M.T t := fun c t ht => (Qen a o.dst c t fun d' hd' => by have := (hdl d' hd').2; omega).trans (hat.sr.kept t ht)
   refine ih (k + 1) _ S w O _ hops' hrun ⟨by rw [Qb6]; exact hat.ctx, ⟨by rw [Qbk]; exact hat.sr.size, hkept _, ?_, hat.sr.mat⟩⟩ hK
   rw [hdst]
   exact FrM.put hat.sr.fr (Ext.refl _ _ _) (fun d hd => by rw [hat.sr.size]; exact (hdl d hd).1) (by simp only [Rep]; exact ⟨fun h => (by cases h), fun _ => trivial⟩)
  have ho' : ops[k]? = some o := by simpa using ho
  cases y with
  | r r0 =>
   simp only [resI, Qa] at hro
   obtain ⟨r, hr, rfl⟩ := hro
   obtain ⟨hok, hrun⟩ := hrun
   have hnid := Qjn hr
   have hr' : resO P pu M.nm ops o = some { r with nid := none } := by rw [hr]; congr 1; cases r; simp only at hnid; subst hnid; rfl
   refine Qkn hG hF ho' hr' (fun h => by cases h) hat.sr hok ?_
   intro S' w' O' a' hev hsr' hdef
   exact ih (k + 1) _ S' w' O' a' hops' hrun ⟨by rw [hdef]; exact hC.evol hat.ctx hat.sr.mat.lt hev fun y hy => Ql3 hok hy, hsr'⟩ hK
  | w r0 =>
   simp only [resI] at hro
   split at hro
   ·rename_i hds
    have hdl : ∀ d, o.dst = some d → d < M.n ∧ M.md ≤ d := fun d hd => by rw [hd] at hds; exact Qby hds
    split at hro
    ·rename_i gd hgd
     simp only [Qa] at hro
     obtain ⟨q, hq, rfl⟩ := hro
     rw [runI] at hrun
     cases hc : Qd6 σ.fr gd with
     | none => simp [hc] at hrun
     | some c =>
      have hwant := Qk5 hgd hat.sr.fr hc
      simp only [hc] at hrun
      cases c with
      | false => exact skip ⟨o.dst, gd, o.op.operands.toList.filterMap Qfh, none, .w q⟩ hdl rfl hwant hrun
      | true =>
       obtain ⟨hok, hrun⟩ := hrun
       simp only [wpOpIn, ho']
       rw [hwant, if_pos rfl]
       refine w_op hF hq rfl rfl rfl rfl hdl hat.sr hok ?_
       intro S' w' O' a' hev hsr' hdef
       exact ih (k + 1) _ S' w' O' a' hops' hrun ⟨by rw [hdef]; exact hC.evol hat.ctx hat.sr.mat.lt hev fun y hy => Ql3 hok hy, hsr'⟩ hK
    ·cases hro
   ·cases hro
  | h r0 =>
   simp only [resI] at hro
   split at hro
   ·rename_i hds
    have hdl : ∀ d, o.dst = some d → d < M.n ∧ M.md ≤ d := fun d hd => by rw [hd] at hds; exact Qby hds
    split at hro
    ·rename_i gd hgd
     simp only [Qa] at hro
     obtain ⟨⟨f, xs⟩, hroc, rfl⟩ := hro
     rw [runI] at hrun
     cases hc : Qd6 σ.fr gd with
     | none => simp [hc] at hrun
     | some c =>
      have hwant := Qk5 hgd hat.sr.fr hc
      simp only [hc] at hrun
      cases c with
      | false => exact skip ⟨o.dst, gd, o.op.operands.toList.filterMap Qfh, none, .o f xs⟩ hdl rfl hwant hrun
      | true =>
       simp only [wpOpIn, ho']
       rw [hwant, if_pos rfl]
       exact h_op hG hF hC (K := fun σ2 => runI Γ (Qb1 P) l σ2 K) hroc rfl rfl rfl hdl hrun hat fun σ2 S2 w2 O2 a2 hK2 hat2 => ih (k + 1) σ2 S2 w2 O2 a2 hops' hK2 hat2 hK
    ·cases hro
   ·cases hro
  | y lo' d r0 =>
   simp only [itOk, Qc, beq_iff_eq, decide_eq_true_eq] at hito
   obtain ⟨rfl, rfl, hld⟩ := hito
   simp only [resI] at hro
   split at hro
   ·rename_i hds
    have hdl : ∀ d, o.dst = some d → d < M.n ∧ M.md ≤ d := fun d hd => by rw [hd] at hds; exact Qby hds
    split at hro
    ·rename_i gd hgd
     simp only [Qa] at hro
     obtain ⟨⟨f, xs⟩, hroc, rfl⟩ := hro
     rw [runI] at hrun
     cases hc : Qd6 σ.fr gd with
     | none => simp [hc] at hrun
     | some c =>
      have hwant := Qk5 hgd hat.sr.fr hc
      simp only [hc] at hrun
      cases c with
      | false => exact skip ⟨o.dst, gd, o.op.operands.toList.filterMap Qfh, none, .o f xs⟩ hdl rfl hwant hrun
      | true =>
       simp only [wpOpIn, ho']
       rw [hwant, if_pos rfl]
       exact y_op hG hF hal (hC.rnd3 rfl) hC (K := fun σ2 => runI Γ (Qb1 P) l σ2 K) hroc rfl rfl rfl hdl hrun (hat.drp hC hld) fun σ2 S2 w2 O2 a2 hK2 hat2 => ih (k + 1) σ2 S2 w2 O2 a2 hops' hK2 hat2 hK
    ·cases hro
   ·cases hro
theorem Qsv (hG : GOk P Γ) (hF : Qc7 F) (hal : ∀ bv, M.al bv → Γ.al bv) (hC : CtxOk P F n M C lo top base) {l l' : List It} {id : Nat} {ops : Array Oper} (hl : l.length = ops.size) (hit : l.all (itOk lo top) = true) (hr : ((l.zip ops.toList).mapM fun p => resI P pu M.nm ops p.1 p.2) = some l')
  {Q : Exit → St → Prop} {Q' : Exit → Act → World → Prop} {σ : St} {S : Nat → Prop} {w : World} {O : OInfo} {a : Act} (hw : wpR Γ (Qb1 P) (.itm l') Q σ) (hat : At C M S w O σ a)
  (hQ : ∀ σ' S' w' O' a', Q .normal σ' → At C M S' w' O' σ' a' → Q' .normal a' w') : (Code.region id ops false).wpIn F n P Q' a w := by
 have hm := Qcl hr
 have hll : l'.length = ops.size := by
  have := congrArg Qt hm
  simp only [Zk, List.length_zip, Array.length_toList] at this
  omega
 refine wpIn_region ?_
 rw [Ql, ← hll]
 refine Za0 hG hF hal hC (pu := pu) (K := Q .normal) l' 0 σ S w O a ?_ hw hat hQ
 intro q x hx
 have h1 : ((l.zip ops.toList).map fun p => resI P pu M.nm ops p.1 p.2)[q]? = some (some x) := by
  rw [hm, Qk, hx]; rfl
 rw [Qk, Qa] at h1
 obtain ⟨⟨y, o⟩, h2, h3⟩ := h1
 rw [List.getElem?_zip_eq_some] at h2
 exact ⟨o, y, by rw [Qu]; simpa using h2.2, h3, Q7.1 hit y (Q1 h2.1)⟩
theorem Ql6 (hG : GOk P Γ) (hm : P.follows .mixedOrders = true) (hal : ∀ bv, M.al bv → Γ.al bv) :
    ∀ (r : RC) (c : Code) (r' : RC) (F : Fence) (n lo : Nat) (top : Nat), Qc7 F → comp P pu M.nm lo top r c = some r' → Qjr Γ P M F n lo top r' c := by
  intro r
  induction r with
  | no =>
    intro c r' F n lo top hF hc C base hC Q Q' σ S w O a hw hat hQ
    simp only [comp, Qb.injEq] at hc
    subst hc
    exact hw.elim
  | skip =>
    intro c r' F n lo top hF hc C base hC Q Q' σ S w O a hw hat hQ
    cases c <;> (try simp only [comp] at hc) <;> try (cases hc; done)
    · cases hc
      exact wpIn_skip (hQ _ _ _ _ _ _ hw hat)
    · cases hc
      exact wpIn_label (hQ _ _ _ _ _ _ hw hat)
  | itm l =>
    intro c r' F n lo top hF hc C base hC Q Q' σ S w O a hw hat hQ
    cases c <;> (try simp only [comp] at hc) <;> try (cases hc; done)
    case region id ops draw =>
      cases draw <;> (try simp only [comp] at hc) <;> try (cases hc; done)
      split at hc
      · rename_i hl
        rw [Qc, beq_iff_eq] at hl
        rw [Qa] at hc
        obtain ⟨l', hl', rfl⟩ := hc
        exact Qsv hG hF hal hC hl.1 hl.2 hl' hw hat fun σ' S' w' O' a' => hQ _ σ' S' w' O' a'
      · cases hc
  | rnl g l1 y l2 =>
    intro c r' F n lo top hF hc C base hC Q Q' σ S w O a hw hat hQ
    cases c <;> (try simp only [comp] at hc) <;> try (cases hc; done)
    case region id ops draw =>
      cases draw <;> (try simp only [comp] at hc) <;> try (cases hc; done)
      split at hc
      · rename_i hgd
        split at hc
        · rename_i o ho
          split at hc
          · rename_i r1 y' r2 h1 hy h2
            split at hc
            · rename_i hl
              cases hc
              have hl' : r1.length = l1.length := by simpa using hl
              rw [← hl'] at ho h1 h2
              exact Qu2 hG hF hC hgd ho h1 hy h2 hw hat fun σ' S' w' O' a' => hQ _ σ' S' w' O' a'
            · cases hc
          · cases hc
        · cases hc
      · cases hc
  | scp r ih =>
    intro c r' F n lo top hF hc C base hC Q Q' σ S w O a hw hat hQ
    cases c <;> (try simp only [comp] at hc) <;> try (cases hc; done)
    case scope c =>
      rw [Qa] at hc
      obtain ⟨r1, h1, rfl⟩ := hc
      refine Qh7 (ih c r1 F n lo top hF h1 C base hC (noGo Q) _ σ S w O a hw hat ?_)
      intro e σ' S' w' O' a' he hat'
      cases e <;> first | exact he.elim | exact hQ _ _ _ _ _ _ he hat'
  | dum r ih =>
    intro c r' F n lo top hF hc C base hC Q Q' σ S w O a hw hat hQ
    simp only [comp] at hc
    rw [Qa] at hc
    obtain ⟨r1, h1, rfl⟩ := hc
    refine ih c r1 F n lo top hF h1 C base hC Q _ _ S w O a hw ⟨?_, ⟨hat.sr.size, hat.sr.kept, hat.sr.fr, ?_⟩⟩ hQ
    · have e : ghO (σ.hp ++ [.hole]) = ghO σ.hp := by
        unfold ghO
        cases σ.hp <;> rfl
      show C S w O a.defers (ghO (σ.hp ++ [.hole]))
      rw [e]; exact hat.ctx
    · have hm := hat.sr.mat
      refine ⟨hm.lt, hm.own, hm.inj, fun id g ob ho => ?_⟩
      show Qbb S w O g ob ((σ.hp ++ [.hole])[id]?)
      rw [Qj (Qiz hm ho)]
      exact hm.blk id g ob ho
  | yrh g l1 y l2 =>
    intro c r' F n lo top hF hc C base hC Q Q' σ S w O a hw hat hQ
    cases c <;> (try simp only [comp] at hc) <;> try (cases hc; done)
    case region id ops draw =>
      cases draw <;> (try simp only [comp] at hc) <;> try (cases hc; done)
      split at hc
      · rename_i htg
        simp only [Qc, beq_iff_eq] at htg
        obtain ⟨rfl, hgd⟩ := htg
        split at hc
        · rename_i o ho
          split at hc
          · rename_i r1 y' r2 h1 hy h2
            split at hc
            · rename_i hl
              cases hc
              have hl' : r1.length = l1.length := by simpa using hl
              rw [← hl'] at ho h1 h2
              exact Quq hG hF hal hC hgd ho h1 hy h2 hw hat fun σ' S' w' O' a' => hQ _ σ' S' w' O' a'
            · cases hc
          · cases hc
        · cases hc
      · cases hc
  | ycl lo0 g l1 y l2 =>
    intro c r' F n lo top hF hc C base hC Q Q' σ S w O a hw hat hQ
    cases c <;> (try simp only [comp] at hc) <;> try (cases hc; done)
    case region id ops draw =>
      cases draw <;> (try simp only [comp] at hc) <;> try (cases hc; done)
      split at hc
      · rename_i htg
        simp only [Qc, beq_iff_eq] at htg
        obtain ⟨rfl, hgd⟩ := htg
        split at hc
        · rename_i o ho
          split at hc
          · rename_i r1 y' r2 h1 hy h2
            split at hc
            · rename_i hl
              cases hc
              have hl' : r1.length = l1.length := by simpa using hl
              rw [← hl'] at ho h1 h2
              exact Quo hG hF hal (hC.rnd3 rfl) hC hgd ho h1 hy h2 hw hat fun σ' S' w' O' a' => hQ _ σ' S' w' O' a'
            · cases hc
          · cases hc
        · cases hc
      · cases hc
  | reg g l =>
    intro c r' F n lo top hF hc C base hC Q Q' σ S w O a hw hat hQ
    cases c <;> (try simp only [comp] at hc) <;> try (cases hc; done)
    case region id ops draw =>
      cases draw <;> (try simp only [comp] at hc) <;> try (cases hc; done)
      split at hc
      · rename_i hgd
        rw [Qa] at hc
        obtain ⟨rs, hrs, rfl⟩ := hc
        have hmap := Qcl hrs
        have hRO : Qrx P pu M.nm ops rs := by
          unfold Qrx
          rw [hmap]
          apply List.map_congr_left
          intro x hx
          obtain ⟨i, hi⟩ := Q0 hx
          have h1 := congrArg (fun l => l[i]?) hmap
          simp only [Qk, hi, Qn] at h1
          rw [Qa] at h1
          obtain ⟨o, _, ho⟩ := h1
          have := Qjn ho
          cases x; simp_all
        refine Qpl hG hF hRO (g := g) (base := 0) ?_ hw hat.sr ?_
        · intro hg o ho
          subst hg
          simp only [Qs, Qbz] at hgd
          have := Array.all_eq_true_iff_forall_mem.1 hgd o ho
          simpa using this
        · intro τ S' w' O' a' hK hgh hev hsr hd
          exact hQ _ _ _ _ _ _ hK ⟨by rw [hd]; exact hC.evol hat.ctx hat.sr.mat.lt hev hgh, hsr⟩
      · cases hc
  | nxt d m it =>
    intro c r' F n lo top hF hc C base hC Q Q' σ S w O a hw hat hQ
    cases c <;> (try simp only [comp] at hc) <;> try (cases hc; done)
    case region id ops draw =>
      cases draw <;> (try simp only [comp] at hc) <;> try (cases hc; done)
      split at hc
      · rename_i o1 o2 hops
        split at hc
        · rename_i hx
          cases hc
          refine Qtn hF (M := M) (N := M.nm) hops hx hw hat.sr ?_
          intro σ' w' a' hK hev hgh hsr hd
          exact hQ _ _ _ _ _ _ hK ⟨by rw [hd]; exact hC.evol hat.ctx hat.sr.mat.lt hev hgh, hsr⟩
        · cases hc
      · cases hc
  | yrg g l1 y ks l2 =>
    intro c r' F n lo top hF hc C base hC Q Q' σ S w O a hw hat hQ
    cases c <;> (try simp only [comp] at hc) <;> try (cases hc; done)
    case region id ops draw =>
      cases draw <;> (try simp only [comp] at hc) <;> try (cases hc; done)
      split at hc
      · rename_i htg
        simp only [Qc, beq_iff_eq] at htg
        obtain ⟨rfl, hgd⟩ := htg
        split at hc
        · rename_i o ho
          split at hc
          · rename_i r1 y' r2 h1 hy h2
            split at hc
            · rename_i hl
              cases hc
              have hl' : r1.length = l1.length := by simpa using hl
              rw [← hl'] at ho h1 h2
              exact Qup hG hF hC hgd ho h1 hy h2 hw hat fun σ' S' w' O' a' => hQ _ σ' S' w' O' a'
            · cases hc
          · cases hc
        · cases hc
      · cases hc
  | hcl g l1 y l2 =>
    intro c r' F n lo top hF hc C base hC Q Q' σ S w O a hw hat hQ
    cases c <;> (try simp only [comp] at hc) <;> try (cases hc; done)
    case region id ops draw =>
      cases draw <;> (try simp only [comp] at hc) <;> try (cases hc; done)
      split at hc
      · rename_i hgd
        split at hc
        · rename_i o ho
          split at hc
          · rename_i r1 y' r2 h1 hy h2
            split at hc
            · rename_i hl
              cases hc
              have hl' : r1.length = l1.length := by simpa using hl
              rw [← hl'] at ho h1 h2
              exact Qsr hG hF hC hgd ho h1 hy h2 hw hat fun σ' S' w' O' a' => hQ _ σ' S' w' O' a'
            · cases hc
          · cases hc
        · cases hc
      · cases hc
  | hca g m1 l1 y m2 l2 =>
    intro c r' F n lo top hF hc C base hC Q Q' σ S w O a hw hat hQ
    cases c <;> (try simp only [comp] at hc) <;> try (cases hc; done)
    case region id ops draw =>
      cases draw <;> (try simp only [comp] at hc) <;> try (cases hc; done)
      split at hc
      · rename_i hgd
        split at hc
        · rename_i o ho
          split at hc
          · rename_i r1 y1 r2 h1 hy h2
            split at hc
            · rename_i hl
              cases hc
              exact Qsq hG hF hm hC hgd ho h1 hy h2 hl hw hat fun σ' S' w' O' a' => hQ _ σ' S' w' O' a'
            · cases hc
          · cases hc
        · cases hc
      · cases hc
  | crl g l1 y l2 =>
    intro c r' F n lo top hF hc C base hC Q Q' σ S w O a hw hat hQ
    cases c <;> (try simp only [comp] at hc) <;> try (cases hc; done)
    case region id ops draw =>
      cases draw <;> (try simp only [comp] at hc) <;> try (cases hc; done)
      split at hc
      · rename_i hgd
        split at hc
        · rename_i o ho
          split at hc
          · rename_i r1 y' r2 h1 hy h2
            split at hc
            · rename_i hl
              cases hc
              have hl' : r1.length = l1.length := by simpa using hl
              rw [← hl'] at ho h1 h2
              exact Qs5 hG hF hC hgd ho h1 hy h2 hw hat fun σ' S' w' O' a' => hQ _ σ' S' w' O' a'
            · cases hc
          · cases hc
        · cases hc
      · cases hc
  | swp i j r ih =>
    intro c r' F n lo top hF hc C base hC Q Q' σ S w O a hw hat hQ
    simp only [comp] at hc
    split at hc
    · rename_i htl
      simp only [Qc, beq_iff_eq] at htl
      rw [Qa] at hc
      obtain ⟨r1, h1, rfl⟩ := hc
      obtain ⟨hi, hj, hw⟩ := hw
      refine ih c r1 F n lo top hF h1 C base hC Q Q' _ S w (fun id => O (sw i j id)) a hw ⟨hC.ren htl.1 htl.2 hat.ctx fun k ⟨id, g, ho⟩ => ⟨_, g, ho⟩, ⟨hat.sr.size, hat.sr.kept, fun t => ?_, Zgk hat.sr.mat hi hj⟩⟩ hQ
      exact Qn5 (fun id => by rw [Qxr]) _ _ (hat.sr.fr t)
    · cases hc
  | any g m l =>
    intro c r' F n lo top hF hc C base hC Q Q' σ S w O a hw hat hQ
    cases c <;> (try simp only [comp] at hc) <;> try (cases hc; done)
    case region id ops draw =>
      cases draw <;> (try simp only [comp] at hc) <;> try (cases hc; done)
      split at hc
      · rename_i hgd
        cases hrs : (ops.toList.mapM fun o => resO P pu M.nm ops o) with
        | none => simp [hrs] at hc
        | some rs =>
          simp only [hrs] at hc
          split at hc
          · rename_i hch
            cases hc
            simp only [Qc, decide_eq_true_eq] at hch
            obtain ⟨⟨h1, h2⟩, h3⟩ := hch
            have hmap := Qcl hrs
            have hAO : Qrr P pu M.nm ops (rs.zipWith (fun r (x : AnyOp) => (⟨{ r with nid := x.o.nid }, x.js, x.an⟩ : AnyOp)) l) := by
              unfold Qrr
              rw [hmap]
              refine Zh fun i => ?_
              simp only [Qk, Za]
              cases hi : rs[i]? with
              | none => simp
              | some x =>
                have hlt := Qaf hi
                have hll : i < l.length := by
                  rw [List.length_zipWith] at h3; omega
                simp only [Qn, Qh hll, Qb.injEq]
                have h1 := congrArg (fun l => l[i]?) hmap
                simp only [Qk, hi, Qn] at h1
                rw [Qa] at h1
                obtain ⟨o, _, ho⟩ := h1
                have := Qjn ho
                cases x; simp_all
            refine Qrk hG hF hm hAO h1 h2 (g := g) (base := σ.hp.length) ?_ hw ⟨hat.sr.size, hat.sr.kept, hat.sr.fr, Qfb hat.sr.mat _⟩ ?_
            · intro hg o ho
              subst hg
              simp only [Qs, Qbz] at hgd
              have := Array.all_eq_true_iff_forall_mem.1 hgd o ho
              simpa using this
            · intro τ S' w' O' a' hK hgh hev hsr hd
              exact hQ _ _ _ _ _ _ hK ⟨by rw [hd]; exact hC.evol hat.ctx hat.sr.mat.lt hev fun y hy => hgh y (Qeq hy), hsr⟩
          · cases hc
      · cases hc
  | seq r1 r2 ih1 ih2 =>
    intro c r' F n lo top hF hc C base hC Q Q' σ S w O a hw hat hQ
    cases c <;> (try simp only [comp] at hc) <;> try (cases hc; done)
    case seq x y =>
      cases h1 : comp P pu M.nm lo top r1 x with
      | none => simp [h1] at hc
      | some a1 =>
        cases h2 : comp P pu M.nm lo top r2 y with
        | none => simp [h1, h2] at hc
        | some a2 =>
          simp only [h1, h2, Qb.injEq] at hc
          subst hc
          refine wpIn_seq (ih1 x a1 F n lo top hF h1 C base hC _ _ σ S w O a hw hat ?_)
          intro e σ' S' w' O' a' he hat'
          cases e <;> first | exact hQ _ _ _ _ _ _ he hat' | skip
          exact ih2 y a2 F n lo top hF h2 C base hC _ _ σ' S' w' O' a' he hat' hQ
  | mid r1 r2 ih1 ih2 =>
    intro c r' F n lo top hF hc C base hC Q Q' σ S w O a hw hat hQ
    cases c <;> (try simp only [comp] at hc) <;> try (cases hc; done)
    case seq x y =>
      cases h1 : comp P pu M.nm lo top r1 x with
      | none => simp [h1] at hc
      | some a1 =>
        cases h2 : comp P pu M.nm lo top r2 y with
        | none => simp [h1, h2] at hc
        | some a2 =>
          simp only [h1, h2, Qb.injEq] at hc
          subst hc
          obtain ⟨Mid, hw1, hw2⟩ := hw
          refine wpIn_seq (ih1 x a1 F n lo top hF h1 C base hC _ _ σ S w O a hw1 hat ?_)
          intro e σ' S' w' O' a' he hat'
          cases e <;> first | exact hQ _ _ _ _ _ _ he hat' | skip
          exact ih2 y a2 F n lo top hF h2 C base hC _ _ σ' S' w' O' a' (hw2 _ he) hat' hQ
  | cond k r1 r2 ih1 ih2 =>
    intro c r' F n lo top hF hc C base hC Q Q' σ S w O a hw hat hQ
    cases c <;> (try simp only [comp] at hc) <;> try (cases hc; done)
    case cond k' x y =>
      cases h0 : rOd P 0 k' with
      | none => simp [h0] at hc
      | some k1 =>
        cases h1 : comp P pu M.nm lo top r1 x with
        | none => simp [h0, h1] at hc
        | some a1 =>
          cases h2 : comp P pu M.nm lo top r2 y with
          | none => simp [h0, h1, h2] at hc
          | some a2 =>
            simp only [h0, h1, h2, Qb.injEq] at hc
            subst hc
            simp only [wpR] at hw
            cases hk : evO σ.fr k1 <;> simp only [hk] at hw <;> try exact hw.elim
            case b t =>
              refine wpIn_cond_split (Qwi hat.sr.fr h0 hk) (fun ht => ?_) (fun ht => ?_)
              · exact ih1 x a1 F n lo top hF h1 C base hC Q Q' σ S w O a (hw.1 ht) hat hQ
              · exact ih2 y a2 F n lo top hF h2 C base hC Q Q' σ S w O a (hw.2 ht) hat hQ
  | block id r ih =>
    intro c r' F n lo top hF hc C base hC Q Q' σ S w O a hw hat hQ
    cases c <;> (try simp only [comp] at hc) <;> try (cases hc; done)
    case block id' x =>
      rw [Qa] at hc
      obtain ⟨r1, h1, rfl⟩ := hc
      refine wpIn_block (ih x r1 F n lo top hF h1 C base hC _ _ σ S w O a hw hat ?_)
      intro e σ' S' w' O' a' he hat'
      cases e <;> first | exact hQ _ _ _ _ _ _ he hat' | skip
      case exit id'' =>
        simp only [Qh9] at he
        simp only [Exit.inBlock]
        split
        · rename_i hid; rw [if_pos hid] at he; exact hQ _ _ _ _ _ _ he hat'
        · rename_i hid; rw [if_neg hid] at he; exact hQ _ _ _ _ _ _ he hat'
  | loop l d r ih =>
    intro c r' F n lo top hF hc C base hC Q Q' σ S w O a hw hat hQ
    cases c <;> (try simp only [comp] at hc) <;> try (cases hc; done)
    case loop x =>
      by_cases hlo : dOk lo d = true
      · rw [if_pos hlo] at hc
        rw [Qa] at hc
        obtain ⟨r1, h1, rfl⟩ := hc
        have hd : ∀ k, d = some k → lo ≤ k := by
          rintro k rfl
          exact of_decide_eq_true hlo
        obtain ⟨I, ⟨k0, h0⟩, hround⟩ := hw
        obtain ⟨S1, O1, hat1⟩ := hat.kp hC l d hd
        refine Qrp (fun k a w => ∃ σ S O, I k σ ∧ At C M S w O σ a) ⟨k0, _, S1, O1, h0, hat1⟩ ?_
        rintro k a1 w1 ⟨σ1, S1, O1, hI, hat1⟩
        refine ih x r1 F n lo top hF h1 C base hC _ _ σ1 S1 w1 O1 a1 (hround k σ1 hI) hat1 ?_
        intro e σ' S' w' O' a' he hat'
        cases e <;> first | exact hQ _ _ _ _ _ _ he hat' | skip
        obtain ⟨j, hj, hI'⟩ := he
        obtain ⟨S2, O2, hat2⟩ := hat'.kp hC l d hd
        exact ⟨j, hj, _, S2, O2, hI', hat2⟩
      · rw [if_neg hlo] at hc; cases hc
  | exit id =>
    intro c r' F n lo top hF hc C base hC Q Q' σ S w O a hw hat hQ
    cases c <;> (try simp only [comp] at hc) <;> try (cases hc; done)
    cases hc
    exact wpIn_exit (hQ _ _ _ _ _ _ hw hat)
  | ret =>
    intro c r' F n lo top hF hc C base hC Q Q' σ S w O a hw hat hQ
    cases c <;> (try simp only [comp] at hc) <;> try (cases hc; done)
    exact wpIn_ret (hQ _ _ _ _ _ _ (by cases hc; exact hw) hat)
  | keep l r ih =>
    intro c r' F n lo top hF hc C base hC Q Q' σ S w O a hw hat hQ
    simp only [comp] at hc
    rw [Qa] at hc
    obtain ⟨r1, h1, rfl⟩ := hc
    exact ih c r1 F n lo top hF h1 C base hC Q Q' _ S w O a hw (hat.keep l) hQ
  | drp k r ih =>
    intro c r' F n lo top hF hc C base hC Q Q' σ S w O a hw hat hQ
    simp only [comp] at hc
    split at hc
    · rename_i hlo
      rw [Qa] at hc
      obtain ⟨r1, h1, rfl⟩ := hc
      exact ih c r1 F n lo top hF h1 C base hC Q Q' _ _ w (Qcd O k) a hw (hat.drp hC hlo) hQ
    · cases hc
  | own t es r ih =>
    intro c r' F n lo top hF hc C base hC Q Q' σ S w O a hw hat hQ
    simp only [comp] at hc
    rw [Qa] at hc
    obtain ⟨r1, h1, rfl⟩ := hc
    simp only [wpR] at hw
    cases ht : σ.fr t <;> simp only [ht] at hw <;> try exact hw.elim
    case z es' =>
      have hO := Qgd hat.sr.mat
      obtain ⟨hev, hmat⟩ := Qjo (Qfb hat.sr.mat [.cells 0 []]) hO (by simp) rfl
      refine ih c r1 F n lo top hF h1 C base hC Q Q' _ S w _ a hw ⟨hC.evol hat.ctx hat.sr.mat.lt hev fun y hy => Qeq hy, ⟨hat.sr.size, hat.sr.kept, fun t' => ?_, hmat⟩⟩ hQ
      simp only [upd]
      split
      · rename_i e
        subst e
        have := hat.sr.fr t'
        rw [ht] at this
        simp only [Rep] at this ⊢
        obtain ⟨x, hx⟩ := this
        rw [hx]
        exact ⟨rfl, 0, none, (by simp [updO]), Qf _, fun _ => .inr ⟨rfl, trivial, x, rfl⟩⟩
      · exact Rep.ext hev.ext _ _ (hat.sr.fr t')
  | owng t es gs r ih =>
    intro c r' F n lo top hF hc C base hC Q Q' σ S w O a hw hat hQ
    simp only [comp] at hc
    rw [Qa] at hc
    obtain ⟨r1, h1, rfl⟩ := hc
    simp only [wpR] at hw
    cases ht : σ.fr t <;> simp only [ht] at hw <;> try exact hw.elim
    case z es' =>
      have hO := Qgd hat.sr.mat
      obtain ⟨hev, hmat⟩ := Qum (gs := gs) (Qfb hat.sr.mat [.cells gs []]) hO (by simp) rfl
      refine ih c r1 F n lo top hF h1 C base hC Q Q' _ S w _ a hw ⟨hC.evol hat.ctx hat.sr.mat.lt hev fun y hy => Qeq hy, ⟨hat.sr.size, hat.sr.kept, fun t' => ?_, hmat⟩⟩ hQ
      simp only [upd]
      split
      · rename_i e
        subst e
        have := hat.sr.fr t'
        rw [ht] at this
        simp only [Rep] at this ⊢
        obtain ⟨x, hx⟩ := this
        rw [hx]
        exact ⟨rfl, gs, none, (by simp [updO]), Qf _, fun _ => .inr ⟨rfl, trivial, x, rfl⟩⟩
      · exact Rep.ext hev.ext _ _ (hat.sr.fr t')
  | ownc t off es r ih =>
    intro c r' F n lo top hF hc C base hC Q Q' σ S w O a hw hat hQ
    simp only [comp] at hc
    rw [Qa] at hc
    obtain ⟨r1, h1, rfl⟩ := hc
    simp only [wpR] at hw
    cases ht : σ.fr t <;> simp only [ht] at hw <;> try exact hw.elim
    case ad id g o =>
      cases hid : σ.hp[id]? with
      | none => simp [hid] at hw
      | some bk =>
        cases bk <;> simp only [hid] at hw <;> try exact hw.elim
        case cells g' vs =>
          cases hv : vs[o + off]? with
          | none => simp [hv] at hw
          | some v =>
            cases v <;> simp only [hv] at hw <;> try exact hw.elim
            case z es' =>
              obtain ⟨rfl, hw⟩ := hw
              have hO := Qgd hat.sr.mat
              have hidlt := Qaf hid
              obtain ⟨hev, hmat⟩ := Qjo (Qfb hat.sr.mat [.cells 0 []]) hO (by simp) rfl
              refine ih c r1 F n lo top hF h1 C base hC Q Q' _ S w _ a hw ⟨hC.evol hat.ctx hat.sr.mat.lt hev fun y hy => Qeq (Qk6 hy hid fun _ _ h => by cases h), ⟨hat.sr.size, hat.sr.kept, hat.sr.fr.ext hev.ext, ?_⟩⟩ hQ
              refine ⟨hmat.lt, hmat.own, hmat.inj, fun j gj ob hj => ?_⟩
              have hb := hmat.blk j gj ob hj
              by_cases hji : j = id
              · subst hji
                rw [Qj (by rw [Qy]; exact hidlt), Qv hidlt]
                rw [Qj hidlt, hid] at hb
                simp only [Qbb] at hb ⊢
                refine ⟨hb.1, ?_⟩
                cases ob with
                | none => have := hb.2; simp only at this; rw [this] at hv; simp at hv
                | some b =>
                  obtain ⟨cur, e, hh, hrl, hone⟩ := hb.2
                  refine ⟨cur, e, hh, ?_, hone⟩
                  obtain ⟨cc, hcc, hrep⟩ := RepL.get _ _ _ _ hrl hv
                  have hrep2 : Rep S w (updO O σ.hp.length (0, none)) (.rf σ.hp.length 0 0 0 es) cc := by
                    simp only [Rep] at hrep ⊢
                    obtain ⟨x, hx⟩ := hrep
                    rw [hx]
                    exact ⟨rfl, 0, none, (by simp [updO]), Qf _, fun _ => .inr ⟨rfl, trivial, x, rfl⟩⟩
                  have := RepL.set (o + off) vs cur.toList _ cc hrl hrep2
                  rwa [Qoz hcc] at this
              · have e1 : (σ.hp.set id (Blk.cells g' (vs.set (o + off) (.rf σ.hp.length 0 0 0 es))) ++ [Blk.cells 0 []])[j]? = (σ.hp ++ [Blk.cells 0 []])[j]? := by
                  rw [Qx, Qx, Qy, Qw (Ne.symm hji)]
                rw [e1]; exact hb
  | owni t i off es r ih =>
    intro c r' F n lo top hF hc C base hC Q Q' σ S w O a hw hat hQ
    simp only [comp] at hc
    rw [Qa] at hc
    obtain ⟨r1, h1, rfl⟩ := hc
    simp only [wpR] at hw
    cases ht : σ.fr t <;> simp only [ht] at hw <;> try exact hw.elim
    case rf id g o len es' =>
     cases hi : σ.fr i <;> simp only [hi] at hw <;> try exact hw.elim
     case i k =>
      cases hid : σ.hp[id]? with
      | none => simp [hid] at hw
      | some bk =>
        cases bk <;> simp only [hid] at hw <;> try exact hw.elim
        case cells g' vs =>
          cases hv : vs[o + k.toNat * es' + off]? with
          | none => simp [hv] at hw
          | some v =>
            cases v <;> simp only [hv] at hw <;> try exact hw.elim
            case z es2 =>
              obtain ⟨rfl, hw⟩ := hw
              have hO := Qgd hat.sr.mat
              have hidlt := Qaf hid
              obtain ⟨hev, hmat⟩ := Qjo (Qfb hat.sr.mat [.cells 0 []]) hO (by simp) rfl
              refine ih c r1 F n lo top hF h1 C base hC Q Q' _ S w _ a hw ⟨hC.evol hat.ctx hat.sr.mat.lt hev fun y hy => Qeq (Qk6 hy hid fun _ _ h => by cases h), ⟨hat.sr.size, hat.sr.kept, hat.sr.fr.ext hev.ext, ?_⟩⟩ hQ
              refine ⟨hmat.lt, hmat.own, hmat.inj, fun j gj ob hj => ?_⟩
              have hb := hmat.blk j gj ob hj
              by_cases hji : j = id
              · subst hji
                rw [Qj (by rw [Qy]; exact hidlt), Qv hidlt]
                rw [Qj hidlt, hid] at hb
                simp only [Qbb] at hb ⊢
                refine ⟨hb.1, ?_⟩
                cases ob with
                | none => have := hb.2; simp only at this; rw [this] at hv; simp at hv
                | some b =>
                  obtain ⟨cur, e, hh, hrl, hone⟩ := hb.2
                  refine ⟨cur, e, hh, ?_, hone⟩
                  obtain ⟨cc, hcc, hrep⟩ := RepL.get _ _ _ _ hrl hv
                  have hrep2 : Rep S w (updO O σ.hp.length (0, none)) (.rf σ.hp.length 0 0 0 es) cc := by
                    simp only [Rep] at hrep ⊢
                    obtain ⟨x, hx⟩ := hrep
                    rw [hx]
                    exact ⟨rfl, 0, none, (by simp [updO]), Qf _, fun _ => .inr ⟨rfl, trivial, x, rfl⟩⟩
                  have := RepL.set (o + k.toNat * es' + off) vs cur.toList _ cc hrl hrep2
                  rwa [Qoz hcc] at this
              · have e1 : (σ.hp.set id (Blk.cells g' (vs.set (o + k.toNat * es' + off) (.rf σ.hp.length 0 0 0 es))) ++ [Blk.cells 0 []])[j]? = (σ.hp ++ [Blk.cells 0 []])[j]? := by
                  rw [Qx, Qx, Qy, Qw (Ne.symm hji)]
                rw [e1]; exact hb
  | rfn f ps lo' rb ra ihb iha =>
    intro c r' F n lo top hF hc C base hC Q Q' σ S w O a hw hat hQ
    cases c <;> (try simp only [comp] at hc) <;> try (cases hc; done)
    case rangeFunc f0 ps0 x y =>
      split at hc
      · rename_i hch
        simp only [Qc, decide_eq_true_eq, beq_iff_eq] at hch
        obtain ⟨⟨rfl, hlo⟩, hps⟩ := hch
        cases h0 : rOd P 0 f0 with
        | none => simp [h0] at hc
        | some f1 =>
          cases h1 : comp P pu M.nm lo' 0 rb x with
          | none => simp [h0, h1] at hc
          | some b1 =>
            cases h2 : comp P pu M.nm lo' 0 ra y with
            | none => simp [h0, h1, h2] at hc
            | some a1 =>
              simp only [h0, h1, h2, Qb.injEq] at hc
              subst hc
              refine Qu1 hG hF hC h0 hlo (fun p hp => ?_) (fun l => ihb x b1 _ _ lo' 0 (Qjm hF l) h1) (fun l => iha y a1 _ _ lo' 0 (Qjm hF l) h2) hw hat hQ
              have := Array.all_eq_true_iff_forall_mem.1 hps p (by simpa using hp)
              exact Qby this
      · cases hc
  | rfh f ps lo' zl rb ra ihb iha =>
    intro c r' F n lo top hF hc C base hC Q Q' σ S w O a hw hat hQ
    cases c <;> (try simp only [comp] at hc) <;> try (cases hc; done)
    case rangeFunc f0 ps0 x y =>
      split at hc
      · rename_i hch
        simp only [Qc, decide_eq_true_eq, beq_iff_eq] at hch
        obtain ⟨⟨rfl, hlo⟩, hps⟩ := hch
        cases h0 : rOd P 0 f0 with
        | none => simp [h0] at hc
        | some f1 =>
          cases h1 : comp P pu M.nm (lo' + zl) 0 rb x with
          | none => simp [h0, h1] at hc
          | some b1 =>
            cases h2 : comp P pu M.nm (lo' + zl) 0 ra y with
            | none => simp [h0, h1, h2] at hc
            | some a1 =>
              simp only [h0, h1, h2, Qb.injEq] at hc
              subst hc
              refine Qtz hG hF hC h0 hlo (fun p hp => ?_) (fun l => ihb x b1 _ _ (lo' + zl) 0 (Qjm hF l) h1) (fun l => iha y a1 _ _ (lo' + zl) 0 (Qjm hF l) h2) hw hat hQ
              have := Array.all_eq_true_iff_forall_mem.1 hps p (by simpa using hp)
              exact Qby this
      · cases hc
end
end Go.Fam
