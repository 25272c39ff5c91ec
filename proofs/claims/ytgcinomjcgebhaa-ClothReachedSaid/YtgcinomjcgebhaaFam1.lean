import Derived.WalkKit
import Derived.OrdersIn
import Derived.RangeFuncFrom
import Derived.RangeFuncLeaves
import Derived.Maps.RangeRun
import Derived.MapKept
set_option linter.all false
/- Abstract values and what they stand for in a world; how a world may evolve. -/
namespace Go.Fam
/-- abstract values -/
inductive V where
  | u | b (x : Bool) | i (x : Int) | z (es : Nat) | sl (es : Nat) (rows : List (List V)) | pa (cs : List V) | pn
  | ag (cs : List V) | tp (cs : List V) | fn (f : Nat) (caps : List V)
  | ad (id g off : Nat) | rf (id g off len es : Nat) | mp (id g : Nat) | it (id g : Nat) | yl (l : Nat) | gv (c : Bool) (v : V)

instance : Inhabited V := ⟨.u⟩

abbrev OInfo := Nat → Option (Nat × Option Nat)
def noO : OInfo := fun _ => none

mutual
def Rep (S : Nat → Prop) (w : World) (O : OInfo) : V → Value → Prop
  | .u, _ => True
  | .b x, c => c = .bool x
  | .i x, c => c = .int .i64 x
  | .z _, c => ∃ a, c = .slice a 0 0
  | .sl es rows, c => ∃ a cap, c = .slice a rows.length cap ∧ rows.length ≤ cap ∧ (rows = [] ∨ ∃ blk off cur e fr, a = some ⟨blk, off, none⟩ ∧ S blk ∧ w.heap[blk]? = some (.cells cur e fr) ∧ RepRows S w es rows (cur.toList.drop off))
  | .pa cs, c => ∃ blk off cur e fr, c = .pointer (some ⟨blk, off, none⟩) ∧ S blk ∧ w.heap[blk]? = some (.cells cur e fr) ∧ RepL S w noO cs (cur.toList.drop off)
  | .pn, c => c = .pointer none
  | .ag cs, c => ∃ ccs, c = .agg ccs ∧ ccs.size = cs.length ∧ RepL S w O cs ccs.toList
  | .tp cs, c => ∃ ccs, c = .tuple ccs ∧ ccs.size = cs.length ∧ RepL S w O cs ccs.toList
  | .fn f caps, c => ∃ ccs, c = .func (.func f) #[] ccs ∧ ccs.size = caps.length ∧ RepL S w O caps ccs.toList
  | .ad id g off, c => c.oneCell' = true ∧ ∃ g' ob, O id = some (g', ob) ∧ g ≤ g' ∧ (g = g' → ∃ b, ob = some b ∧ c = .pointer (some ⟨b, off, none⟩))
  | .rf id g off len es, c => c.oneCell' = true ∧ ∃ g' ob, O id = some (g', ob) ∧ g ≤ g' ∧ (g = g' → (∃ b cap cur e, ob = some b ∧ w.heap[b]? = some (.cells cur e (0, 0)) ∧ c = .slice (some ⟨b, off, none⟩) len cap ∧ len ≤ cap ∧ off + cap * es ≤ cur.size) ∨ (ob = none ∧ len = 0 ∧ ∃ a, c = .slice a 0 0))
  | .mp id g, c => c.oneCell' = true ∧ ∃ g' ob, O id = some (g', ob) ∧ g ≤ g' ∧ (g = g' → ∃ b, ob = some b ∧ c = .map (some b))
  | .it id g, c => c.oneCell' = true ∧ ∃ g' ob, O id = some (g', ob) ∧ g ≤ g' ∧ (g = g' → ∃ b, ob = some b ∧ c = .pointer (some ⟨b, 0, none⟩))
  | .yl l, c => c = .func (.yield l) #[] #[]
  | .gv q v, c => (q = true → Rep S w O v c) ∧ (q = false → c = undef)
def RepL (S : Nat → Prop) (w : World) (O : OInfo) : List V → List Value → Prop
  | [], _ => True
  | _ :: _, [] => False
  | v :: vs, c :: cs => Rep S w O v c ∧ RepL S w O vs cs
def RepRows (S : Nat → Prop) (w : World) (es : Nat) : List (List V) → List Value → Prop
  | [], _ => True
  | r :: rs, cs => (r.length = es ∧ ∀ c ∈ cs.take es, c.oneCell' = true) ∧ RepL S w noO r cs ∧ RepRows S w es rs (cs.drop es)
end

/-- what a value's meaning hangs on: pure blocks stay, own blocks keep their place while their stamp stays -/
structure Ext (S S' : Nat → Prop) (w w' : World) (O O' : OInfo) : Prop where
  keep : ∀ n, S n → S' n ∧ w'.heap[n]? = w.heap[n]?
  own : ∀ id g ob, O id = some (g, ob) → ∃ g' ob', O' id = some (g', ob') ∧ g ≤ g' ∧ (g' = g → ob' = ob ∧
    (∀ b cur e, ob = some b → w.heap[b]? = some (.cells cur e (0, 0)) → ∃ cur', w'.heap[b]? = some (.cells cur' e (0, 0)) ∧ cur'.size = cur.size))

theorem Ext.noO {S S' : Nat → Prop} {w w' : World} {O O' : OInfo} (h : Ext S S' w w' O O') : Ext S S' w w' Fam.noO Fam.noO :=
  ⟨h.keep, fun _ _ _ h => by cases h⟩

mutual
theorem Rep.ext {S S' : Nat → Prop} {w w' : World} {O O' : OInfo} (h : Ext S S' w w' O O') : ∀ (v : V) (c : Value), Rep S w O v c → Rep S' w' O' v c
  | .u, _, _ => by simp [Rep]
  | .b x, c, hr => by simpa [Rep] using hr
  | .i x, c, hr => by simpa [Rep] using hr
  | .z _, c, hr => by simpa [Rep] using hr
  | .sl es rows, c, hr => by
    simp only [Rep] at hr ⊢
    obtain ⟨a, cap, hc, hcap, hr⟩ := hr
    refine ⟨a, cap, hc, hcap, hr.imp id ?_⟩
    rintro ⟨blk, off, cur, e, fr, ha, hS, hb, hrow⟩
    exact ⟨blk, off, cur, e, fr, ha, (h.keep blk hS).1, (h.keep blk hS).2.trans hb, RepRows.ext h es rows _ hrow⟩
  | .pa cs, c, hr => by
    simp only [Rep] at hr ⊢
    obtain ⟨blk, off, cur, e, fr, ha, hS, hb, hrow⟩ := hr
    exact ⟨blk, off, cur, e, fr, ha, (h.keep blk hS).1, (h.keep blk hS).2.trans hb, RepL.ext h.noO cs _ hrow⟩
  | .pn, c, hr => by simpa [Rep] using hr
  | .ag cs, c, hr => by
    simp only [Rep] at hr ⊢
    obtain ⟨ccs, hc, hn, hr⟩ := hr
    exact ⟨ccs, hc, hn, RepL.ext h cs _ hr⟩
  | .tp cs, c, hr => by
    simp only [Rep] at hr ⊢
    obtain ⟨ccs, hc, hn, hr⟩ := hr
    exact ⟨ccs, hc, hn, RepL.ext h cs _ hr⟩
  | .fn f cs, c, hr => by
    simp only [Rep] at hr ⊢
    obtain ⟨ccs, hc, hn, hr⟩ := hr
    exact ⟨ccs, hc, hn, RepL.ext h cs _ hr⟩
  | .ad id g off, c, hr => by
    simp only [Rep] at hr ⊢
    obtain ⟨h1, g', ob, hO, hg, hr⟩ := hr
    obtain ⟨g'', ob', hO', hg', hk⟩ := h.own id g' ob hO
    refine ⟨h1, g'', ob', hO', Nat.le_trans hg hg', fun e => ?_⟩
    have e1 : g'' = g' := by omega
    rw [(hk e1).1]
    exact hr (by omega)
  | .rf id g off len es, c, hr => by
    simp only [Rep] at hr ⊢
    obtain ⟨h1, g', ob, hO, hg, hr⟩ := hr
    obtain ⟨g'', ob', hO', hg', hk⟩ := h.own id g' ob hO
    refine ⟨h1, g'', ob', hO', Nat.le_trans hg hg', fun e => ?_⟩
    have e1 : g'' = g' := by omega
    rw [(hk e1).1]
    rcases hr (by omega) with ⟨b, cap, cur, e2, hb, hh, hc, hl, hs⟩ | hr
    · obtain ⟨cur', hh', hs'⟩ := (hk e1).2 b cur e2 hb hh
      exact .inl ⟨b, cap, cur', e2, hb, hh', hc, hl, by omega⟩
    · exact .inr hr
  | .mp id g, c, hr => by
    simp only [Rep] at hr ⊢
    obtain ⟨h1, g', ob, hO, hg, hr⟩ := hr
    obtain ⟨g'', ob', hO', hg', hk⟩ := h.own id g' ob hO
    refine ⟨h1, g'', ob', hO', Nat.le_trans hg hg', fun e => ?_⟩
    have e1 : g'' = g' := by omega
    rw [(hk e1).1]
    exact hr (by omega)
  | .it id g, c, hr => by
    simp only [Rep] at hr ⊢
    obtain ⟨h1, g', ob, hO, hg, hr⟩ := hr
    obtain ⟨g'', ob', hO', hg', hk⟩ := h.own id g' ob hO
    refine ⟨h1, g'', ob', hO', Nat.le_trans hg hg', fun e => ?_⟩
    have e1 : g'' = g' := by omega
    rw [(hk e1).1]
    exact hr (by omega)
  | .yl l, c, hr => by simpa [Rep] using hr
  | .gv q v, c, hr => by
    simp only [Rep] at hr ⊢
    exact ⟨fun hq => Rep.ext h v c (hr.1 hq), hr.2⟩
theorem RepL.ext {S S' : Nat → Prop} {w w' : World} {O O' : OInfo} (h : Ext S S' w w' O O') : ∀ (vs : List V) (cs : List Value), RepL S w O vs cs → RepL S' w' O' vs cs
  | [], _, _ => by simp [RepL]
  | _ :: _, [], hr => by simp [RepL] at hr
  | v :: vs, c :: cs, hr => by
    simp only [RepL] at hr ⊢
    exact ⟨Rep.ext h v c hr.1, RepL.ext h vs cs hr.2⟩
theorem RepRows.ext {S S' : Nat → Prop} {w w' : World} {O O' : OInfo} (h : Ext S S' w w' O O') (es : Nat) : ∀ (rs : List (List V)) (cs : List Value), RepRows S w es rs cs → RepRows S' w' es rs cs
  | [], _, _ => by simp [RepRows]
  | r :: rs, cs, hr => by
    simp only [RepRows] at hr ⊢
    exact ⟨hr.1, RepL.ext h.noO r cs hr.2.1, RepRows.ext h es rs _ hr.2.2⟩
end
/-- block n is one of ours -/
def Own (O : OInfo) (n : Nat) : Prop := ∃ id g, O id = some (g, some n)

/-- how the world, the pure blocks and our own blocks may go on -/
structure Evol (S S' : Nat → Prop) (w w' : World) (O O' : OInfo) : Prop where
  ext : Ext S S' w w' O O'
  os : w'.os = w.os
  tape : w'.tape = w.tape
  output : w'.output = w.output
  size : w.heap.size ≤ w'.heap.size
  fz : ∀ a, w'.frozen? a = w.frozen? a
  old : ∀ n, n < w.heap.size → ¬ Own O n → w'.heap[n]? = w.heap[n]?
  fresh : ∀ n, Own O' n → Own O n ∨ w.heap.size ≤ n
  grow : ∀ n, S' n → S n ∨ Own O n ∨ w.heap.size ≤ n

theorem Ext.refl (S : Nat → Prop) (w : World) (O : OInfo) : Ext S S w w O O :=
  ⟨fun _ h => ⟨h, rfl⟩, fun _ g ob h => ⟨g, ob, h, Nat.le_refl _, fun _ => ⟨rfl, fun _ cur _ _ hb => ⟨cur, hb, rfl⟩⟩⟩⟩

theorem Ext.trans {S S' S'' : Nat → Prop} {w w' w'' : World} {O O' O'' : OInfo} (h : Ext S S' w w' O O') (k : Ext S' S'' w' w'' O' O'') : Ext S S'' w w'' O O'' := by
  refine ⟨fun n hn => ⟨(k.keep n (h.keep n hn).1).1, ((k.keep n (h.keep n hn).1).2).trans (h.keep n hn).2⟩, fun id g ob ho => ?_⟩
  obtain ⟨g', ob', ho', hg, h1⟩ := h.own id g ob ho
  obtain ⟨g'', ob'', ho'', hg', h2⟩ := k.own id g' ob' ho'
  refine ⟨g'', ob'', ho'', Nat.le_trans hg hg', fun e => ?_⟩
  have e1 : g' = g := by omega
  have e2 : g'' = g' := by omega
  obtain ⟨a1, a2⟩ := h1 e1
  obtain ⟨b1, b2⟩ := h2 e2
  refine ⟨b1.trans a1, fun b cur e hb hh => ?_⟩
  obtain ⟨cur', hh', hs⟩ := a2 b cur e hb hh
  obtain ⟨cur'', hh'', hs'⟩ := b2 b cur' e (a1.trans hb) hh'
  exact ⟨cur'', hh'', hs'.trans hs⟩

theorem Evol.refl (S : Nat → Prop) (w : World) (O : OInfo) : Evol S S w w O O :=
  ⟨Ext.refl S w O, rfl, rfl, rfl, Nat.le_refl _, fun _ => rfl, fun _ _ _ => rfl, fun _ h => .inl h, fun _ h => .inl h⟩

theorem Evol.trans {S S' S'' : Nat → Prop} {w w' w'' : World} {O O' O'' : OInfo} (h : Evol S S' w w' O O') (k : Evol S' S'' w' w'' O' O'') : Evol S S'' w w'' O O'' := by
  refine ⟨h.ext.trans k.ext, k.os.trans h.os, k.tape.trans h.tape, k.output.trans h.output, Nat.le_trans h.size k.size, fun a => (k.fz a).trans (h.fz a), fun n hn ho => ?_, fun n hn => ?_, fun n hn => ?_⟩
  · refine (k.old n (Nat.lt_of_lt_of_le hn h.size) fun h' => ?_).trans (h.old n hn ho)
    rcases h.fresh n h' with h1 | h1
    · exact ho h1
    · omega
  · rcases k.fresh n hn with h1 | h1
    · exact h.fresh n h1
    · exact .inr (Nat.le_trans h.size h1)
  · rcases k.grow n hn with h1 | h1 | h1
    · exact h.grow n h1
    · exact .inr (h.fresh n h1)
    · exact .inr (.inr (Nat.le_trans h.size h1))

/-- own blocks, as the abstract heap holds them ('map': by the order of arrival; 'gh': what is still to be yielded) -/
inductive Blk where
  | cells (g : Nat) (vs : List V)
  | map (st : Bool) (ks : List (List Int)) (vs : List V)
  | iter (mid n : Nat) (left : List Nat) (cur : Option Nat)
  | gh (caps : List V) (ys : Option (List (List V)))
  | dead (g : Nat)
  | hole

/-- a map's key in memory -/
def keyC (st : Bool) (l : List Int) : Value := if st then .agg (l.map (Value.int .i64)).toArray else .int .i64 (l.headD 0)

/-- a map's entries: their keys, in the order of arrival -/
def MapEs (st : Bool) (ks : List (List Int)) (es : Array MapEntry) : Prop := es.toList.map (·.key) = ks.map (keyC st) ∧ ∀ (i : Nat) (e : MapEntry), es[i]? = some e → e.born = i

def BlkOk (S : Nat → Prop) (w : World) (O : OInfo) (g : Nat) (ob : Option Nat) : Option Blk → Prop
  | some (.cells g' vs) => g' = g ∧ match ob with
    | some b => ∃ cur e, w.heap[b]? = some (.cells cur e (0, 0)) ∧ RepL S w O vs cur.toList ∧ ∀ c ∈ cur.toList, c.oneCell' = true
    | none => vs = []
  | some (.map st ks vs) => g = 0 ∧ ∃ b es, ob = some b ∧ w.heap[b]? = some (.map es es.size) ∧ MapEs st ks es ∧
      RepL S w O vs (es.toList.map (·.val)) ∧ vs.length = ks.length ∧ ks.Nodup ∧ (st = false → ∀ k ∈ ks, k.length = 1)
  | some (.iter mid n left cur) => g = 0 ∧ ∃ b m seen, ob = some b ∧ w.heap[b]? = some (.mapIter (some m) n seen n) ∧ Rep S w O (.mp mid 0) (.map (some m)) ∧ left.Nodup ∧
      (∀ j, j ∈ left ↔ j < n ∧ j ∉ seen.toList) ∧ (∀ j, cur = some j → seen.back? = some j ∧ j < n)
  | some (.gh _ _) => False
  | some (.dead g') => g' = g
  | some .hole => False
  | none => False

/-- what is said of a block hangs on the block, and on what 'Ext' keeps -/
theorem BlkOk.ext {S S' : Nat → Prop} {w w' : World} {O O' : OInfo} {g : Nat} {ob : Option Nat} {x : Option Blk} (hx : Ext S S' w w' O O') (hh : ∀ b, ob = some b → w'.heap[b]? = w.heap[b]?) (h : BlkOk S w O g ob x) : BlkOk S' w' O' g ob x := by
  unfold BlkOk at h ⊢
  split at h
  · refine ⟨h.1, ?_⟩
    cases ob with
    | none => exact h.2
    | some b =>
      obtain ⟨cur, e, hb, hr, h1⟩ := h.2
      exact ⟨cur, e, (hh b rfl).trans hb, RepL.ext hx _ _ hr, h1⟩
  · obtain ⟨h0, b, es, hob, hb, h1, h3, h4⟩ := h
    exact ⟨h0, b, es, hob, (hh b hob).trans hb, h1, RepL.ext hx _ _ h3, h4⟩
  · obtain ⟨h0, b, m, seen, hob, hb, h1, h2⟩ := h
    exact ⟨h0, b, m, seen, hob, (hh b hob).trans hb, Rep.ext hx _ _ h1, h2⟩
  · exact h
  · exact h
  · exact h
  · exact h

structure Mat (S : Nat → Prop) (w : World) (O : OInfo) (hp : List Blk) : Prop where
  lt : ∀ n, S n → n < w.heap.size
  own : ∀ id g b, O id = some (g, some b) → b < w.heap.size ∧ ¬ S b
  inj : ∀ id id' g g' b, O id = some (g, some b) → O id' = some (g', some b) → id = id'
  blk : ∀ id g ob, O id = some (g, ob) → BlkOk S w O g ob hp[id]?

theorem Rep.one {S : Nat → Prop} {w : World} {O : OInfo} {v : V} {c : Value} (h : Rep S w O v c) : (match v with | .u | .ag _ | .tp _ | .gv _ _ => False | _ => True) → c.oneCell' = true := by
  cases v <;> simp only [Rep] at h <;> intro hv <;> try exact hv.elim
  all_goals first
    | exact h.1
    | (subst h; rfl)
    | (obtain ⟨a, rfl⟩ := h; rfl)
    | (obtain ⟨a, cap, rfl, _, _⟩ := h; rfl)
    | (obtain ⟨blk, off, cur, e, fr, rfl, _, _, _⟩ := h; rfl)
    | (obtain ⟨ccs, rfl, _, _⟩ := h; rfl)

theorem RepL.length {S : Nat → Prop} {w : World} {O : OInfo} : ∀ (vs : List V) (cs : List Value), RepL S w O vs cs → vs.length ≤ cs.length
  | [], _, _ => Nat.zero_le _
  | _ :: _, [], h => by simp [RepL] at h
  | _ :: vs, _ :: cs, h => by simp only [RepL] at h; have := RepL.length vs cs h.2; simp; omega

theorem RepL.get {S : Nat → Prop} {w : World} {O : OInfo} : ∀ (vs : List V) (cs : List Value) (j : Nat) (v : V), RepL S w O vs cs → vs[j]? = some v → ∃ c, cs[j]? = some c ∧ Rep S w O v c
  | [], _, _, _, _, h => by simp at h
  | _ :: _, [], _, _, h, _ => by simp [RepL] at h
  | v :: vs, c :: cs, 0, v', h, hv => by simp at hv; subst hv; exact ⟨c, rfl, h.1⟩
  | v :: vs, c :: cs, j + 1, v', h, hv => by
    simp only [RepL] at h
    simpa using RepL.get vs cs j v' h.2 (by simpa using hv)

theorem RepL.drop {S : Nat → Prop} {w : World} {O : OInfo} : ∀ (n : Nat) (vs : List V) (cs : List Value), RepL S w O vs cs → RepL S w O (vs.drop n) (cs.drop n)
  | 0, _, _, h => by simpa using h
  | _ + 1, [], _, _ => by simp [RepL]
  | _ + 1, _ :: _, [], h => by simp [RepL] at h
  | n + 1, _ :: vs, _ :: cs, h => by simp only [RepL] at h; simpa using RepL.drop n vs cs h.2

theorem RepL.take {S : Nat → Prop} {w : World} {O : OInfo} : ∀ (n : Nat) (vs : List V) (cs : List Value), RepL S w O vs cs → RepL S w O (vs.take n) cs
  | 0, _, _, _ => by simp [RepL]
  | _ + 1, [], _, _ => by simp [RepL]
  | _ + 1, _ :: _, [], h => by simp [RepL] at h
  | n + 1, v :: vs, c :: cs, h => by simp only [RepL] at h; simp only [List.take_succ_cons, RepL]; exact ⟨h.1, RepL.take n vs cs h.2⟩

theorem RepL.take_both {S : Nat → Prop} {w : World} {O : OInfo} (n : Nat) : ∀ (vs : List V) (cs : List Value), RepL S w O vs cs → vs.length ≤ n → RepL S w O vs (cs.take n) := by
  induction n with
  | zero => intro vs cs _ hn; have : vs = [] := List.eq_nil_of_length_eq_zero (by omega); subst this; simp [RepL]
  | succ n ih =>
    intro vs cs h hn
    cases vs with
    | nil => simp [RepL]
    | cons v vs =>
      cases cs with
      | nil => simp [RepL] at h
      | cons c cs =>
        simp only [RepL] at h
        simp only [List.take_succ_cons, RepL]
        exact ⟨h.1, ih vs cs h.2 (by simp at hn; omega)⟩

theorem RepL.append {S : Nat → Prop} {w : World} {O : OInfo} : ∀ (vs : List V) (cs : List Value) (vs' : List V) (cs' : List Value), RepL S w O vs cs → cs.length = vs.length → RepL S w O vs' cs' → RepL S w O (vs ++ vs') (cs ++ cs')
  | [], cs, _, _, _, hl, h' => by
    have : cs = [] := List.eq_nil_of_length_eq_zero (by simpa using hl)
    subst this; simpa using h'
  | _ :: _, [], _, _, h, _, _ => by simp [RepL] at h
  | v :: vs, c :: cs, vs', cs', h, hl, h' => by
    simp only [RepL] at h
    simp only [List.cons_append, RepL]
    exact ⟨h.1, RepL.append vs cs vs' cs' h.2 (by simpa using hl) h'⟩

theorem RepL.more {S : Nat → Prop} {w : World} {O : OInfo} : ∀ (vs : List V) (cs cs' : List Value), RepL S w O vs cs → RepL S w O vs (cs ++ cs')
  | [], _, _, _ => by simp [RepL]
  | _ :: _, [], _, h => by simp [RepL] at h
  | v :: vs, c :: cs, cs', h => by
    simp only [RepL] at h
    simp only [List.cons_append, RepL]
    exact ⟨h.1, RepL.more vs cs cs' h.2⟩

theorem RepL.set {S : Nat → Prop} {w : World} {O : OInfo} : ∀ (j : Nat) (vs : List V) (cs : List Value) (v : V) (c : Value), RepL S w O vs cs → Rep S w O v c → RepL S w O (vs.set j v) (cs.set j c)
  | _, [], _, _, _, _, _ => by simp [RepL]
  | _, _ :: _, [], _, _, h, _ => by simp [RepL] at h
  | 0, v :: vs, c :: cs, v', c', h, h' => by simp only [RepL] at h; simp only [List.set_cons_zero, RepL]; exact ⟨h', h.2⟩
  | j + 1, v :: vs, c :: cs, v', c', h, h' => by simp only [RepL] at h; simp only [List.set_cons_succ, RepL]; exact ⟨h.1, RepL.set j vs cs v' c' h.2 h'⟩

theorem RepL.map {S : Nat → Prop} {w : World} {O : OInfo} {α : Type} (f : α → V) (g : α → Value) : ∀ (l : List α), (∀ x ∈ l, Rep S w O (f x) (g x)) → RepL S w O (l.map f) (l.map g)
  | [], _ => by simp [RepL]
  | x :: l, h => by simp only [List.map_cons, RepL]; exact ⟨h x (by simp), RepL.map f g l fun y hy => h y (by simp [hy])⟩

theorem RepRows.get {S : Nat → Prop} {w : World} {es : Nat} : ∀ (rs : List (List V)) (cs : List Value) (j : Nat) (r : List V), RepRows S w es rs cs → rs[j]? = some r → (r.length = es ∧ ∀ c ∈ (cs.drop (j * es)).take es, c.oneCell' = true) ∧ RepL S w noO r (cs.drop (j * es))
  | [], _, _, _, _, h => by simp at h
  | r :: rs, cs, 0, r', h, hv => by simp only [RepRows] at h; simp at hv; subst hv; simpa using ⟨h.1, h.2.1⟩
  | r :: rs, cs, j + 1, r', h, hv => by
    simp only [RepRows] at h
    have := RepRows.get rs (cs.drop es) j r' h.2.2 (by simpa using hv)
    rw [List.drop_drop] at this
    rw [Nat.succ_mul, Nat.add_comm (j * es) es]
    exact this

theorem RepRows.lengths {S : Nat → Prop} {w : World} {es : Nat} : ∀ (rs : List (List V)) (cs : List Value), RepRows S w es rs cs → ∀ r ∈ rs, r.length = es
  | [], _, _, _, h => by simp at h
  | r :: rs, cs, h, r', hr => by
    simp only [RepRows] at h
    rcases List.mem_cons.1 hr with rfl | hr
    · exact h.1.1
    · exact RepRows.lengths rs _ h.2.2 r' hr

theorem RepRows.flat {S : Nat → Prop} {w : World} {es : Nat} : ∀ (rs : List (List V)) (cs : List Value), RepRows S w es rs cs → (RepL S w noO rs.flatten cs ∧ ∀ c ∈ cs.take (rs.length * es), c.oneCell' = true) ∧ rs.flatten.length = rs.length * es
  | [], _, _ => by simp [RepL]
  | r :: rs, cs, h => by
    simp only [RepRows] at h
    obtain ⟨⟨h1, h1'⟩, h2, h3⟩ := h
    obtain ⟨⟨i1, i1'⟩, i2⟩ := RepRows.flat rs _ h3
    have hl := RepL.length _ _ h2
    refine ⟨⟨?_, fun c hc => ?_⟩, by simp [i2, h1, Nat.add_mul, Nat.add_comm]⟩
    · simp only [List.flatten_cons]
      have := RepL.append r (cs.take es) rs.flatten (cs.drop es) (RepL.take_both es r cs h2 (by omega)) (by simp; omega) i1
      simpa using this
    · rw [List.length_cons, Nat.succ_mul, Nat.add_comm, List.take_add] at hc
      rcases List.mem_append.1 hc with hc | hc
      · exact h1' c hc
      · exact i1' c hc

theorem RepRows.drop {S : Nat → Prop} {w : World} {es : Nat} : ∀ (n : Nat) (rs : List (List V)) (cs : List Value), RepRows S w es rs cs → RepRows S w es (rs.drop n) (cs.drop (n * es))
  | 0, _, _, h => by simpa using h
  | n + 1, [], _, _ => by simp [RepRows]
  | n + 1, r :: rs, cs, h => by
    simp only [RepRows] at h
    have := RepRows.drop n rs (cs.drop es) h.2.2
    rw [List.drop_drop] at this
    rw [Nat.succ_mul, Nat.add_comm (n * es) es]
    simpa using this

theorem RepRows.take {S : Nat → Prop} {w : World} {es : Nat} : ∀ (n : Nat) (rs : List (List V)) (cs : List Value), RepRows S w es rs cs → RepRows S w es (rs.take n) cs
  | 0, _, _, _ => by simp [RepRows]
  | n + 1, [], _, _ => by simp [RepRows]
  | n + 1, r :: rs, cs, h => by
    simp only [RepRows] at h
    simp only [List.take_succ_cons, RepRows]
    exact ⟨h.1, h.2.1, RepRows.take n rs _ h.2.2⟩
end Go.Fam
