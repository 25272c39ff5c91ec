import Derived.Test.YtgcinomjcgebhaaFam8
set_option linter.all false
/- Calls whose result owns blocks. -/
namespace Go.Fam
theorem shL_length (k : Nat) : ∀ vs : List V, (shL k vs).length = vs.length
  | [] => rfl
  | _ :: vs => by simp [shL, shL_length k vs]
mutual
theorem sh_rep {S : Nat → Prop} {w : World} {O O2 : OInfo} {k : Nat} (h : ∀ id, O2 (k + id) = O id) : ∀ (v : V) (c : Value), Rep S w O v c → Rep S w O2 (shV k v) c
  | .u, _, _ => by simp [shV, Rep]
  | .b x, c, hr => by simpa [shV, Rep] using hr
  | .i x, c, hr => by simpa [shV, Rep] using hr
  | .z es, c, hr => by simpa [shV, Rep] using hr
  | .sl es rows, c, hr => by simpa only [shV, Rep] using hr
  | .pa cs, c, hr => by simpa only [shV, Rep] using hr
  | .pn, c, hr => by simpa [shV, Rep] using hr
  | .yl l, c, hr => by simpa [shV, Rep] using hr
  | .ag cs, c, hr => by
    simp only [shV, Rep] at hr ⊢
    obtain ⟨ccs, hc, hn, hr⟩ := hr
    exact ⟨ccs, hc, by rw [shL_length]; exact hn, shL_rep h cs _ hr⟩
  | .tp cs, c, hr => by
    simp only [shV, Rep] at hr ⊢
    obtain ⟨ccs, hc, hn, hr⟩ := hr
    exact ⟨ccs, hc, by rw [shL_length]; exact hn, shL_rep h cs _ hr⟩
  | .fn f cs, c, hr => by
    simp only [shV, Rep] at hr ⊢
    obtain ⟨ccs, hc, hn, hr⟩ := hr
    exact ⟨ccs, hc, by rw [shL_length]; exact hn, shL_rep h cs _ hr⟩
  | .gv q v, c, hr => by
    simp only [shV, Rep] at hr ⊢
    exact ⟨fun hq => sh_rep h v c (hr.1 hq), hr.2⟩
  | .ad id g off, c, hr => by simpa only [shV, Rep, h id] using hr
  | .rf id g off len es, c, hr => by simpa only [shV, Rep, h id] using hr
  | .mp id g, c, hr => by simpa only [shV, Rep, h id] using hr
  | .it id g, c, hr => by simpa only [shV, Rep, h id] using hr
theorem shL_rep {S : Nat → Prop} {w : World} {O O2 : OInfo} {k : Nat} (h : ∀ id, O2 (k + id) = O id) : ∀ (vs : List V) (cs : List Value), RepL S w O vs cs → RepL S w O2 (shL k vs) cs
  | [], _, _ => by simp [shL, RepL]
  | _ :: _, [], hr => by simp [RepL] at hr
  | v :: vs, c :: cs, hr => by
    simp only [shL, RepL] at hr ⊢
    exact ⟨sh_rep h v c hr.1, shL_rep h vs cs hr.2⟩
end

theorem sh_blk {S : Nat → Prop} {w : World} {O O2 : OInfo} {k g : Nat} {ob : Option Nat} (h : ∀ id, O2 (k + id) = O id) {x : Option Blk} (hx : BlkOk S w O g ob x) : BlkOk S w O2 g ob (x.map (shB k)) := by
  unfold BlkOk at hx
  split at hx
  · rename_i g' vs
    simp only [Option.map_some, shB, BlkOk]
    refine ⟨hx.1, ?_⟩
    cases ob with
    | none => have := hx.2; simp only at this ⊢; rw [this]; rfl
    | some b =>
      obtain ⟨cur, e, hb, hr, h1⟩ := hx.2
      exact ⟨cur, e, hb, shL_rep h _ _ hr, h1⟩
  · rename_i st ks vs
    simp only [Option.map_some, shB, BlkOk]
    obtain ⟨h0, b, es, hob, hb, h1, h3, h4, h5⟩ := hx
    exact ⟨h0, b, es, hob, hb, h1, shL_rep h _ _ h3, by rw [shL_length]; exact h4, h5⟩
  · rename_i mid n left cur
    simp only [Option.map_some, shB, BlkOk]
    obtain ⟨h0, b, m, seen, hob, hb, h1, h2⟩ := hx
    exact ⟨h0, b, m, seen, hob, hb, sh_rep h (.mp mid 0) _ h1, h2⟩
  · exact hx.elim
  · simpa only [Option.map_some, shB, BlkOk] using hx
  · exact hx.elim
  · exact hx.elim

theorem mat_lt {S : Nat → Prop} {w : World} {O : OInfo} {hp : List Blk} (h : Mat S w O hp) {id : Nat} {x : Nat × Option Nat} (ho : O id = some x) : id < hp.length := by
  rcases Nat.lt_or_ge id hp.length with h' | h'
  · exact h'
  · have := h.blk id x.1 x.2 ho
    rw [List.getElem?_eq_none h'] at this
    exact this.elim

mutual
/-- nothing but numbers, and references to blocks -/
def rflat : V → Bool
  | .b _ | .i _ | .z _ | .pn | .ad _ _ _ | .rf _ _ _ _ _ | .mp _ _ | .it _ _ => true
  | .ag cs | .tp cs => rflatL cs
  | _ => false
def rflatL : List V → Bool
  | [] => true
  | v :: vs => rflat v && rflatL vs
end
def rflatB : Blk → Bool
  | .cells _ vs | .map _ _ vs => rflatL vs
  | _ => true
mutual
theorem rflat_rep {S S' : Nat → Prop} {w : World} {O : OInfo} : ∀ (v : V) (c : Value), rflat v = true → Rep S w O v c → Rep S' w O v c
  | .b x, c, _, hr => by simpa [Rep] using hr
  | .i x, c, _, hr => by simpa [Rep] using hr
  | .z es, c, _, hr => by simpa [Rep] using hr
  | .pn, c, _, hr => by simpa [Rep] using hr
  | .ag cs, c, hn, hr => by
    simp only [rflat] at hn
    simp only [Rep] at hr ⊢
    obtain ⟨ccs, hc, hl, hr⟩ := hr
    exact ⟨ccs, hc, hl, rflatL_rep cs _ hn hr⟩
  | .tp cs, c, hn, hr => by
    simp only [rflat] at hn
    simp only [Rep] at hr ⊢
    obtain ⟨ccs, hc, hl, hr⟩ := hr
    exact ⟨ccs, hc, hl, rflatL_rep cs _ hn hr⟩
  | .ad id g off, c, _, hr => by simpa only [Rep] using hr
  | .rf id g off len es, c, _, hr => by simpa only [Rep] using hr
  | .mp id g, c, _, hr => by simpa only [Rep] using hr
  | .it id g, c, _, hr => by simpa only [Rep] using hr
  | .u, _, hn, _ => by simp [rflat] at hn
  | .sl _ _, _, hn, _ => by simp [rflat] at hn
  | .pa _, _, hn, _ => by simp [rflat] at hn
  | .fn _ _, _, hn, _ => by simp [rflat] at hn
  | .yl _, _, hn, _ => by simp [rflat] at hn
  | .gv _ _, _, hn, _ => by simp [rflat] at hn
theorem rflatL_rep {S S' : Nat → Prop} {w : World} {O : OInfo} : ∀ (vs : List V) (cs : List Value), rflatL vs = true → RepL S w O vs cs → RepL S' w O vs cs
  | [], _, _, _ => by simp [RepL]
  | _ :: _, [], _, hr => by simp [RepL] at hr
  | v :: vs, c :: cs, hn, hr => by
    simp only [rflatL, Bool.and_eq_true] at hn
    simp only [RepL] at hr ⊢
    exact ⟨rflat_rep v c hn.1 hr.1, rflatL_rep vs cs hn.2 hr.2⟩
end
theorem rflat_blk {S S' : Nat → Prop} {w : World} {O : OInfo} {g : Nat} {ob : Option Nat} {x : Option Blk} (hf : ∀ b, x = some b → rflatB b = true) (h : BlkOk S w O g ob x) : BlkOk S' w O g ob x := by
  unfold BlkOk at h ⊢
  split at h
  · have hf := hf _ rfl
    simp only [rflatB] at hf
    refine ⟨h.1, ?_⟩
    cases ob with
    | none => exact h.2
    | some b =>
      obtain ⟨cur, e, hb, hr, h1⟩ := h.2
      exact ⟨cur, e, hb, rflatL_rep _ _ hf hr, h1⟩
  · have hf := hf _ rfl
    simp only [rflatB] at hf
    obtain ⟨h0, b, es, hob, hb, h1, h3, h4⟩ := h
    exact ⟨h0, b, es, hob, hb, h1, rflatL_rep _ _ hf h3, h4⟩
  · obtain ⟨h0, b, m, seen, hob, hb, h1, h2⟩ := h
    exact ⟨h0, b, m, seen, hob, hb, rflat_rep (.mp _ 0) _ rfl h1, h2⟩
  · exact h.elim
  · exact h
  · exact h.elim
  · exact h.elim

section
variable {P : Program}
/-- likewise where the arguments refer to blocks of ours: then the result must hold nothing but numbers -/
theorem rel_callR {f : Nat} {as : List V} {R : V → List Blk → Prop} {S : Nat → Prop} {w : World} {O : OInfo} {hp : List Blk} (hm : Mat S w O hp) (hc : RelCall P f (as.map (vw hp 8)) R) {cargs : Array Value}
    (hsz : cargs.size = as.length) (hr : RepL S w O as cargs.toList) (hfl : ∀ r bs, R r bs → rflat r = true ∧ bs.all rflatB = true) :
    Calls P f cargs w fun e w' => ∃ c S' O' r bs, e = .returned c ∧ R r bs ∧ Evol S S' w w' O O' ∧ Mat S' w' O' (hp ++ bs.map (shB hp.length)) ∧ Rep S' w' O' (shV hp.length r) c := by
  have hr' : RepL (fun k => S k ∨ Own O k) w noO (as.map (vw hp 8)) cargs.toList := RepL.mapTo _ (fun v c h => vw_rep hm 8 v c h) _ _ hr
  refine (hc (fun k => S k ∨ Own O k) w cargs ?_ (by simpa using hsz) hr').mono ?_
  · rintro k (hk | ⟨id, g, hk⟩)
    · exact hm.lt k hk
    · exact (hm.own id g k hk).1
  rintro e w' ⟨c, S1, O1, r, bs, rfl, hR, hev, hmat, hrep⟩
  obtain ⟨hf1, hf2⟩ := hfl r bs hR
  have hold : ∀ k, k < w.heap.size → w'.heap[k]? = w.heap[k]? := fun k hk => hev.old k hk (by rintro ⟨id, g, h⟩; cases h)
  obtain ⟨O2, hO2⟩ : ∃ O2 : OInfo, O2 = fun id => if id < hp.length then O id else O1 (id - hp.length) := ⟨_, rfl⟩
  have hlo : ∀ id, id < hp.length → O2 id = O id := fun id h => by rw [hO2]; simp [h]
  have hhi : ∀ id, O2 (hp.length + id) = O1 id := fun id => by rw [hO2]; show (if _ then _ else _) = _; rw [if_neg (by omega), Nat.add_sub_cancel_left]
  have hOlt : ∀ {id x}, O id = some x → id < hp.length := fun h => mat_lt hm h
  have hcase : ∀ id g ob, O2 id = some (g, ob) → (id < hp.length ∧ O id = some (g, ob)) ∨ ∃ j, id = hp.length + j ∧ O1 j = some (g, ob) := by
    intro id g ob h
    by_cases hl : id < hp.length
    · exact .inl ⟨hl, by rw [← hlo id hl]; exact h⟩
    · refine .inr ⟨id - hp.length, by omega, ?_⟩
      rw [← hhi]
      have : hp.length + (id - hp.length) = id := by omega
      rw [this]; exact h
  have hfr : ∀ j g b, O1 j = some (g, some b) → w.heap.size ≤ b := by
    intro j g b h
    rcases hev.fresh b ⟨j, g, h⟩ with ⟨_, _, h'⟩ | h'
    · cases h'
    · exact h'
  have hx : Ext S S w w' O O2 := ⟨fun k hk => ⟨hk, (hev.ext.keep k (.inl hk)).2⟩, fun id g ob ho => ⟨g, ob, by rw [hlo id (hOlt ho)]; exact ho, Nat.le_refl _, fun _ => ⟨rfl, fun b cur e hb hh =>
    ⟨cur, (hold b (by subst hb; exact (hm.own id g b ho).1)).trans hh, rfl⟩⟩⟩⟩
  refine ⟨c, S, O2, r, bs, rfl, hR, ⟨hx, hev.os, hev.tape, hev.output, hev.size, hev.fz, fun k hk _ => hold k hk, ?_, fun n hn => .inl hn⟩, ⟨fun n hn => Nat.lt_of_lt_of_le (hm.lt n hn) hev.size, ?_, ?_, ?_⟩, sh_rep hhi _ _ (rflat_rep _ _ hf1 hrep)⟩
  · rintro n ⟨id, g, h⟩
    rcases hcase id g _ h with ⟨_, h'⟩ | ⟨j, _, h'⟩
    · exact .inl ⟨id, g, h'⟩
    · exact .inr (hfr j g n h')
  · intro id g b h
    rcases hcase id g _ h with ⟨_, h'⟩ | ⟨j, _, h'⟩
    · have := hm.own id g b h'
      exact ⟨Nat.lt_of_lt_of_le this.1 hev.size, this.2⟩
    · refine ⟨(hmat.own j g b h').1, fun hS => ?_⟩
      have := hm.lt b hS
      have := hfr j g b h'
      omega
  · intro id id' g g' b h h'
    rcases hcase id g _ h with ⟨_, h1⟩ | ⟨j, rfl, h1⟩ <;> rcases hcase id' g' _ h' with ⟨_, h2⟩ | ⟨j', rfl, h2⟩
    · exact hm.inj id id' g g' b h1 h2
    · have := (hm.own id g b h1).1; have := hfr j' g' b h2; omega
    · have := (hm.own id' g' b h2).1; have := hfr j g b h1; omega
    · rw [hmat.inj j j' g g' b h1 h2]
  · intro id g ob h
    rcases hcase id g _ h with ⟨hl, h1⟩ | ⟨j, rfl, h1⟩
    · rw [List.getElem?_append_left hl]
      exact (hm.blk id g ob h1).ext hx fun b hb => hold b (hm.own id g b (by rw [h1, hb])).1
    · rw [List.getElem?_append_right (Nat.le_add_right _ _), Nat.add_sub_cancel_left, List.getElem?_map]
      exact sh_blk hhi (rflat_blk (fun b hb => List.all_eq_true.1 hf2 b (List.mem_of_getElem? hb)) (hmat.blk j g ob h1))

theorem rel_call {f : Nat} {as : List V} {R : V → List Blk → Prop} (hc : RelCall P f as R) {S : Nat → Prop} {w : World} {O : OInfo} {hp : List Blk} (hm : Mat S w O hp) {cargs : Array Value}
    (hsz : cargs.size = as.length) (hr : RepL S w noO as cargs.toList) :
    Calls P f cargs w fun e w' => ∃ c S' O' r bs, e = .returned c ∧ R r bs ∧ Evol S S' w w' O O' ∧ Mat S' w' O' (hp ++ bs.map (shB hp.length)) ∧ Rep S' w' O' (shV hp.length r) c := by
  refine (hc S w cargs hm.lt hsz hr).mono ?_
  rintro e w' ⟨c, S', O1, r, bs, rfl, hR, hev, hmat, hrep⟩
  have hold : ∀ k, k < w.heap.size → w'.heap[k]? = w.heap[k]? := fun k hk => hev.old k hk (by rintro ⟨id, g, h⟩; cases h)
  obtain ⟨O2, hO2⟩ : ∃ O2 : OInfo, O2 = fun id => if id < hp.length then O id else O1 (id - hp.length) := ⟨_, rfl⟩
  have hlo : ∀ id, id < hp.length → O2 id = O id := fun id h => by rw [hO2]; simp [h]
  have hhi : ∀ id, O2 (hp.length + id) = O1 id := fun id => by rw [hO2]; show (if _ then _ else _) = _; rw [if_neg (by omega), Nat.add_sub_cancel_left]
  have hOlt : ∀ {id x}, O id = some x → id < hp.length := fun h => mat_lt hm h
  have hcase : ∀ id g ob, O2 id = some (g, ob) → (id < hp.length ∧ O id = some (g, ob)) ∨ ∃ j, id = hp.length + j ∧ O1 j = some (g, ob) := by
    intro id g ob h
    by_cases hl : id < hp.length
    · exact .inl ⟨hl, by rw [← hlo id hl]; exact h⟩
    · refine .inr ⟨id - hp.length, by omega, ?_⟩
      rw [← hhi]
      have : hp.length + (id - hp.length) = id := by omega
      rw [this]; exact h
  have hfr : ∀ j g b, O1 j = some (g, some b) → w.heap.size ≤ b := by
    intro j g b h
    rcases hev.fresh b ⟨j, g, h⟩ with ⟨_, _, h'⟩ | h'
    · cases h'
    · exact h'
  have hx : Ext S S' w w' O O2 := ⟨fun k hk => hev.ext.keep k hk, fun id g ob ho => ⟨g, ob, by rw [hlo id (hOlt ho)]; exact ho, Nat.le_refl _, fun _ => ⟨rfl, fun b cur e hb hh =>
    ⟨cur, (hold b (by subst hb; exact (hm.own id g b ho).1)).trans hh, rfl⟩⟩⟩⟩
  have hgr : ∀ n, S' n → S n ∨ w.heap.size ≤ n := by
    intro n hn
    rcases hev.grow n hn with h | ⟨_, _, h⟩ | h
    · exact .inl h
    · cases h
    · exact .inr h
  refine ⟨c, S', O2, r, bs, rfl, hR, ⟨hx, hev.os, hev.tape, hev.output, hev.size, hev.fz, fun k hk _ => hold k hk, ?_, ?_⟩, ⟨hmat.lt, ?_, ?_, ?_⟩, sh_rep hhi _ _ hrep⟩
  · rintro n ⟨id, g, h⟩
    rcases hcase id g _ h with ⟨_, h'⟩ | ⟨j, _, h'⟩
    · exact .inl ⟨id, g, h'⟩
    · exact .inr (hfr j g n h')
  · intro n hn
    exact (hgr n hn).imp id .inr
  · intro id g b h
    rcases hcase id g _ h with ⟨_, h'⟩ | ⟨j, _, h'⟩
    · have := hm.own id g b h'
      refine ⟨Nat.lt_of_lt_of_le this.1 hev.size, fun hS => ?_⟩
      rcases hgr b hS with h1 | h1
      · exact this.2 h1
      · omega
    · exact hmat.own j g b h'
  · intro id id' g g' b h h'
    rcases hcase id g _ h with ⟨_, h1⟩ | ⟨j, rfl, h1⟩ <;> rcases hcase id' g' _ h' with ⟨_, h2⟩ | ⟨j', rfl, h2⟩
    · exact hm.inj id id' g g' b h1 h2
    · have := (hm.own id g b h1).1; have := hfr j' g' b h2; omega
    · have := (hm.own id' g' b h2).1; have := hfr j g b h1; omega
    · rw [hmat.inj j j' g g' b h1 h2]
  · intro id g ob h
    rcases hcase id g _ h with ⟨hl, h1⟩ | ⟨j, rfl, h1⟩
    · rw [List.getElem?_append_left hl]
      exact (hm.blk id g ob h1).ext hx fun b hb => hold b (hm.own id g b (by rw [h1, hb])).1
    · rw [List.getElem?_append_right (Nat.le_add_right _ _), Nat.add_sub_cancel_left, List.getElem?_map]
      exact sh_blk hhi (hmat.blk j g ob h1)

theorem own_call {f : Nat} {as : List V} {r : V} {bs : List Blk} (hc : OwnCall P f as r bs) {S : Nat → Prop} {w : World} {O : OInfo} {hp : List Blk} (hm : Mat S w O hp) {cargs : Array Value}
    (hsz : cargs.size = as.length) (hr : RepL S w noO as cargs.toList) :
    Calls P f cargs w fun e w' => ∃ c S' O', e = .returned c ∧ Evol S S' w w' O O' ∧ Mat S' w' O' (hp ++ bs.map (shB hp.length)) ∧ Rep S' w' O' (shV hp.length r) c := by
  have hc' : RelCall P f as fun r' hp' => r' = r ∧ hp' = bs := by
    intro S w cargs hS hsz hr
    refine (hc S w cargs hS hsz hr).mono ?_
    rintro e w' ⟨c, S', O', he, h1, h2, h3⟩
    exact ⟨c, S', O', r, bs, he, ⟨rfl, rfl⟩, h1, h2, h3⟩
  refine (rel_call hc' hm hsz hr).mono ?_
  rintro e w' ⟨c, S', O', r', bs', he, ⟨rfl, rfl⟩, h1, h2, h3⟩
  exact ⟨c, S', O', he, h1, h2, h3⟩

theorem own_callR {f : Nat} {as : List V} {r : V} {bs : List Blk} {S : Nat → Prop} {w : World} {O : OInfo} {hp : List Blk} (hm : Mat S w O hp) (hc : OwnCall P f (as.map (vw hp 8)) r bs) {cargs : Array Value}
    (hsz : cargs.size = as.length) (hr : RepL S w O as cargs.toList) (hfl : rflat r = true ∧ bs.all rflatB = true) :
    Calls P f cargs w fun e w' => ∃ c S' O', e = .returned c ∧ Evol S S' w w' O O' ∧ Mat S' w' O' (hp ++ bs.map (shB hp.length)) ∧ Rep S' w' O' (shV hp.length r) c := by
  have hc' : RelCall P f (as.map (vw hp 8)) fun r' hp' => r' = r ∧ hp' = bs := by
    intro S w cargs hS hsz hr
    refine (hc S w cargs hS hsz hr).mono ?_
    rintro e w' ⟨c, S', O', he, h1, h2, h3⟩
    exact ⟨c, S', O', r, bs, he, ⟨rfl, rfl⟩, h1, h2, h3⟩
  refine (rel_callR hm hc' hsz hr (by rintro r' bs' ⟨rfl, rfl⟩; exact hfl)).mono ?_
  rintro e w' ⟨c, S', O', r', bs', he, ⟨rfl, rfl⟩, h1, h2, h3⟩
  exact ⟨c, S', O', he, h1, h2, h3⟩

/-- values without references are pure -/
theorem vwL_noref {S : Nat → Prop} {w : World} {O : OInfo} {hp : List Blk} : ∀ (as : List V) (cs : List Value), hasRefL as = false → RepL S w O as cs → RepL S w noO (as.map (vw hp 8)) cs
  | [], _, _, _ => by simp [RepL]
  | _ :: _, [], _, h => by simp [RepL] at h
  | v :: vs, c :: cs, hn, h => by
    simp only [hasRefL, Bool.or_eq_false_iff] at hn
    simp only [RepL] at h
    simp only [List.map_cons, RepL]
    exact ⟨vw_noref 8 v c hn.1 (noref_rep v c hn.1 h.1), vwL_noref vs cs hn.2 h.2⟩

/-- what a call gives whose result owns blocks -/
def ocV (Γ : Gam) (hp : List Blk) (f : V) (args : List V) : Prop × V × List Blk :=
  match f with
  | .fn g caps => match Γ (1000000 + g) ((args ++ caps).map (vw hp 8)) with
    | (ok, .tp [r, .tp bs]) => (g < 1000000 ∧ ok ∧ (hasRefL (args ++ caps) = true → rflat r = true ∧ (bs.map vB).all rflatB = true), shV hp.length r, hp ++ (bs.map vB).map (shB hp.length))
    | _ => (False, .u, hp)
  | _ => (False, .u, hp)

def resOc (P : Program) (o : Oper) : Option (Od × List Od) :=
  match o.op with
  | .call c => match c.callee with
    | .value f => do return (← rOd P 0 f, ← rOds P c.args.toList c.argTypes.toList)
    | _ => none
  | _ => none

theorem oc_sound {F : Fence} {n : Nat} {Γ : Gam} (hG : GOk P Γ) (hF : OpenF F) {o : Oper} {f : Od} {xs : List Od} (hr : resOc P o = some (f, xs)) {S : Nat → Prop} {w : World} {O : OInfo} {hp : List Blk} (hm : Mat S w O hp)
    {a : Act} {ρ : Od → V} (hρ : OdsOk P S w O ρ a.eval o) (hok : (ocV Γ hp (ρ f) (xs.map ρ)).1) {K : Act → World → Prop} {Q' : Exit → Act → World → Prop}
    (hK : ∀ c S' w' O', Evol S S' w w' O O' → Mat S' w' O' (ocV Γ hp (ρ f) (xs.map ρ)).2.2 → Rep S' w' O' (ocV Γ hp (ρ f) (xs.map ρ)).2.1 c → K (a.put o.dst c) w') : o.wpIn F n P a w K Q' := by
  unfold resOc at hr
  unfold OdsOk at hρ
  cases hop : o.op <;> rw [hop] at hr hρ <;> simp only [Op.operands] at hρ <;> first | (simp at hr; done) | (try dsimp only at hr)
  case call c =>
    split at hr
    · rename_i f0 hcal
      simp only [Option.bind_eq_bind, Option.bind_eq_some_iff, Option.pure_def, Option.some.injEq, Prod.mk.injEq] at hr
      obtain ⟨f', hf, ods, hods, rfl, rfl⟩ := hr
      have r1 := hρ f0 (by simp [Call.operands, hcal]) _ _ hf
      have rs := rOds_rep _ _ _ hods (fun x hx => hρ x (by simp only [Call.operands, Array.mem_append]; exact .inr (by simpa using hx)))
      unfold ocV at hok hK
      split at hok
      · rename_i g caps hg
        rw [hg] at r1 hK
        simp only at hK
        split at hok
        · rename_i ok r bs hΓ
          simp only [hΓ] at hK
          obtain ⟨hg6, hok, href⟩ := hok
          simp only [Rep] at r1
          obtain ⟨ccs, hc, hn, hrl⟩ := r1
          have hall := RepL.append _ _ _ _ rs.1 (by simp [rs.2]) hrl
          obtain ⟨hen, hcall⟩ := hG.own g _ r bs (by rw [hΓ]; exact hok) hg6 (by rw [hΓ])
          have hcalls : Calls P g (c.args.map a.eval ++ ccs) w fun e w' => ∃ c S' O', e = .returned c ∧ Evol S S' w w' O O' ∧ Mat S' w' O' (hp ++ (bs.map vB).map (shB hp.length)) ∧ Rep S' w' O' (shV hp.length r) c := by
            by_cases hrf : hasRefL (ods.map ρ ++ caps) = true
            · exact own_callR hm hcall (cargs := c.args.map a.eval ++ ccs) (by simp [rs.2, hn]) (by simpa using hall) (href hrf)
            · exact own_call hcall hm (cargs := c.args.map a.eval ++ ccs) (by simp [rs.2, hn]) (vwL_noref _ _ (by simpa using hrf) (by simpa using hall))
          refine wpIn_enter (w' := w) (f := g) (args := c.args.map a.eval ++ ccs) hF (by simp [hop]) ?_ (hcalls.mono ?_)
          · have hd : (resolve a.eval c o.type).run P w = .ok { target := .fn (.func g) ccs, args := c.args.map a.eval } w := by
              simp [resolve, hcal, hc, Deferred.ofValue]
            simp only [execOp, hop, Sem.run_bind, hd, Result.andThen_ok, invoke]
            exact hen _ _
          · rintro e w' ⟨v, S', O', rfl, hev, hmat, hrep⟩
            exact ⟨v, rfl, hK v S' w' O' hev hmat hrep⟩
        · exact hok.elim
      · exact hok.elim
    · cases hr
end
end Go.Fam
