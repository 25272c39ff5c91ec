import Derived.Test.YtgcinomjcgebhaaFam7
set_option linter.all false
/- Operations that make or change blocks of our own. -/
namespace Go.Fam
def updO (O : OInfo) (id : Nat) (x : Nat × Option Nat) : OInfo := fun k => if k = id then some x else O k

inductive W where
  | alc (zc : List V) | bxo (x : Od) | bso (es n : Nat) (zc : List V) (parts : List (Nat × Nat × Od)) | mks (es : Nat) (zc : List V) (l c : Od)
  | st (n : Nat) (a x : Od) | app (es : Nat) (x y : Od)
  | mkm (st : Bool) | rng (x : Od) | mup (kt : TypeId) (sk : Bool) (m k v : Od) | men (kt : TypeId) (sk : Bool) (zc : V) (m k : Od) | mes (m s v : Od)

def W.ods : W → List Od
  | .alc _ => []
  | .bxo x => [x]
  | .bso _ _ _ ps => ps.map (·.2.2)
  | .mks _ _ l c => [l, c]
  | .st _ a x => [a, x]
  | .app _ x y => [x, y]
  | .mkm _ => []
  | .rng x => [x]
  | .mup _ _ m k v => [m, k, v]
  | .men _ _ _ m k => [m, k]
  | .mes m s v => [m, s, v]

/-- the cells that an append brings, and how many elements -/
def newsV (hp : List Blk) (es : Nat) (y : V) : Option (List V × Nat) :=
  match y with
  | .z _ => some ([], 0)
  | .sl es' rows => if es' = es then some (rows.flatten, rows.length) else none
  | .rf id g off len es' => match hp[id]? with
    | some (.cells g' vs) => if g' = g ∧ es' = es ∧ off + len * es ≤ vs.length then some ((vs.drop off).take (len * es), len) else none
    | _ => none
  | _ => none

def fitsLen (n : Nat) : Prop := n ≤ 2147483648

/-- operations that make a block: on what condition, the block, and the value (by the block's number) -/
def nv (hp : List Blk) (q : W) (ρ : Od → V) : Option (Prop × Blk × (Nat → V)) :=
  match q with
  | .alc zc => some (True, .cells 0 zc, fun id => .ad id 0 0)
  | .bxo x => some (solid (ρ x) = true ∧ (ρ x).cells.all cellOk = true, .cells 0 (ρ x).cells, fun id => .ad id 0 0)
  | .bso es n zc ps =>
    let vs := ps.map fun p => (p.1, p.2.1, ρ p.2.2)
    some (partsOk (n * es) vs ∧ partsOne vs, .cells 0 (foldParts vs (List.replicate n zc).flatten), fun id => .rf id 0 0 n es)
  | .mks es zc l c => match ρ l, ρ c with
    | .i l, .i c => some (0 ≤ l ∧ l ≤ c ∧ c ≤ 2147483648, .cells 0 (List.replicate l.toNat zc).flatten, fun id => .rf id 0 0 l.toNat es)
    | _, _ => none
  | .app es x y => match ρ x, newsV hp es (ρ y) with
    | .z _, some (vs, n) => some (fitsLen n, .cells 0 vs, fun id => .rf id 0 0 n es)
    | _, _ => none
  | .mkm st => some (True, .map st [] [], fun id => .mp id 0)
  | .rng x => match ρ x with
    | .mp id g => match hp[id]? with
      | some (.map _ ks _) => some (g = 0, .iter id ks.length (List.range ks.length) none, fun i => .it i 0)
      | _ => none
    | _ => none
  | _ => none

/-- operations that change a block: on what condition, the value, the block -/
def sv (E : TypeId → Nat → Prop) (hp : List Blk) (q : W) (ρ : Od → V) : Prop × V × Option (Nat × Blk) :=
  match q with
  | .st n a x => match ρ a with
    | .ad id g off => match hp[id]? with
      | some (.cells g' vs) => (g' = g ∧ off + n ≤ vs.length ∧ (ρ x).cells.length = n ∧ solid (ρ x) = true ∧ (ρ x).cells.all cellOk = true, .u, some (id, .cells g (putAt off (ρ x).cells vs)))
      | _ => (False, .u, none)
    | _ => (False, .u, none)
  | .app es x y => match ρ x, newsV hp es (ρ y) with
    | .rf id g off len es', some (vs, n) => match hp[id]? with
      | some (.cells g' cs) => (g' = g ∧ es' = es ∧ off = 0 ∧ cs.length = len * es ∧ fitsLen (len + n), .rf id (g + 1) 0 (len + n) es, some (id, .cells (g + 1) (cs ++ vs)))
      | _ => (False, .u, none)
    | _, _ => (False, .u, none)
  | .mup kt sk m k v => match ρ m, keyL (ρ k) with
    | .mp id g, some (s, l) => match hp[id]? with
      | some (.map st ks vs) => (g = 0 ∧ keyFits E kt sk st ks s l, .u, some (id, .map st (putK ks l) (putVs ks vs l (ρ v))))
      | _ => (False, .u, none)
    | _, _ => (False, .u, none)
  | .men kt sk zc m k => match ρ m, keyL (ρ k) with
    | .mp id g, some (s, l) => match hp[id]? with
      | some (.map st ks vs) => (g = 0 ∧ keyFits E kt sk st ks s l, .tp [(vs[ks.idxOf l]?).getD zc, .i (ks.idxOf l)], some (id, .map st (putK ks l) (if l ∈ ks then vs else vs ++ [zc])))
      | _ => (False, .u, none)
    | _, _ => (False, .u, none)
  | .mes m s v => match ρ m, ρ s with
    | .mp id g, .i i => match hp[id]? with
      | some (.map st ks vs) => (g = 0 ∧ 0 ≤ i ∧ i < ks.length, .u, some (id, .map st ks (vs.set i.toNat (ρ v))))
      | _ => (False, .u, none)
    | _, _ => (False, .u, none)
  | _ => (False, .u, none)

def putB (hp : List Blk) : Option (Nat × Blk) → List Blk
  | none => hp
  | some (id, b) => hp.set id b

def bytesOk (P : Program) (t : TypeId) : Bool := match P.info? t with | some i => decide (i.bytes ≤ 65536) | none => false

/-- operations on our own blocks -/
def resW (P : Program) (o : Oper) : Option W :=
  match o.op with
  | .alloc t => if zOk P t then some (.alc (zV P 9 t)) else none
  | .box t x => (rOd P t x).map .bxo
  | .buildSlice t n ps => do
    let e ← elB P t
    let es ← szB P e
    if es ≠ 0 ∧ n * es ≤ 16777216 ∧ zOk P e = true then do return .bso es n (zV P 9 e) (← rParts P (fun i => some (i * es, es, e)) ps.toList) else none
  | .makeSlice t l c => do
    let e ← elB P t
    let es ← szB P e
    if es ≠ 0 ∧ zOk P e = true ∧ bytesOk P e = true then do return .mks es (zV P 9 e) (← rOd P 0 l) (← rOd P 0 c) else none
  | .store t a x => do return .st (← szB P t) (← rOd P 0 a) (← rOd P t x)
  | .call c => match c.callee with
    | .builtin .append => match c.args.toList, c.argTypes.toList with
      | [x, y], [t, u] => do
        let e ← elB P t
        let es ← szB P e
        let _ ← elB P u
        if es ≠ 0 ∧ zOk P e = true ∧ bytesOk P e = true then do return .app es (← rOd P t x) (← rOd P u y) else none
      | _, _ => none
    | _ => none
  | .makeMap t none => do
    let (kt, _) ← mapB P t
    return .mkm (!isI64 P kt)
  | .range t x => do
    let _ ← mapB P t
    return .rng (← rOd P t x)
  | .mapUpdate t m k v | .insert t m k v => do
    let (kt, et) ← mapB P t
    return .mup kt (!isI64 P kt) (← rOd P t m) (← rOd P kt k) (← rOd P et v)
  | .mapEntry t m k => do
    let (kt, et) ← mapB P t
    if zOk P et && zShape P et then return .men kt (!isI64 P kt) (zE P et) (← rOd P t m) (← rOd P kt k) else none
  | .entryStore t m s v => do
    let (_, et) ← mapB P t
    return .mes (← rOd P t m) (← rOd P 0 s) (← rOd P et v)
  | _ => none

section
variable {P : Program} {F : Fence} {n : Nat}

theorem ext_new {S : Nat → Prop} {w : World} {O : OInfo} {hp : List Blk} (hm : Mat S w O hp) {id : Nat} (hO : O id = none) (w' : World) (hold : ∀ k, k < w.heap.size → w'.heap[k]? = w.heap[k]?) (x : Nat × Option Nat) :
    Ext S S w w' O (updO O id x) := by
  refine ⟨fun k hk => ⟨hk, hold k (hm.lt k hk)⟩, fun j g ob hj => ⟨g, ob, ?_, Nat.le_refl _, fun _ => ⟨rfl, fun b cur e hb hh => ⟨cur, (hold b (by subst hb; exact (hm.own j g b hj).1)).trans hh, rfl⟩⟩⟩⟩
  unfold updO
  rw [if_neg (by rintro rfl; rw [hO] at hj; cases hj)]
  exact hj

/-- a new block of our own -/
theorem new_obj {S : Nat → Prop} {w w1 : World} {O : OInfo} {hp : List Blk} (hm : Mat S w O hp) {id : Nat} (hO : O id = none) {x : Blk} (hid : hp[id]? = some x)
    (h1 : w1.heap = w.heap) (h2 : w1.os = w.os) (h3 : w1.tape = w.tape) (h4 : w1.output = w.output) {o : Obj} (hfz : ∀ a, (w1.alloc o).frozen? a = w1.frozen? a)
    (hok : ∀ O', Ext S S w (w1.alloc o) O O' → (w1.alloc o).heap[w.heap.size]? = some o → BlkOk S (w1.alloc o) O' 0 (some w.heap.size) (some x)) :
    Evol S S w (w1.alloc o) O (updO O id (0, some w.heap.size)) ∧ Mat S (w1.alloc o) (updO O id (0, some w.heap.size)) hp ∧
      (w1.alloc o).heap[w.heap.size]? = some o := by
  have hsz : w1.heap.size = w.heap.size := by rw [h1]
  have hnew : (w1.alloc o).heap[w.heap.size]? = some o := by rw [← hsz]; exact heap_alloc_new w1 _
  have hold : ∀ k, k < w.heap.size → (w1.alloc o).heap[k]? = w.heap[k]? := fun k hk => (heap_alloc_old w1 _ (by omega)).trans (by rw [h1])
  have hx := ext_new hm hO (w1.alloc o) hold (0, some w.heap.size)
  have hcase : ∀ j g ob, updO O id (0, some w.heap.size) j = some (g, ob) → (j = id ∧ g = 0 ∧ ob = some w.heap.size) ∨ (j ≠ id ∧ O j = some (g, ob)) := by
    intro j g ob h
    unfold updO at h
    split at h
    · rename_i hj; left; simp at h; exact ⟨hj, h.1.symm, h.2.symm⟩
    · rename_i hj; exact .inr ⟨hj, h⟩
  refine ⟨⟨hx, h2, h3, h4, by simp [hsz], fun a => (hfz a).trans (frozen_heap h1 a), fun k hk _ => hold k hk, ?_, fun k hk => .inl hk⟩, ⟨?_, ?_, ?_, ?_⟩, hnew⟩
  · rintro k ⟨j, g, hj⟩
    rcases hcase j g _ hj with ⟨_, _, h⟩ | ⟨_, h⟩
    · cases h; exact .inr (Nat.le_refl _)
    · exact .inl ⟨j, g, h⟩
  · intro k hk; have := hm.lt k hk; simp [hsz]; omega
  · intro j g b hj
    rcases hcase j g _ hj with ⟨_, _, h⟩ | ⟨_, h⟩
    · cases h; exact ⟨by simp [hsz], fun hS => by have := hm.lt _ hS; omega⟩
    · have := hm.own j g b h; exact ⟨by simp [hsz]; omega, this.2⟩
  · intro j j' g g' b hj hj'
    rcases hcase j g _ hj with ⟨h0, _, h⟩ | ⟨h0, h⟩ <;> rcases hcase j' g' _ hj' with ⟨h0', _, h'⟩ | ⟨h0', h'⟩
    · omega
    · cases h; have := (hm.own j' g' _ h').1; omega
    · cases h'; have := (hm.own j g _ h).1; omega
    · exact hm.inj j j' g g' b h h'
  · intro j g ob hj
    rcases hcase j g _ hj with ⟨rfl, rfl, rfl⟩ | ⟨h0, h⟩
    · rw [hid]
      exact hok _ hx hnew
    · exact (hm.blk j g ob h).ext hx fun b hb => hold b (hm.own j g b (by rw [h, hb])).1

theorem new_own {S : Nat → Prop} {w w1 : World} {O : OInfo} {hp : List Blk} (hm : Mat S w O hp) {id : Nat} (hO : O id = none) {vs : List V} (hid : hp[id]? = some (.cells 0 vs))
    (h1 : w1.heap = w.heap) (h2 : w1.os = w.os) (h3 : w1.tape = w.tape) (h4 : w1.output = w.output) {cells : Array Value} {e : TypeId} (hr : RepL S w O vs cells.toList) (hone : ∀ c ∈ cells.toList, c.oneCell' = true) :
    Evol S S w (w1.alloc (.cells cells e)) O (updO O id (0, some w.heap.size)) ∧ Mat S (w1.alloc (.cells cells e)) (updO O id (0, some w.heap.size)) hp ∧
      (w1.alloc (.cells cells e)).heap[w.heap.size]? = some (.cells cells e (0, 0)) :=
  new_obj hm hO hid h1 h2 h3 h4 (fun a => frozen_alloc w1 cells e a) fun O' hx hnew => ⟨rfl, cells, e, hnew, RepL.ext hx _ _ hr, hone⟩

theorem frozen_alloc_other (w : World) (o : Obj) (ho : o.isCells = false) (a : Addr) : (w.alloc o).frozen? a = w.frozen? a := by
  by_cases h : a.block = w.heap.size
  · have h1 : (w.alloc o).heap[a.block]? = some o := by rw [h]; exact heap_alloc_new w _
    have h2 : w.heap[a.block]? = none := by rw [h]; simp
    simp only [World.frozen?, h1, h2]
    cases o <;> first | rfl | (simp [Obj.isCells] at ho)
  · simp only [World.frozen?, heap_alloc_past' w _ h]

/-- a block of our own that holds no cells is turned -/
theorem put_obj {S : Nat → Prop} {w : World} {O : OInfo} {hp : List Blk} (hm : Mat S w O hp) {id g b : Nat} (hO : O id = some (g, some b)) {o o' : Obj} (hb : w.heap[b]? = some o) (hc : o.isCells = false) (hc' : o'.isCells = false)
    (hlt : id < hp.length) {x : Blk} (hok : Ext S S w (w.putObj b o') O O → (w.putObj b o').heap[b]? = some o' → BlkOk S (w.putObj b o') O g (some b) (some x)) :
    Evol S S w (w.putObj b o') O O ∧ Mat S (w.putObj b o') O (hp.set id x) := by
  have hbl : b < w.heap.size := (Array.getElem?_eq_some_iff.1 hb).1
  have hnew : (w.putObj b o').heap[b]? = some o' := World.putObj_heap_same hbl
  have hoth : ∀ k, k ≠ b → (w.putObj b o').heap[k]? = w.heap[k]? := fun k hk => World.putObj_heap_other hk
  have hfz : ∀ a, (w.putObj b o').frozen? a = w.frozen? a := by
    intro a
    by_cases h : a.block = b
    · simp only [World.frozen?, h, hnew, hb]
      cases o <;> cases o' <;> first | rfl | (simp [Obj.isCells] at hc; done) | (simp [Obj.isCells] at hc'; done)
    · simp only [World.frozen?, hoth _ h]
  have hx : Ext S S w (w.putObj b o') O O := by
    refine ⟨fun k hk => ⟨hk, hoth k (by rintro rfl; exact (hm.own id g k hO).2 hk)⟩, fun j g2 ob hj => ⟨g2, ob, hj, Nat.le_refl _, fun _ => ⟨rfl, fun b' cur' e' hb' hh => ⟨cur', ?_, rfl⟩⟩⟩⟩
    rw [hoth b' (by rintro rfl; rw [hb] at hh; cases hh; simp [Obj.isCells] at hc)]
    exact hh
  refine ⟨⟨hx, rfl, rfl, rfl, by simp, hfz, fun k hk hno => hoth k (by rintro rfl; exact hno ⟨id, g, hO⟩), fun k h => .inl h, fun k hk => .inl hk⟩, ⟨?_, ?_, hm.inj, ?_⟩⟩
  · intro k hk; simpa using hm.lt k hk
  · intro j g2 b' hj; simpa using hm.own j g2 b' hj
  · intro j g2 ob hj
    by_cases h0 : j = id
    · subst h0
      rw [hO] at hj; cases hj
      rw [List.getElem?_set_self hlt]
      exact hok hx hnew
    · rw [List.getElem?_set_ne (Ne.symm h0)]
      refine (hm.blk j g2 ob hj).ext hx fun b' hb' => hoth b' ?_
      rintro rfl
      exact h0 (hm.inj j id _ _ _ (by rw [hj, hb']) hO)

/-- a block of our own gets other cells -/
theorem put_own {S : Nat → Prop} {w : World} {O : OInfo} {hp : List Blk} (hm : Mat S w O hp) {id g b : Nat} (hO : O id = some (g, some b)) {cur new : Array Value} {e : TypeId} (hb : w.heap[b]? = some (.cells cur e (0, 0)))
    (hsz : new.size = cur.size) {us : List V} (hone : ∀ c ∈ new.toList, c.oneCell' = true) (g' : Nat) (hg : g ≤ g')
    (hr : RepL S (w.setRow b new) (updO O id (g', some b)) us new.toList) (hlt : id < hp.length) :
    Evol S S w (w.setRow b new) O (updO O id (g', some b)) ∧ Mat S (w.setRow b new) (updO O id (g', some b)) (hp.set id (.cells g' us)) := by
  have hnew : (w.setRow b new).heap[b]? = some (.cells new e (0, 0)) := setRow_heap w b cur new e _ hb
  have hoth : ∀ k, k ≠ b → (w.setRow b new).heap[k]? = w.heap[k]? := fun k hk => setRow_other w b k new hk
  have hfz : ∀ a, (w.setRow b new).frozen? a = w.frozen? a := by
    intro a
    by_cases h : a.block = b
    · simp [World.frozen?, h, hnew, hb]
    · simp only [World.frozen?, hoth _ h]
  have hnb : ∀ k, S k → k ≠ b := fun k hk h => by subst h; exact (hm.own id g k hO).2 hk
  have hcase : ∀ j g2 ob, updO O id (g', some b) j = some (g2, ob) → (j = id ∧ g2 = g' ∧ ob = some b) ∨ (j ≠ id ∧ O j = some (g2, ob)) := by
    intro j g2 ob h
    unfold updO at h
    split at h
    · rename_i hj; left; simp at h; exact ⟨hj, h.1.symm, h.2.symm⟩
    · rename_i hj; exact .inr ⟨hj, h⟩
  have hx : Ext S S w (w.setRow b new) O (updO O id (g', some b)) := by
    refine ⟨fun k hk => ⟨hk, hoth k (hnb k hk)⟩, fun j g2 ob hj => ?_⟩
    by_cases hji : j = id
    · subst hji
      rw [hO] at hj
      cases hj
      refine ⟨g', some b, by simp [updO], hg, fun _ => ⟨rfl, fun b' cur' e' hb' hh => ?_⟩⟩
      cases hb'
      rw [hb] at hh
      cases hh
      exact ⟨new, hnew, hsz⟩
    · refine ⟨g2, ob, by simp [updO, hji, hj], Nat.le_refl _, fun _ => ⟨rfl, fun b' cur' e' hb' hh => ⟨cur', ?_, rfl⟩⟩⟩
      rw [hoth b' (by rintro rfl; subst hb'; exact hji (hm.inj j id g2 g _ hj hO))]
      exact hh
  refine ⟨⟨hx, rfl, rfl, rfl, by simp, hfz, fun k hk hno => hoth k (by rintro rfl; exact hno ⟨id, g, hO⟩), ?_, fun k hk => .inl hk⟩, ⟨?_, ?_, ?_, ?_⟩⟩
  · rintro k ⟨j, g2, hj⟩
    rcases hcase j g2 _ hj with ⟨_, _, h⟩ | ⟨_, h⟩
    · cases h; exact .inl ⟨id, g, hO⟩
    · exact .inl ⟨j, g2, h⟩
  · intro k hk; simpa using hm.lt k hk
  · intro j g2 b' hj
    rcases hcase j g2 _ hj with ⟨_, _, h⟩ | ⟨_, h⟩
    · cases h; simpa using hm.own id g b hO
    · simpa using hm.own j g2 b' h
  · intro j j' g2 g2' b' hj hj'
    rcases hcase j g2 _ hj with ⟨h0, _, h⟩ | ⟨h0, h⟩ <;> rcases hcase j' g2' _ hj' with ⟨h0', _, h'⟩ | ⟨h0', h'⟩
    · omega
    · cases h; exact absurd (hm.inj j' id _ _ _ h' hO) h0'
    · cases h'; exact absurd (hm.inj j id _ _ _ h hO) h0
    · exact hm.inj j j' _ _ b' h h'
  · intro j g2 ob hj
    rcases hcase j g2 _ hj with ⟨rfl, rfl, rfl⟩ | ⟨h0, h⟩
    · simp only [List.getElem?_set_self hlt, BlkOk]
      exact ⟨trivial, new, e, hnew, hr, hone⟩
    · rw [List.getElem?_set_ne (Ne.symm h0)]
      refine (hm.blk j g2 ob h).ext hx fun b' hb' => hoth b' ?_
      rintro rfl
      exact h0 (hm.inj j id _ _ _ (by rw [h, hb']) hO)

theorem first_run {S : Nat → Prop} {w : World} {O : OInfo} {hp : List Blk} (hm : Mat S w O hp) {es : Nat} {y : V} {cy : Value} (hy : Rep S w O y cy) {vs : List V} {k : Nat} (hn : newsV hp es y = some (vs, k)) :
    ∃ news : List Value, (∀ w1 : World, w1.heap = w.heap → (Builtin.firstCells es k cy).run P w1 = .ok news.toArray w1) ∧ RepL S w O vs news ∧ news.length = k * es ∧ vs.length = k * es ∧ (∀ c ∈ news, c.oneCell' = true) ∧
      (∃ a cap, cy = .slice a k cap) := by
  cases y <;> first | (simp [newsV] at hn; done) | skip
  case z es' =>
    simp [newsV] at hn
    obtain ⟨rfl, rfl⟩ := hn
    simp only [Rep] at hy
    obtain ⟨a, rfl⟩ := hy
    refine ⟨[], fun w1 _ => ?_, by simp [RepL], by simp, by simp, by simp, a, 0, rfl⟩
    cases a <;> simp [Builtin.firstCells, loadCells, loadCellsFrom]
  case sl es' rows =>
    simp only [newsV] at hn
    split at hn
    · rename_i he
      subst he
      simp only [Option.some.injEq, Prod.mk.injEq] at hn
      obtain ⟨rfl, rfl⟩ := hn
      simp only [Rep] at hy
      obtain ⟨a, cap, rfl, hcap, hr⟩ := hy
      rcases hr with rfl | ⟨blk, off, cur, e, fr, rfl, hS, hh, hrow⟩
      · refine ⟨[], fun w1 _ => ?_, by simp [RepL], by simp, by simp, by simp, a, cap, rfl⟩
        cases a <;> simp [Builtin.firstCells, loadCells, loadCellsFrom]
      · obtain ⟨⟨h1, h1'⟩, h2⟩ := RepRows.flat _ _ hrow
        have hl := RepL.length _ _ h1
        rw [h2] at hl
        refine ⟨(cur.toList.drop off).take (rows.length * es'), fun w1 hw1 => ?_, ?_, by rw [List.length_take, Nat.min_eq_left hl], h2, h1', _, cap, rfl⟩
        · simp only [Builtin.firstCells]
          exact run_loadCells_at (by rw [hw1]; exact hh) _ (by omega)
        · exact RepL.ext (S := S) (O := noO) (w := w) ⟨fun _ h => ⟨h, rfl⟩, fun _ _ _ h => by cases h⟩ _ _ (RepL.take_both _ _ _ h1 (by omega))
    · cases hn
  case rf id g off len es' =>
    simp only [newsV] at hn
    split at hn
    · rename_i g' us hid
      split at hn
      · rename_i hc
        obtain ⟨rfl, rfl, hfit⟩ := hc
        simp only [Option.some.injEq, Prod.mk.injEq] at hn
        obtain ⟨rfl, rfl⟩ := hn
        simp only [Rep] at hy
        obtain ⟨_, gO, ob, hO, hle, hr⟩ := hy
        have hb := hm.blk id gO ob hO
        rw [hid] at hb
        simp only [BlkOk] at hb
        rcases hr hb.1 with ⟨b, cap, cur', e', rfl, hh', rfl, hlc, hsz⟩ | ⟨rfl, rfl, a, rfl⟩
        · obtain ⟨cur, e, hh, hrl, h1⟩ := hb.2
          have hd := hrl.drop off
          have hl := RepL.length _ _ hd
          have hkl : len * es' ≤ (us.drop off).length := by simp; omega
          refine ⟨(cur.toList.drop off).take (len * es'), fun w1 hw1 => ?_, ?_, by simp at hl hkl ⊢; omega, by simp at hkl ⊢; omega, fun c hc => h1 c (List.mem_of_mem_drop (List.mem_of_mem_take hc)), _, cap, rfl⟩
          · simp only [Builtin.firstCells]
            exact run_loadCells_at (by rw [hw1]; exact hh) _ (by omega)
          · exact RepL.take_both _ _ _ (hd.take _) (by simp; omega)
        · refine ⟨[], fun w1 _ => ?_, by simp [RepL], by simp, by simp, by simp, a, 0, rfl⟩
          cases a <;> simp [Builtin.firstCells, loadCells, loadCellsFrom]
      · cases hn
    · cases hn

/-- append where it must grow -/
theorem run_grow {t u e e' : TypeId} {i : TypeInfo} {z : Value} (ht : P.underlying t = some (.slice e)) (hu : P.underlying u = some (.slice e')) (hi : P.info? e = some i) (hz : i.zero = some z) {ty : TypeId}
    {w : World} {a c : Option Addr} {sLen sCap k cap : Nat} {olds news : List Value}
    (ho : ∀ w1 : World, w1.heap = w.heap → (Builtin.firstCells i.size sLen (.slice a sLen sCap)).run P w1 = .ok olds.toArray w1)
    (hn : ∀ w1 : World, w1.heap = w.heap → (Builtin.firstCells i.size k (.slice c k cap)).run P w1 = .ok news.toArray w1)
    (hg : sCap < sLen + k) (hfit : sLen + k ≤ 2147483648) (hb : i.bytes ≤ 65536) :
    (Builtin.append_ #[t, u] ty #[.slice a sLen sCap, .slice c k cap]).run P w =
      .ok (.slice (some ⟨w.heap.size, 0, none⟩) (sLen + k) (grownCap w (sLen + k) sCap e))
        (w.drew.alloc (.cells (olds.toArray ++ news.toArray ++ Builtin.zeroCells z.cells (grownCap w (sLen + k) sCap e - (sLen + k))) e)) := by
  have hnot : ¬ (sLen + k ≤ sCap) := by omega
  have h63' : ¬ (9223372036854775807 < ((sLen : Int) + (k : Int))) := by omega
  have hbb : (sLen + k) * i.bytes ≤ 140737488355328 := Nat.le_trans (Nat.mul_le_mul hfit hb) (by decide)
  have hnx := growslice_fits (old := sCap) hg hbb
  have h48' : ¬ (281474976710656 < Builtin.nextslicecap (sLen + k) sCap * i.bytes) := by omega
  have ho' := ho w.drew rfl
  have hn' := hn w.drew rfl
  simp [Builtin.append_, run_underlying ht, run_underlying hu, sizeOf, typeInfo, zeroValue, hi, hz, Builtin.lenOf, hnot, h63', h48', Question.forced, ho', hn', newRow, grownCap]
  congr 2
  apply Array.ext'
  simp [List.append_assoc]

/-- append where there is room -/
theorem run_room {t u e e' : TypeId} {i : TypeInfo} (ht : P.underlying t = some (.slice e)) (hu : P.underlying u = some (.slice e')) (hi : P.info? e = some i) {ty : TypeId}
    {w : World} {g sLen sCap k cap : Nat} {c : Option Addr} {cur : Array Value} {eb : TypeId} {news : List Value} (hb : w.heap[g]? = some (.cells cur eb (0, 0)))
    (hn : ∀ w1 : World, w1.heap = w.heap → (Builtin.firstCells i.size k (.slice c k cap)).run P w1 = .ok news.toArray w1)
    (h1 : ∀ x ∈ news, x.oneCell' = true) (hroom : sLen + k ≤ sCap) (hfit : sLen * i.size + news.length ≤ cur.size) :
    (Builtin.append_ #[t, u] ty #[.slice (some ⟨g, 0, none⟩) sLen sCap, .slice c k cap]).run P w =
      .ok (.slice (some ⟨g, 0, none⟩) (sLen + k) sCap) (w.setRow g (cur.toList.take (sLen * i.size) ++ news ++ cur.toList.drop (sLen * i.size + news.length)).toArray) := by
  have hn' := hn w rfl
  have hst := run_storeCells_at P g (sLen * i.size) eb news 0 cur w hb (by simpa using hfit) h1
  simp only [Nat.add_zero] at hst
  have hadd : (⟨g, 0, none⟩ : Addr).add (sLen * i.size) = ⟨g, sLen * i.size, none⟩ := by unfold Addr.add; split <;> simp_all
  simp [Builtin.append_, run_underlying ht, run_underlying hu, sizeOf, typeInfo, hi, Builtin.lenOf, hroom, hn', hadd, hst]

theorem virt_own {S : Nat → Prop} {w w1 : World} {O : OInfo} {hp : List Blk} (hm : Mat S w O hp) {id : Nat} (hO : O id = none) (hid : hp[id]? = some (.cells 0 [])) (h1 : w1 = w) :
    Evol S S w w1 O (updO O id (0, none)) ∧ Mat S w1 (updO O id (0, none)) hp := by
  subst h1
  have hx := ext_new hm hO w1 (fun _ _ => rfl) (0, none)
  have hcase : ∀ j g ob, updO O id (0, none) j = some (g, ob) → (j = id ∧ g = 0 ∧ ob = none) ∨ (j ≠ id ∧ O j = some (g, ob)) := by
    intro j g ob h
    unfold updO at h
    split at h
    · rename_i hj; left; simp at h; exact ⟨hj, h.1.symm, h.2.symm⟩
    · rename_i hj; exact .inr ⟨hj, h⟩
  have hown : ∀ j g b, updO O id (0, none) j = some (g, some b) → O j = some (g, some b) := by
    intro j g b h
    rcases hcase j g _ h with ⟨_, _, h'⟩ | ⟨_, h'⟩
    · cases h'
    · exact h'
  refine ⟨⟨hx, rfl, rfl, rfl, Nat.le_refl _, fun _ => rfl, fun _ _ _ => rfl, fun k ⟨j, g, h⟩ => .inl ⟨j, g, hown j g k h⟩, fun _ h => .inl h⟩, ⟨hm.lt, fun j g b h => hm.own j g b (hown _ _ _ h), fun j j' g g' b h h' => hm.inj j j' g g' b (hown _ _ _ h) (hown _ _ _ h'), ?_⟩⟩
  intro j g ob h
  rcases hcase j g _ h with ⟨rfl, rfl, rfl⟩ | ⟨_, h'⟩
  · rw [hid]; exact ⟨rfl, rfl⟩
  · exact (hm.blk j g ob h').ext hx fun _ _ => rfl

theorem rep_ad_new {S : Nat → Prop} {w : World} {O : OInfo} {id b off : Nat} : Rep S w (updO O id (0, some b)) (.ad id 0 off) (.pointer (some ⟨b, off, none⟩)) := by
  simp only [Rep]
  exact ⟨rfl, 0, some b, by simp [updO], Nat.le_refl _, fun _ => ⟨b, rfl, rfl⟩⟩

theorem updO_ne {O : OInfo} {id j : Nat} {x : Nat × Option Nat} (h : j ≠ id) : updO O id x j = O j := by simp [updO, h]

theorem zero_run {t : TypeId} {i : TypeInfo} {z : Value} (hi : P.info? t = some i) (hz : i.zero = some z) (w : World) : (zeroValue t).run P w = .ok z w := by simp [zeroValue, typeInfo, hi, hz]

theorem zeroCells_one {z : Value} (h : ∀ c ∈ z.cells.toList, c.oneCell' = true) (hz : 0 < z.cells.size) (k : Nat) : ∀ c ∈ (Builtin.zeroCells z.cells k).toList, c.oneCell' = true := by
  unfold Builtin.zeroCells
  rw [range_rep _ hz]
  intro c hc
  rw [List.mem_flatten] at hc
  obtain ⟨l, hl, hc⟩ := hc
  rw [List.eq_of_mem_replicate hl] at hc
  exact h c hc

/-- ONE OPERATION THAT MAKES A BLOCK -/
theorem n_sound (hF : OpenF F) {o : Oper} {q : W} (hr : resW P o = some q) {S : Nat → Prop} {w : World} {O : OInfo} {hp0 hp : List Blk} (hm0 : Mat S w O hp0) (hm : Mat S w O hp)
    {a : Act} {ρ : Od → V} (hρ : OdsOk P S w O ρ a.eval o) {ok : Prop} {x : Blk} {mk : Nat → V} (hv : nv hp0 q ρ = some (ok, x, mk)) (hok : ok) {id : Nat} (hO : O id = none) (hid : hp[id]? = some x)
    {K : Act → World → Prop} {Q' : Exit → Act → World → Prop}
    (hK : ∀ c w' O', Evol S S w w' O O' → Mat S w' O' hp → Rep S w' O' (mk id) c → (∀ j, j ≠ id → O' j = O j) → K (a.put o.dst c) w') : o.wpIn F n P a w K Q' := by
  unfold resW at hr
  unfold OdsOk at hρ
  have fin : ∀ (vs : List V) (w1 : World) (cells : Array Value) (e : TypeId) (c : Value), x = .cells 0 vs → w1.heap = w.heap → w1.os = w.os → w1.tape = w.tape → w1.output = w.output → RepL S w O vs cells.toList → (∀ c ∈ cells.toList, c.oneCell' = true) →
      (∀ d, o.op ≠ .defer d) → (execOp a.eval o).run P w = .ok (.value c) (w1.alloc (.cells cells e)) →
      ((w1.alloc (.cells cells e)).heap[w.heap.size]? = some (.cells cells e (0, 0)) → Rep S (w1.alloc (.cells cells e)) (updO O id (0, some w.heap.size)) (mk id) c) → o.wpIn F n P a w K Q' := by
    intro vs w1 cells e c hxx h1 h2 h3 h4 hrr hone hd hrun hrep
    obtain ⟨hev, hmat, hnew⟩ := new_own hm hO (by rw [hid, hxx]) h1 h2 h3 h4 hrr hone (e := e)
    exact wpIn_value hF hd hrun (hK c _ _ hev hmat (hrep hnew) fun j hj => updO_ne hj)
  cases hop : o.op <;> rw [hop] at hr hρ <;> simp only [Op.operands, List.mem_toArray, List.mem_cons, List.not_mem_nil, or_false, forall_eq_or_imp, forall_eq] at hρ <;>
    first | (simp at hr; done) | (try dsimp only at hr)
  case alloc t =>
    split at hr
    · rename_i hz
      simp only [Option.some.injEq] at hr
      subst hr
      simp only [nv, Option.some.injEq, Prod.mk.injEq] at hv
      obtain ⟨rfl, rfl, rfl⟩ := hv
      obtain ⟨i, z, hi, hzz, hch, _⟩ := zOk_zero hz
      obtain ⟨z1, z2, _⟩ := zChk_ok _ _ hch S w O
      exact fin _ w z.cells t (.pointer (some ⟨w.heap.size, 0, none⟩)) rfl rfl rfl rfl rfl z1 z2 (by simp [hop])
        (by simp [execOp, hop, Instr.alloc, zero_run hi hzz, newVar, newRow]) (fun _ => rep_ad_new)
    · cases hr
  case box t x =>
    simp only [Option.map_eq_some_iff] at hr
    obtain ⟨x', hx, rfl⟩ := hr
    simp only [nv, Option.some.injEq, Prod.mk.injEq] at hv
    obtain ⟨rfl, rfl, rfl⟩ := hv
    obtain ⟨c1, c2, c3⟩ := cells_rep (hρ _ _ hx) hok.1
    exact fin _ w (a.eval x).cells t (.pointer (some ⟨w.heap.size, 0, none⟩)) rfl rfl rfl rfl rfl c1 (c3 hok.2) (by simp [hop])
      (by simp [execOp, hop, Instr.box, newVar, newRow]) (fun _ => rep_ad_new)
  case buildSlice t k ps =>
    simp only [Option.bind_eq_bind, Option.bind_eq_some_iff] at hr
    obtain ⟨e, he, es, hes, hr⟩ := hr
    split at hr
    · rename_i hc
      simp only [Option.bind_eq_some_iff, Option.pure_def, Option.some.injEq] at hr
      obtain ⟨ods, hods, rfl⟩ := hr
      simp only [nv, Option.some.injEq, Prod.mk.injEq] at hv
      obtain ⟨rfl, rfl, rfl⟩ := hv
      have hpp := rParts_rep ps.toList ods hods (fun x hx => hρ x (by simpa using hx))
      simp only [Option.map_some] at hpp
      obtain ⟨cells, hrun, hc1, hc2, hc3, hc4⟩ := bsl_run (P := P) (k := k) (elB_und he) hes hc.1 hc.2.1 hc.2.2 (ps := ps.map fun p => (p.1, a.eval p.2)) (by simpa using hpp) hok.1 hok.2
      refine fin _ w cells e (.slice (some ⟨w.heap.size, 0, none⟩) k k) rfl rfl rfl rfl rfl hc2 hc4 (by simp [hop]) (by simp [execOp, hop, hrun]) (fun hnew => ?_)
      simp only [Rep]
      exact ⟨rfl, 0, some w.heap.size, by simp [updO], Nat.le_refl _, fun _ => .inl ⟨w.heap.size, k, cells, e, rfl, hnew, rfl, Nat.le_refl _, by omega⟩⟩
    · cases hr
  case makeSlice t l c =>
    simp only [Option.bind_eq_bind, Option.bind_eq_some_iff] at hr
    obtain ⟨e, he, es, hes, hr⟩ := hr
    split at hr
    · rename_i hc
      simp only [Option.bind_eq_some_iff, Option.pure_def, Option.some.injEq] at hr
      obtain ⟨l', hl, c', hcc, rfl⟩ := hr
      have r1 := hρ.1 _ _ hl
      have r2 := hρ.2 _ _ hcc
      simp only [nv] at hv
      split at hv
      · rename_i li ci hli hci
        rw [hli] at r1
        rw [hci] at r2
        simp only [Option.some.injEq, Prod.mk.injEq] at hv
        obtain ⟨rfl, rfl, rfl⟩ := hv
        obtain ⟨h0, hlc, hcm⟩ := hok
        obtain ⟨i, z, hi, hzz, hch, hzs⟩ := zOk_zero hc.2.1
        obtain ⟨z1, z2, z3⟩ := zChk_ok _ _ hch S w O
        have hies : i.size = es := by simpa [szB, hi] using hes
        have hze : z.cells.size = es := by rw [hes] at hzs; exact (Option.some.inj hzs).symm
        have hes0 : 0 < es := Nat.pos_of_ne_zero hc.1
        have hbt : i.bytes ≤ 65536 := by have := hc.2.2; simpa [bytesOk, hi] using this
        have w1 : IntKind.i64.wrap li = li := wrap_in ⟨by omega, by omega⟩
        have w2 : IntKind.i64.wrap ci = ci := wrap_in ⟨by omega, by omega⟩
        have hbig : ∀ x : Int, 0 ≤ x → x ≤ 2147483648 → ¬ ((i.bytes : Int) * x > 2 ^ 48) := by
          intro x hx0 hx1
          have h1 : (i.bytes : Int) * x ≤ 65536 * 2147483648 := Int.mul_le_mul (by omega) hx1 hx0 (by omega)
          omega
        have hb2 := hbig ci (by omega) hcm
        have hci0 : ¬ ci < 0 := by omega
        have hli0 : ¬ li < 0 := by omega
        have hlc' : ¬ li > ci := by omega
        have hrange := range_rep z.cells (by omega) ci.toNat
        rw [hze] at hrange
        have hflat := RepL.flatten (S := S) (w := w) (O := O) z1 (by simpa using z3.symm) ci.toNat
        have hrun : (Instr.makeSlice t (.int .i64 li) (.int .i64 ci)).run P w = .ok (.slice (some ⟨w.heap.size, 0, none⟩) li.toNat ci.toNat) (w.alloc (.cells ((Array.range (ci.toNat * es)).map fun i => z.cells[i % es]!) e)) := by
          by_cases hz0 : ci.toNat * es = 0
          · have hr0 : Array.range 0 = #[] := rfl
            simp only [Instr.makeSlice, Sem.run_bind, run_underlying (elB_und he), Result.andThen_ok, asInt, asIntOf, Sem.run_pure, typeInfo, run_program, hi, w1, w2, hci0, hli0, hlc', hb2, hz0]
            simp [run_sizeOf' hes, hz0, hr0, newRow]
          · simp only [Instr.makeSlice, Sem.run_bind, run_underlying (elB_und he), Result.andThen_ok, asInt, asIntOf, Sem.run_pure, typeInfo, run_program, hi, w1, w2, hci0, hli0, hlc', hb2]
            simp [run_sizeOf' hes, hz0, zero_run hi hzz, hze, newRow]
        refine fin _ w ((Array.range (ci.toNat * es)).map fun i => z.cells[i % es]!) e (.slice (some ⟨w.heap.size, 0, none⟩) li.toNat ci.toNat) rfl rfl rfl rfl rfl ?_ ?_ (by simp [hop]) (by simp [execOp, hop, rep_i r1, rep_i r2, hrun]) (fun hnew => ?_)
        · rw [hrange]
          have hsplit : List.replicate ci.toNat z.cells.toList = List.replicate li.toNat z.cells.toList ++ List.replicate (ci.toNat - li.toNat) z.cells.toList := by
            rw [List.replicate_append_replicate]; congr 1; omega
          rw [hsplit, List.flatten_append]
          exact RepL.more _ _ _ (RepL.flatten (S := S) (w := w) (O := O) z1 (by simpa using z3.symm) li.toNat).1
        · rw [hrange]
          intro x hx
          rw [List.mem_flatten] at hx
          obtain ⟨l, hl, hx⟩ := hx
          rw [List.eq_of_mem_replicate hl] at hx
          exact z2 x hx
        · simp only [Rep]
          exact ⟨rfl, 0, some w.heap.size, by simp [updO], Nat.le_refl _, fun _ => .inl ⟨w.heap.size, ci.toNat, _, e, rfl, hnew, rfl, by omega, by simp⟩⟩
      · cases hv
    · cases hr
  case store t x v =>
    simp only [Option.bind_eq_bind, Option.bind_eq_some_iff, Option.pure_def, Option.some.injEq] at hr
    obtain ⟨_, _, _, _, _, _, rfl⟩ := hr
    simp [nv] at hv
  case call c =>
    split at hr
    · rename_i hcal
      split at hr
      · rename_i x y t u hargs htys
        simp only [Option.bind_eq_bind, Option.bind_eq_some_iff] at hr
        obtain ⟨e, he, es, hes, e', he', hr⟩ := hr
        split at hr
        · rename_i hc
          simp only [Option.bind_eq_some_iff, Option.pure_def, Option.some.injEq] at hr
          obtain ⟨x', hx, y', hy, rfl⟩ := hr
          have ha : c.args = #[x, y] := by rw [← hargs]
          have ht : c.argTypes = #[t, u] := by rw [← htys]
          have r1 := hρ x (by simp [Call.operands, ha]) _ _ hx
          have r2 := hρ y (by simp [Call.operands, ha]) _ _ hy
          simp only [nv] at hv
          split at hv
          · rename_i z0 us k hz0 hnews
            simp only [Option.some.injEq, Prod.mk.injEq] at hv
            obtain ⟨rfl, rfl, rfl⟩ := hv
            rw [hz0] at r1
            simp only [Rep] at r1
            obtain ⟨ad, hcx⟩ := r1
            obtain ⟨news, hn, hrn, hln, hlv, hone, ay, capy, hcy⟩ := first_run (P := P) hm0 r2 hnews
            obtain ⟨i, z, hi, hzz, hch, hzs⟩ := zOk_zero hc.2.1
            obtain ⟨z1, z2, z3⟩ := zChk_ok _ _ hch S w O
            have hies : i.size = es := by simpa [szB, hi] using hes
            have hze : z.cells.size = es := by rw [hes] at hzs; exact (Option.some.inj hzs).symm
            have hes0 : 0 < es := Nat.pos_of_ne_zero hc.1
            have hbt : i.bytes ≤ 65536 := by have := hc.2.2; simpa [bytesOk, hi] using this
            rw [hcy] at hn
            by_cases hk : k = 0
            · subst hk
              have hus : us = [] := List.eq_nil_of_length_eq_zero (by simpa using hlv)
              subst hus
              have hnw : news = [] := List.eq_nil_of_length_eq_zero (by simpa using hln)
              subst hnw
              obtain ⟨hev, hmat⟩ := virt_own hm hO hid rfl
              have hrun : (Builtin.append_ #[t, u] o.type #[.slice ad 0 0, .slice ay 0 capy]).run P w = .ok (.slice ad 0 0) w := by
                have := hn w rfl
                rw [← hies] at this
                cases ad <;> simp [Builtin.append_, run_underlying (elB_und he), run_underlying (elB_und he'), sizeOf, typeInfo, hi, Builtin.lenOf, this, storeCells]
              refine wpIn_value (w' := w) (c := .slice ad 0 0) hF (by simp [hop]) (by simp [execOp, hop, resolve, hcal, ha, ht, invoke, builtin, hcx, hcy, hrun]) (hK _ _ _ hev hmat ?_ fun j hj => updO_ne hj)
              simp only [Rep]
              exact ⟨rfl, 0, none, by simp [updO], Nat.le_refl _, fun _ => .inr ⟨rfl, trivial, ad, rfl⟩⟩
            · have ho : ∀ w1 : World, w1.heap = w.heap → (Builtin.firstCells i.size 0 (.slice ad 0 0)).run P w1 = .ok ([] : List Value).toArray w1 := by
                intro w1 _
                cases ad <;> simp [Builtin.firstCells, loadCells, loadCellsFrom]
              have hrun := run_grow (P := P) (elB_und he) (elB_und he') hi hzz (ty := o.type) (w := w) (sCap := 0) ho (by rw [hies]; exact hn) (by omega) (by simpa [fitsLen] using hok) hbt
              simp only [Nat.zero_add, Array.empty_append] at hrun
              have hgc := grownCap_ge w k 0 e
              refine fin _ w.drew _ e _ rfl rfl rfl rfl rfl ?_ ?_ (by simp [hop]) (by simp only [execOp, hop, resolve, hcal, ha, ht, List.map_toArray, List.map_cons, List.map_nil, Sem.run_bind, Sem.run_pure, Result.andThen_ok, invoke, builtin, hcx, hcy, hrun]; rfl) (fun hnew => ?_)
              · simp only [Array.toList_append]
                exact (RepL.more _ _ _ hrn)
              · intro x hx
                simp only [Array.toList_append, List.mem_append] at hx
                rcases hx with hx | hx
                · exact hone x (by simpa using hx)
                · exact zeroCells_one z2 (by omega) _ x hx
              · simp only [Rep]
                refine ⟨rfl, 0, some w.heap.size, by simp [updO], Nat.le_refl _, fun _ => .inl ⟨w.heap.size, _, _, e, rfl, hnew, rfl, hgc, ?_⟩⟩
                simp only [Array.size_append, List.size_toArray, size_zeroCells, hln, hze, ← Nat.add_mul]
                rw [Nat.zero_add]
                exact Nat.mul_le_mul_right _ (by omega)
          · cases hv
        · cases hr
      · cases hr
    · cases hr
  case makeMap t r =>
    cases r with
    | some r => simp at hr
    | none =>
      simp only [Option.bind_eq_bind, Option.bind_eq_some_iff, Option.pure_def, Option.some.injEq] at hr
      obtain ⟨⟨kt, et⟩, hmap, rfl⟩ := hr
      simp only [nv, Option.some.injEq, Prod.mk.injEq] at hv
      obtain ⟨rfl, rfl, rfl⟩ := hv
      obtain ⟨hev, hmat, hnew⟩ := new_obj (o := .map #[] 0) hm hO hid rfl rfl rfl rfl (frozen_alloc_other w _ rfl) fun O' hx hnew =>
        ⟨rfl, w.heap.size, #[], rfl, hnew, ⟨rfl, fun i e he => by simp at he⟩, by simp [RepL], rfl, List.nodup_nil, fun _ k hk => by cases hk⟩
      refine wpIn_value hF (by simp [hop]) (by simp [execOp, hop, Instr.makeMap]) (hK (.map (some w.heap.size)) _ _ hev hmat ?_ fun j hj => updO_ne hj)
      simp only [Rep]
      exact ⟨rfl, 0, some w.heap.size, by simp [updO], Nat.le_refl _, fun _ => ⟨_, rfl, rfl⟩⟩
  case range t y =>
    simp only [Option.bind_eq_bind, Option.bind_eq_some_iff, Option.pure_def, Option.some.injEq] at hr
    obtain ⟨⟨kt, et⟩, hmap, y', hy, rfl⟩ := hr
    have hu := mapB_und hmap
    have r1 := hρ _ _ hy
    simp only [nv] at hv
    split at hv
    · rename_i mid g hyv
      rw [hyv] at r1
      split at hv
      · rename_i st ks vs hmid
        simp only [Option.some.injEq, Prod.mk.injEq] at hv
        obtain ⟨rfl, rfl, rfl⟩ := hv
        obtain ⟨b, es, hOm, hc, hb, hes, _⟩ := mp_block hm0 r1 hmid hok
        have hlen := mapEs_len hes
        have hsz : b < w.heap.size := (Array.getElem?_eq_some_iff.1 hb).1
        obtain ⟨hev, hmat, hnew⟩ := new_obj (o := .mapIter (some b) ks.length #[] ks.length) hm hO hid rfl rfl rfl rfl (frozen_alloc_other w _ rfl) fun O' hx hnew => by
          refine ⟨rfl, w.heap.size, b, #[], rfl, hnew, ?_, List.nodup_range, fun j => by simp, fun j hj => by cases hj⟩
          have := Rep.ext hx _ _ (show Rep S w O (.mp mid g) (.map (some b)) by rw [← hc]; exact r1)
          rwa [hok] at this
        have hrun : (Instr.range t (.map (some b))).run P w = .ok (.pointer (some ⟨w.heap.size, 0, none⟩)) (w.alloc (.mapIter (some b) ks.length #[] ks.length)) := by
          have hg := run_getObj_map (P := P) (hb := hb)
          simp [Instr.range, run_underlying hu, hg, hlen]
        refine wpIn_value hF (by simp [hop]) (by simp only [execOp, hop, hc, hrun, Sem.run_bind, Result.andThen_ok, Sem.run_pure]) (hK (.pointer (some ⟨w.heap.size, 0, none⟩)) _ _ hev hmat ?_ fun j hj => updO_ne hj)
        simp only [Rep]
        exact ⟨rfl, 0, some w.heap.size, by simp [updO], Nat.le_refl _, fun _ => ⟨_, rfl, rfl⟩⟩
      · cases hv
    · cases hv
  case mapUpdate t m k v =>
    simp only [Option.bind_eq_bind, Option.bind_eq_some_iff, Option.pure_def, Option.some.injEq] at hr
    obtain ⟨_, _, _, _, _, _, _, _, rfl⟩ := hr
    simp [nv] at hv
  case insert t m k v =>
    simp only [Option.bind_eq_bind, Option.bind_eq_some_iff, Option.pure_def, Option.some.injEq] at hr
    obtain ⟨_, _, _, _, _, _, _, _, rfl⟩ := hr
    simp [nv] at hv
  case mapEntry t m k =>
    simp only [Option.bind_eq_bind, Option.bind_eq_some_iff] at hr
    obtain ⟨⟨kt, et⟩, hmap, hr⟩ := hr
    simp only at hr
    split at hr
    · simp only [Option.bind_eq_some_iff, Option.pure_def, Option.some.injEq] at hr
      obtain ⟨_, _, _, _, rfl⟩ := hr
      simp [nv] at hv
    · cases hr
  case entryStore t m s' v =>
    simp only [Option.bind_eq_bind, Option.bind_eq_some_iff, Option.pure_def, Option.some.injEq] at hr
    obtain ⟨_, _, _, _, _, _, _, _, rfl⟩ := hr
    simp [nv] at hv

/-- a block of our own moves to a new place, or stays without one -/
theorem renew_own {S : Nat → Prop} {w w' : World} {O : OInfo} {hp : List Blk} (hm : Mat S w O hp) {id g : Nat} {ob : Option Nat} (hO : O id = some (g, ob)) (hlt : id < hp.length) {us : List V} {ob' : Option Nat}
    (h2 : w'.os = w.os) (h3 : w'.tape = w.tape) (h4 : w'.output = w.output) (hsz : w.heap.size ≤ w'.heap.size) (hfz : ∀ a, w'.frozen? a = w.frozen? a) (hold : ∀ k, k < w.heap.size → w'.heap[k]? = w.heap[k]?)
    (hnew : ∀ b, ob' = some b → w.heap.size ≤ b ∧ b < w'.heap.size)
    (hb : ∀ O', Ext S S w w' O O' → BlkOk S w' O' (g + 1) ob' (some (.cells (g + 1) us))) :
    Evol S S w w' O (updO O id (g + 1, ob')) ∧ Mat S w' (updO O id (g + 1, ob')) (hp.set id (.cells (g + 1) us)) := by
  have hcase : ∀ j g2 ob2, updO O id (g + 1, ob') j = some (g2, ob2) → (j = id ∧ g2 = g + 1 ∧ ob2 = ob') ∨ (j ≠ id ∧ O j = some (g2, ob2)) := by
    intro j g2 ob2 h
    unfold updO at h
    split at h
    · rename_i hj; left; simp at h; exact ⟨hj, h.1.symm, h.2.symm⟩
    · rename_i hj; exact .inr ⟨hj, h⟩
  have hx : Ext S S w w' O (updO O id (g + 1, ob')) := by
    refine ⟨fun k hk => ⟨hk, hold k (hm.lt k hk)⟩, fun j g2 ob2 hj => ?_⟩
    by_cases hji : j = id
    · subst hji
      rw [hO] at hj
      cases hj
      exact ⟨g + 1, ob', by simp [updO], by omega, fun h => by omega⟩
    · exact ⟨g2, ob2, by simp [updO, hji, hj], Nat.le_refl _, fun _ => ⟨rfl, fun b' cur' e' hb' hh => ⟨cur', (hold b' (by subst hb'; exact (hm.own j g2 b' hj).1)).trans hh, rfl⟩⟩⟩
  refine ⟨⟨hx, h2, h3, h4, hsz, hfz, fun k hk _ => hold k hk, ?_, fun k hk => .inl hk⟩, ⟨?_, ?_, ?_, ?_⟩⟩
  · rintro k ⟨j, g2, hj⟩
    rcases hcase j g2 _ hj with ⟨_, _, h⟩ | ⟨_, h⟩
    · exact .inr (hnew k h.symm).1
    · exact .inl ⟨j, g2, h⟩
  · intro k hk; have := hm.lt k hk; omega
  · intro j g2 b' hj
    rcases hcase j g2 _ hj with ⟨_, _, h⟩ | ⟨_, h⟩
    · have := hnew b' h.symm; exact ⟨this.2, fun hS => by have := hm.lt _ hS; omega⟩
    · have := hm.own j g2 b' h; exact ⟨by omega, this.2⟩
  · intro j j' g2 g2' b' hj hj'
    rcases hcase j g2 _ hj with ⟨h0, _, h⟩ | ⟨h0, h⟩ <;> rcases hcase j' g2' _ hj' with ⟨h0', _, h'⟩ | ⟨h0', h'⟩
    · omega
    · have := hnew b' h.symm; have := (hm.own j' g2' _ h').1; omega
    · have := hnew b' h'.symm; have := (hm.own j g2 _ h).1; omega
    · exact hm.inj j j' _ _ b' h h'
  · intro j g2 ob2 hj
    rcases hcase j g2 _ hj with ⟨rfl, rfl, rfl⟩ | ⟨h0, h⟩
    · rw [List.getElem?_set_self hlt]
      exact hb _ hx
    · rw [List.getElem?_set_ne (Ne.symm h0)]
      exact (hm.blk j g2 ob2 h).ext hx fun b' hb' => hold b' (hm.own j g2 b' (by rw [h, hb'])).1

theorem RepL.putAt' {S : Nat → Prop} {w : World} {O : OInfo} {vs ns : List V} {cs ms : List Value} (h : RepL S w O vs cs) (hn : RepL S w O ns ms) (hl : ms.length = ns.length) (off : Nat) (hoff : off + ns.length ≤ vs.length) :
    RepL S w O (Fam.putAt off ns vs) (cs.take off ++ ms ++ cs.drop (off + ms.length)) := by
  have hlen := RepL.length _ _ h
  unfold Fam.putAt
  refine RepL.append _ _ _ _ (RepL.append _ _ _ _ (RepL.take_both off _ _ (h.take off) (by simp; omega)) (by simp; omega) hn) (by simp; omega) ?_
  rw [hl]
  exact h.drop _

theorem getElemLt {α : Type} {l : List α} {i : Nat} {x : α} (h : l[i]? = some x) : i < l.length := (List.getElem?_eq_some_iff.1 h).1

theorem mat_app {S : Nat → Prop} {w : World} {O : OInfo} {hp : List Blk} (h : Mat S w O hp) (bs : List Blk) : Mat S w O (hp ++ bs) := by
  refine ⟨h.lt, h.own, h.inj, fun id g ob ho => ?_⟩
  have := h.blk id g ob ho
  have hlt : id < hp.length := by
    rcases Nat.lt_or_ge id hp.length with h' | h'
    · exact h'
    · rw [List.getElem?_eq_none h'] at this; exact this.elim
  rw [List.getElem?_append_left hlt]
  exact this

theorem mat_none {S : Nat → Prop} {w : World} {O : OInfo} {hp : List Blk} (h : Mat S w O hp) : O hp.length = none := by
  cases hO : O hp.length with
  | none => rfl
  | some x =>
    have := h.blk _ x.1 x.2 hO
    simp [BlkOk] at this

theorem mat_hole {S : Nat → Prop} {w : World} {O : OInfo} {hp : List Blk} (h : Mat S w O hp) {id : Nat} (hid : hp[id]? = some .hole) (b : Blk) : O id = none ∧ Mat S w O (hp.set id b) := by
  have hno : O id = none := by
    cases hO : O id with
    | none => rfl
    | some x =>
      have := h.blk _ x.1 x.2 hO
      rw [hid] at this
      exact this.elim
  refine ⟨hno, h.lt, h.own, h.inj, fun j g ob ho => ?_⟩
  rw [List.getElem?_set_ne (by rintro rfl; rw [hno] at ho; cases ho)]
  exact h.blk j g ob ho

/-- ONE OPERATION THAT CHANGES A BLOCK -/
theorem s_sound (hF : OpenF F) {o : Oper} {q : W} (hr : resW P o = some q) {S : Nat → Prop} {w : World} {O : OInfo} {hp : List Blk} (hm : Mat S w O hp)
    {a : Act} {ρ : Od → V} (hρ : OdsOk P S w O ρ a.eval o) (hok : (sv (EqFlat P) hp q ρ).1)
    {K : Act → World → Prop} {Q' : Exit → Act → World → Prop}
    (hK : ∀ c w' O', Evol S S w w' O O' → Mat S w' O' (putB hp (sv (EqFlat P) hp q ρ).2.2) → Rep S w' O' (sv (EqFlat P) hp q ρ).2.1 c → (∀ j, O j = none → O' j = none) → K (a.put o.dst c) w') : o.wpIn F n P a w K Q' := by
  unfold resW at hr
  unfold OdsOk at hρ
  have none_upd : ∀ {id g ob} {x : Nat × Option Nat}, O id = some (g, ob) → ∀ j, O j = none → updO O id x j = none := by
    intro id g ob x h j hj
    unfold updO
    rw [if_neg (by rintro rfl; rw [h] at hj; cases hj)]
    exact hj
  have upd : ∀ (t : TypeId) (m k v : Operand) (kt et : TypeId) (hmap : mapB P t = some (kt, et)) (m' k' v' : Od) (r1 : Rep S w O (ρ m') (a.eval m)) (r2 : Rep S w O (ρ k') (a.eval k)) (r3 : Rep S w O (ρ v') (a.eval v)),
      q = .mup kt (!isI64 P kt) m' k' v' → (∀ d, o.op ≠ .defer d) → (∀ w', (Instr.mapUpdate t (a.eval m) (a.eval k) (a.eval v)).run P w = .ok () w' → (execOp a.eval o).run P w = .ok .skip w') → o.wpIn F n P a w K Q' := by
    intro t m k v kt et hmap m' k' v' r1 r2 r3 hq hd hex
    subst hq
    simp only [sv] at hok hK
    split at hok
    · rename_i id g s l hxv hkv
      rw [hxv] at r1
      obtain ⟨hkc, hkl⟩ := keyL_rep hkv r2
      split at hok
      · rename_i st ks vs hid
        obtain ⟨b, es, hO, hc, hb, hes, hvs, hvl, hnd, hst1⟩ := mp_block hm r1 hid hok.1
        obtain ⟨hKI, rfl, rfl⟩ := keyIs_of hok.2 rfl hkl hst1
        obtain ⟨es', hrun, hes', hval⟩ := mapUpdate_run (mapB_und hmap) hKI hb hes (a.eval v)
        simp only [hxv, hkv, hid] at hK
        obtain ⟨hev, hmat⟩ := put_obj hm hO (o' := .map es' es'.size) hb rfl rfl (getElemLt hid) (x := .map (!isI64 P kt) (putK ks l) (putVs ks vs l (ρ v'))) fun hx hnew => by
          refine ⟨rfl, b, es', rfl, hnew, hes', ?_, ?_, putK_nodup hnd, putK_one hkl hst1⟩
          · rw [hval]
            unfold putVs
            split
            · exact RepL.set _ _ _ _ _ (RepL.ext hx _ _ hvs) (Rep.ext hx _ _ r3)
            · exact RepL.append _ _ _ _ (RepL.ext hx _ _ hvs) (by simp [hvl, mapEs_len hes]) (by simp only [RepL]; exact ⟨Rep.ext hx _ _ r3, trivial⟩)
          · by_cases h1 : l ∈ ks <;> simp [putK, putVs, h1, hvl]
        exact wpIn_skip' hF hd (hex _ (by rw [hc, hkc]; exact hrun)) (hK undef _ O hev hmat (by simp [Rep]) fun j hj => hj)
      · exact hok.elim
    · exact hok.elim
  cases hop : o.op <;> rw [hop] at hr hρ <;> simp only [Op.operands, List.mem_toArray, List.mem_cons, List.not_mem_nil, or_false, forall_eq_or_imp, forall_eq] at hρ <;>
    first | (simp at hr; done) | (try dsimp only at hr)
  case alloc t =>
    split at hr
    · simp only [Option.some.injEq] at hr; subst hr; simp [sv] at hok
    · cases hr
  case box t x =>
    simp only [Option.map_eq_some_iff] at hr
    obtain ⟨x', hx, rfl⟩ := hr
    simp [sv] at hok
  case buildSlice t k ps =>
    simp only [Option.bind_eq_bind, Option.bind_eq_some_iff] at hr
    obtain ⟨e, he, es, hes, hr⟩ := hr
    split at hr
    · simp only [Option.bind_eq_some_iff, Option.pure_def, Option.some.injEq] at hr
      obtain ⟨ods, hods, rfl⟩ := hr
      simp [sv] at hok
    · cases hr
  case makeSlice t l c =>
    simp only [Option.bind_eq_bind, Option.bind_eq_some_iff] at hr
    obtain ⟨e, he, es, hes, hr⟩ := hr
    split at hr
    · simp only [Option.bind_eq_some_iff, Option.pure_def, Option.some.injEq] at hr
      obtain ⟨_, _, _, _, rfl⟩ := hr
      simp [sv] at hok
    · cases hr
  case store t x v =>
    simp only [Option.bind_eq_bind, Option.bind_eq_some_iff, Option.pure_def, Option.some.injEq] at hr
    obtain ⟨sz, hsz, x', hx, v', hv, rfl⟩ := hr
    have r1 := hρ.1 _ _ hx
    have r2 := hρ.2 _ _ hv
    simp only [sv] at hok
    split at hok
    · rename_i id g off hxa
      rw [hxa] at r1
      split at hok
      · rename_i g' vs hid
        obtain ⟨rfl, hfit, hlen, hsol, hall⟩ := hok
        simp only [Rep] at r1
        obtain ⟨_, gO, ob, hO, hle, hrr⟩ := r1
        have hb := hm.blk id gO ob hO
        rw [hid] at hb
        simp only [BlkOk] at hb
        have hgg := hb.1
        subst hgg
        obtain ⟨b, rfl, hcx⟩ := hrr rfl
        obtain ⟨cur, e, hh, hrl, hone⟩ := hb.2
        obtain ⟨c1, c2, c3⟩ := cells_rep r2 hsol
        have hcl : cur.toList.length = cur.size := by simp
        have hvl := RepL.length _ _ hrl
        have hst := run_storeCells_at P b off e (a.eval v).cells.toList 0 cur w hh (by simp at hvl ⊢; omega) (c3 hall)
        simp only [Nat.add_zero] at hst
        have hrun : (execOp a.eval o).run P w = .ok .skip (w.setRow b (cur.toList.take off ++ (a.eval v).cells.toList ++ cur.toList.drop (off + (a.eval v).cells.toList.length)).toArray) := by
          have hse : ¬ ((a.eval v).cells.size ≠ sz) := by omega
          simp only [execOp, hop, Sem.run_bind, Instr.storeAt, hcx, Instr.sureAddr, Sem.run_pure, Result.andThen_ok, storeVar, run_sizeOf' hsz, if_neg hse, hst]
        have hrep : RepL S w O (putAt off (ρ v').cells vs) (cur.toList.take off ++ (a.eval v).cells.toList ++ cur.toList.drop (off + (a.eval v).cells.toList.length)) :=
          hrl.putAt' c1 (by simpa using c2) off (by omega)
        have hsize : (cur.toList.take off ++ (a.eval v).cells.toList ++ cur.toList.drop (off + (a.eval v).cells.toList.length)).toArray.size = cur.size := by
          simp at hvl ⊢; omega
        have hsame : updO O id (g', some b) = O := by
          funext j
          unfold updO
          split
          · rename_i h; rw [h, hO]
          · rfl
        have hx1 : Ext S S w (w.setRow b (cur.toList.take off ++ (a.eval v).cells.toList ++ cur.toList.drop (off + (a.eval v).cells.toList.length)).toArray) O O := by
          refine ⟨fun k hk => ⟨hk, setRow_other w b k _ (by rintro rfl; exact (hm.own id _ k hO).2 hk)⟩, fun j g2 ob hj => ⟨g2, ob, hj, Nat.le_refl _, fun _ => ⟨rfl, fun b' cur' e' hb' hh' => ?_⟩⟩⟩
          by_cases hbb : b' = b
          · subst hbb
            rw [hh] at hh'
            cases hh'
            exact ⟨_, setRow_heap w b' cur _ e _ hh, hsize⟩
          · exact ⟨cur', (setRow_other w b b' _ hbb).trans hh', rfl⟩
        have hone' : ∀ c ∈ (cur.toList.take off ++ (a.eval v).cells.toList ++ cur.toList.drop (off + (a.eval v).cells.toList.length)).toArray.toList, c.oneCell' = true := by
          intro c hc
          simp only [List.mem_append] at hc
          rcases hc with (hc | hc) | hc
          · exact hone c (List.mem_of_mem_take hc)
          · exact c3 hall c hc
          · exact hone c (List.mem_of_mem_drop hc)
        obtain ⟨hev, hmat⟩ := put_own hm hO hh hsize (us := putAt off (ρ v').cells vs) hone' g' (Nat.le_refl _) (by rw [hsame]; exact RepL.ext hx1 _ _ (by simpa using hrep)) (getElemLt hid)
        rw [hsame] at hev hmat
        refine wpIn_skip' hF (by simp [hop]) hrun ?_
        have := hK undef _ O hev
        simp only [sv, hxa, hid] at this
        exact this hmat (by simp [Rep]) (fun j hj => hj)
      · exact hok.elim
    · exact hok.elim
  case call c =>
    split at hr
    · rename_i hcal
      split at hr
      · rename_i x y t u hargs htys
        simp only [Option.bind_eq_bind, Option.bind_eq_some_iff] at hr
        obtain ⟨e, he, es, hes, e', he', hr⟩ := hr
        split at hr
        · rename_i hc
          simp only [Option.bind_eq_some_iff, Option.pure_def, Option.some.injEq] at hr
          obtain ⟨x', hx, y', hy, rfl⟩ := hr
          have ha : c.args = #[x, y] := by rw [← hargs]
          have ht : c.argTypes = #[t, u] := by rw [← htys]
          have r1 := hρ x (by simp [Call.operands, ha]) _ _ hx
          have r2 := hρ y (by simp [Call.operands, ha]) _ _ hy
          simp only [sv] at hok hK
          split at hok
          · rename_i id g off len es' us k hxa hnews
            rw [hxa] at r1
            split at hok
            · rename_i g' cs hid
              obtain ⟨rfl, rfl, rfl, hcl, hfit⟩ := hok
              simp only [hxa, hnews, hid] at hK
              simp only [Rep] at r1
              obtain ⟨_, gO, ob, hO, hle, hrr⟩ := r1
              have hb := hm.blk id gO ob hO
              rw [hid] at hb
              simp only [BlkOk] at hb
              have hgg := hb.1
              subst hgg
              obtain ⟨news, hn, hrn, hln, hlv, hone, ay, capy, hcy⟩ := first_run (P := P) hm r2 hnews
              obtain ⟨i, z, hi, hzz, hch, hzs⟩ := zOk_zero hc.2.1
              obtain ⟨z1, z2, z3⟩ := zChk_ok _ _ hch S w O
              have hies : i.size = es' := by simpa [szB, hi] using hes
              have hze : z.cells.size = es' := by rw [hes] at hzs; exact (Option.some.inj hzs).symm
              have hes0 : 0 < es' := Nat.pos_of_ne_zero hc.1
              have hbt : i.bytes ≤ 65536 := by have := hc.2.2; simpa [bytesOk, hi] using this
              rw [hcy] at hn
              have hidlt := getElemLt hid
              -- where a new row is made
              have grown : ∀ (a0 : Option Addr) (cap : Nat) (olds : List Value), (∀ w1 : World, w1.heap = w.heap → (Builtin.firstCells i.size len (.slice a0 len cap)).run P w1 = .ok olds.toArray w1) →
                  a.eval x = .slice a0 len cap → cap < len + k → RepL S w O cs olds → olds.length = len * es' → (∀ c ∈ olds, c.oneCell' = true) → o.wpIn F n P a w K Q' := by
                intro a0 cap olds ho hcx hcap hro hlo hone0
                have hrun := run_grow (P := P) (elB_und he) (elB_und he') hi hzz (ty := o.type) (w := w) ho (by rw [hies]; exact hn) hcap hfit hbt
                have hgc := grownCap_ge w (len + k) cap e
                obtain ⟨cells, hcells⟩ : ∃ cells, cells = olds.toArray ++ news.toArray ++ Builtin.zeroCells z.cells (grownCap w (len + k) cap e - (len + k)) := ⟨_, rfl⟩
                rw [← hcells] at hrun
                have hnew := heap_alloc_new w.drew (.cells cells e)
                have hnew' : (w.drew.alloc (.cells cells e)).heap[w.heap.size]? = some (.cells cells e (0, 0)) := hnew
                have hcl' : cells.toList = olds ++ news ++ (Builtin.zeroCells z.cells (grownCap w (len + k) cap e - (len + k))).toList := by rw [hcells]; simp
                obtain ⟨hev, hmat⟩ := renew_own (w' := w.drew.alloc (.cells cells e)) hm hO hidlt (us := cs ++ us) (ob' := some w.heap.size) rfl rfl rfl (by simp) (fun a => (frozen_alloc w.drew cells e a).trans (frozen_heap rfl a))
                  (fun j hj => heap_alloc_old w.drew _ hj) (fun b hb => by cases hb; exact ⟨Nat.le_refl _, by simp⟩)
                  (fun O' hx => by
                    simp only [BlkOk]
                    refine ⟨trivial, cells, e, hnew', ?_, ?_⟩
                    · rw [hcl']
                      exact RepL.more _ _ _ (RepL.append _ _ _ _ (RepL.ext hx _ _ hro) (by omega) (RepL.ext hx _ _ hrn))
                    · rw [hcl']
                      intro c hc
                      simp only [List.mem_append] at hc
                      rcases hc with (hc | hc) | hc
                      · exact hone0 c hc
                      · exact hone c hc
                      · exact zeroCells_one z2 (by omega) _ c hc)
                refine wpIn_value hF (by simp [hop]) (by simp only [execOp, hop, resolve, hcal, ha, ht, List.map_toArray, List.map_cons, List.map_nil, Sem.run_bind, Sem.run_pure, Result.andThen_ok, invoke, builtin, hcx, hcy, hrun]; rfl) (hK _ _ _ hev hmat ?_ (none_upd hO))
                simp only [Rep]
                refine ⟨rfl, g' + 1, some w.heap.size, by simp [updO], Nat.le_refl _, fun _ => .inl ⟨w.heap.size, _, cells, e, rfl, hnew', rfl, hgc, ?_⟩⟩
                rw [← Array.length_toList, hcl']
                simp only [List.length_append, hlo, hln, Array.length_toList, size_zeroCells, hze, ← Nat.add_mul]
                rw [Nat.zero_add]
                exact Nat.mul_le_mul_right _ (by omega)
              rcases hrr rfl with ⟨b, cap, cur', e2, rfl, hh', hcx, hlc, hsz⟩ | ⟨rfl, rfl, a0, hcx⟩
              · obtain ⟨cur, e3, hh, hrl, hone1⟩ := hb.2
                have heq : cur' = cur ∧ e2 = e3 := by rw [hh] at hh'; simp at hh'; exact ⟨hh'.1.symm, hh'.2.symm⟩
                obtain ⟨rfl, rfl⟩ := heq
                have hvl := RepL.length _ _ hrl
                simp only [Array.length_toList] at hvl
                by_cases hroom : len + k ≤ cap
                · have hmul : (len + k) * es' ≤ cap * es' := Nat.mul_le_mul_right _ hroom
                  rw [Nat.add_mul] at hmul
                  have hrun := run_room (P := P) (elB_und he) (elB_und he') hi (ty := o.type) (w := w) (sLen := len) (sCap := cap) hh (by rw [hies]; exact hn) hone hroom (by rw [hies]; omega)
                  rw [hies] at hrun
                  obtain ⟨new, hnw⟩ : ∃ new, new = (cur'.toList.take (len * es') ++ news ++ cur'.toList.drop (len * es' + news.length)).toArray := ⟨_, rfl⟩
                  rw [← hnw] at hrun
                  have hnl : new.toList = cur'.toList.take (len * es') ++ news ++ cur'.toList.drop (len * es' + news.length) := by rw [hnw]
                  have hsize : new.size = cur'.size := by rw [← Array.length_toList, hnl]; simp; omega
                  have hx1 : Ext S S w (w.setRow b new) O (updO O id (g' + 1, some b)) := by
                    refine ⟨fun j hj => ⟨hj, setRow_other w b j _ (by rintro rfl; exact (hm.own id _ j hO).2 hj)⟩, fun j g2 ob hj => ?_⟩
                    by_cases hji : j = id
                    · subst hji
                      rw [hO] at hj
                      cases hj
                      exact ⟨g' + 1, some b, by simp [updO], by omega, fun h => by omega⟩
                    · refine ⟨g2, ob, by simp [updO, hji, hj], Nat.le_refl _, fun _ => ⟨rfl, fun b' cu' e' hb' hh' => ⟨cu', ?_, rfl⟩⟩⟩
                      rw [setRow_other w b b' _ (by rintro rfl; subst hb'; exact hji (hm.inj j id _ _ _ hj hO))]
                      exact hh'
                  obtain ⟨hev, hmat⟩ := put_own hm hO hh hsize (us := cs ++ us) (by
                      rw [hnl]
                      intro c hc
                      simp only [List.mem_append] at hc
                      rcases hc with (hc | hc) | hc
                      · exact hone1 c (List.mem_of_mem_take hc)
                      · exact hone c hc
                      · exact hone1 c (List.mem_of_mem_drop hc)) (g' + 1) (by omega) (by
                      rw [hnl]
                      exact RepL.more _ _ _ (RepL.append _ _ _ _ (RepL.ext hx1 _ _ (RepL.take_both _ _ _ hrl (by omega))) (by simp; omega) (RepL.ext hx1 _ _ hrn))) hidlt
                  refine wpIn_value hF (by simp [hop]) (by simp only [execOp, hop, resolve, hcal, ha, ht, List.map_toArray, List.map_cons, List.map_nil, Sem.run_bind, Sem.run_pure, Result.andThen_ok, invoke, builtin, hcx, hcy, hrun]; rfl) (hK _ _ _ hev hmat ?_ (none_upd hO))
                  simp only [Rep]
                  exact ⟨rfl, g' + 1, some b, by simp [updO], Nat.le_refl _, fun _ => .inl ⟨b, cap, new, e2, rfl, setRow_heap w b cur' _ e2 _ hh, rfl, hroom, by omega⟩⟩
                · refine grown _ cap (cur'.toList.take (len * es')) ?_ hcx (by omega) (RepL.take_both _ _ _ hrl (by omega)) (by simp; omega) (fun c hc => hone1 c (List.mem_of_mem_take hc))
                  intro w1 hw1
                  have hl := run_loadCells_at (P := P) (w := w1) (b := b) (off := 0) (by rw [hw1]; exact hh) (len * es') (by simp; omega)
                  simpa [Builtin.firstCells, hies] using hl
              · have hcs : cs = [] := hb.2
                subst hcs
                by_cases hk : k = 0
                · subst hk
                  have hus : us = [] := List.eq_nil_of_length_eq_zero (by simpa using hlv)
                  subst hus
                  have hnw : news = [] := List.eq_nil_of_length_eq_zero (by simpa using hln)
                  subst hnw
                  have hrun : (Builtin.append_ #[t, u] o.type #[.slice a0 0 0, .slice ay 0 capy]).run P w = .ok (.slice a0 0 0) w := by
                    have := hn w rfl
                    rw [← hies] at this
                    cases a0 <;> simp [Builtin.append_, run_underlying (elB_und he), run_underlying (elB_und he'), sizeOf, typeInfo, hi, Builtin.lenOf, this, storeCells]
                  obtain ⟨hev, hmat⟩ := renew_own (w' := w) hm hO hidlt (us := []) (ob' := none) rfl rfl rfl (Nat.le_refl _) (fun _ => rfl) (fun _ _ => rfl) (fun b hb => by cases hb) (fun O' _ => by simp [BlkOk])
                  refine wpIn_value (w' := w) (c := .slice a0 0 0) hF (by simp [hop]) (by simp [execOp, hop, resolve, hcal, ha, ht, invoke, builtin, hcx, hcy, hrun]) (hK _ _ _ hev hmat ?_ (none_upd hO))
                  simp only [Rep]
                  exact ⟨rfl, g' + 1, none, by simp [updO], Nat.le_refl _, fun _ => .inr ⟨rfl, trivial, a0, rfl⟩⟩
                · refine grown a0 0 [] ?_ hcx (by omega) (by simp [RepL]) (by simp) (by simp)
                  intro w1 _
                  cases a0 <;> simp [Builtin.firstCells, loadCells, loadCellsFrom]
            · exact hok.elim
          · exact hok.elim
        · cases hr
      · cases hr
    · cases hr
  case makeMap t r =>
    cases r with
    | some r => simp at hr
    | none =>
      simp only [Option.bind_eq_bind, Option.bind_eq_some_iff, Option.pure_def, Option.some.injEq] at hr
      obtain ⟨⟨kt, et⟩, hmap, rfl⟩ := hr
      simp [sv] at hok
  case range t y =>
    simp only [Option.bind_eq_bind, Option.bind_eq_some_iff, Option.pure_def, Option.some.injEq] at hr
    obtain ⟨⟨kt, et⟩, hmap, y', hy, rfl⟩ := hr
    simp [sv] at hok
  case mapUpdate t m k v =>
    simp only [Option.bind_eq_bind, Option.bind_eq_some_iff, Option.pure_def, Option.some.injEq] at hr
    obtain ⟨⟨kt, et⟩, hmap, m', hm1, k', hk1, v', hv1, rfl⟩ := hr
    exact upd t m k v kt et hmap m' k' v' (hρ.1 _ _ hm1) (hρ.2.1 _ _ hk1) (hρ.2.2 _ _ hv1) rfl (by simp [hop]) (fun w' h => by simp only [execOp, hop, h, Sem.run_bind, Result.andThen_ok, Sem.run_pure])
  case insert t m k v =>
    simp only [Option.bind_eq_bind, Option.bind_eq_some_iff, Option.pure_def, Option.some.injEq] at hr
    obtain ⟨⟨kt, et⟩, hmap, m', hm1, k', hk1, v', hv1, rfl⟩ := hr
    exact upd t m k v kt et hmap m' k' v' (hρ.1 _ _ hm1) (hρ.2.1 _ _ hk1) (hρ.2.2 _ _ hv1) rfl (by simp [hop]) (fun w' h => by simp only [execOp, hop, h, Sem.run_bind, Result.andThen_ok, Sem.run_pure])
  case mapEntry t m k =>
    simp only [Option.bind_eq_bind, Option.bind_eq_some_iff] at hr
    obtain ⟨⟨kt, et⟩, hmap, hr⟩ := hr
    simp only at hr
    split at hr
    · rename_i hzz
      simp only [Bool.and_eq_true] at hzz
      simp only [Option.bind_eq_some_iff, Option.pure_def, Option.some.injEq] at hr
      obtain ⟨m', hm1, k', hk1, rfl⟩ := hr
      have r1 := hρ.1 _ _ hm1
      have r2 := hρ.2 _ _ hk1
      obtain ⟨z, hz1, hz2⟩ := zE_rep hzz.1 hzz.2
      simp only [sv] at hok hK
      split at hok
      · rename_i id g s l hxv hkv
        rw [hxv] at r1
        obtain ⟨hkc, hkl⟩ := keyL_rep hkv r2
        split at hok
        · rename_i st ks vs hid
          obtain ⟨b, es, hO, hc, hb, hes, hvs, hvl, hnd, hst1⟩ := mp_block hm r1 hid hok.1
          obtain ⟨hKI, rfl, rfl⟩ := keyIs_of hok.2 rfl hkl hst1
          obtain ⟨es', v, hrun, hes', hcase⟩ := mapEntry_run (mapB_und hmap) hKI hb hes hz1
          simp only [hxv, hkv, hid] at hK
          obtain ⟨hev, hmat⟩ := put_obj hm hO (o' := .map es' es'.size) hb rfl rfl (getElemLt hid) (x := .map (!isI64 P kt) (putK ks l) (if l ∈ ks then vs else vs ++ [zE P et])) fun hx hnew => by
            refine ⟨rfl, b, es', rfl, hnew, hes', ?_, ?_, putK_nodup hnd, putK_one hkl hst1⟩
            · rcases hcase with ⟨h1, _, h2⟩ | ⟨h1, _, h2⟩
              · rw [if_pos h1, h2]; exact RepL.ext hx _ _ hvs
              · rw [if_neg h1, h2]; exact RepL.append _ _ _ _ (RepL.ext hx _ _ hvs) (by simp [hvl, mapEs_len hes]) (by simp only [RepL]; exact ⟨hz2 _ _ _, trivial⟩)
            · by_cases h1 : l ∈ ks <;> simp [putK, h1, hvl]
          refine wpIn_value (c := .tuple #[v, .int .i64 (ks.idxOf l)]) (w' := w.putObj b (.map es' es'.size)) hF (by simp [hop]) (by simp only [execOp, hop, hc, hkc, hrun, Sem.run_bind, Result.andThen_ok, Sem.run_pure]) (hK _ _ O hev hmat ?_ fun j hj => hj)
          simp only [Rep, RepL]
          refine ⟨_, rfl, rfl, ?_, rfl, trivial⟩
          rcases hcase with ⟨h1, ⟨e, he, rfl⟩, _⟩ | ⟨h1, rfl, _⟩
          · obtain ⟨v', hv', hr'⟩ := val_get hvs he (by rw [hvl, mapEs_len hes])
            rw [hv']; exact Rep.ext hev.ext _ _ hr'
          · rw [List.getElem?_eq_none (by rw [hvl, List.idxOf_eq_length h1]; exact Nat.le_refl _)]
            exact hz2 _ _ _
        · exact hok.elim
      · exact hok.elim
    · cases hr
  case entryStore t m s' v =>
    simp only [Option.bind_eq_bind, Option.bind_eq_some_iff, Option.pure_def, Option.some.injEq] at hr
    obtain ⟨⟨kt, et⟩, hmap, m', hm1, s1, hs1, v', hv1, rfl⟩ := hr
    have r1 := hρ.1 _ _ hm1
    have r2 := hρ.2.1 _ _ hs1
    have r3 := hρ.2.2 _ _ hv1
    simp only [sv] at hok hK
    split at hok
    · rename_i id g i hxv hsv
      rw [hxv] at r1
      rw [hsv] at r2
      split at hok
      · rename_i st ks vs hid
        obtain ⟨hg0, h0, hi⟩ := hok
        obtain ⟨b, es, hO, hc, hb, hes, hvs, hvl, hnd, hst1⟩ := mp_block hm r1 hid hg0
        have hlen := mapEs_len hes
        have hrun := entryStore_run (P := P) (t := t) hb hes h0 (by omega) (a.eval v)
        simp only [hxv, hsv, hid] at hK
        have hset := es_put hes (i := i.toNat) (by omega) (a.eval v)
        obtain ⟨hev, hmat⟩ := put_obj hm hO (o' := .map (es.modify i.toNat fun e => { e with val := a.eval v }) es.size) hb rfl rfl (getElemLt hid) (x := .map st ks (vs.set i.toNat (ρ v'))) fun hx hnew => by
          refine ⟨rfl, b, _, rfl, by rw [hnew]; simp, hset.1, ?_, by simp [hvl], hnd, hst1⟩
          rw [hset.2]
          exact RepL.set _ _ _ _ _ (RepL.ext hx _ _ hvs) (Rep.ext hx _ _ r3)
        refine wpIn_skip' hF (by simp [hop]) (by simp only [execOp, hop, hc, rep_i r2, hrun, Sem.run_bind, Result.andThen_ok, Sem.run_pure]) (hK undef _ O hev hmat (by simp [Rep]) fun j hj => hj)
      · exact hok.elim
    · exact hok.elim
end
end Go.Fam
