import Derived.Test.YthnjkbahffgemaaGreatG0
set_option linter.all false
namespace Go.Fam
def updO (O : OInfo) (id : Nat) (x : Nat × Option Nat) : OInfo := fun k => if k = id then some x else O k
inductive W where
 | alc (zc : List V) | bxo (x : Od) | bso (es n : Nat) (zc : List V) (parts : List (Nat × Nat × Od)) | mks (es : Nat) (zc : List V) (l c : Od)
 | st (n : Nat) (a x : Od) | app (es : Nat) (x y : Od) | cpy (es : Nat) (x y : Od)
 | mkm (st : Bool) | rng (x : Od) | mup (kt : TypeId) (sk : Bool) (m k v : Od) | men (kt : TypeId) (sk : Bool) (zc : V) (m k : Od) | mes (m s v : Od)
def W.ods : W → List Od
 | .alc _ => []
 | .bxo x => [x]
 | .bso _ _ _ ps => ps.map (·.2.2)
 | .mks _ _ l c => [l, c]
 | .st _ a x => [a, x]
 | .app _ x y => [x, y]
 | .cpy _ x y => [x, y]
 | .mkm _ => []
 | .rng x => [x]
 | .mup _ _ m k v => [m, k, v]
 | .men _ _ _ m k => [m, k]
 | .mes m s v => [m, s, v]
def newsV (hp : List Blk) (es : Nat) (y : V) : Option (List V × Nat) :=
 match y with
 | .z _ => some ([], 0)
 | .sl es' rows => if es' = es then some (rows.flatten, rows.length) else none
 | .rf id g off len es' => match hp[id]? with
  | some (.cells g' vs) => if g' = g ∧ es' = es ∧ off + len * es ≤ vs.length then some ((vs.drop off).take (len * es), len) else none
  | _ => none
 | _ => none
def fitsLen (n : Nat) : Prop := n ≤ 2147483648
def nv (hp : List Blk) (q : W) (ρ : Od → V) : Option (Prop × Blk × (Nat → V)) :=
 match q with
 | .alc zc => some (True, .cells 0 zc, fun id => .ad id 0 0)
 | .bxo x => some (solid (ρ x) = true ∧ (ρ x).cells.all cellOk = true, .cells 0 (ρ x).cells, fun id => .ad id 0 0)
 | .bso es n zc ps =>
  let vs := ps.map fun p => (p.1, p.2.1, ρ p.2.2)
  some (partsOk (n * es) vs ∧ partsOne vs, .cells 0 (foldParts vs (List.replicate n zc).flatten), fun id => .rf id 0 0 n es)
 | .mks es zc l c => match ρ l, ρ c with
  | .i l, .i c => some (0 ≤ l ∧ l ≤ c ∧ c ≤ 2147483648, .cells 0 (List.replicate l.toNat zc).flatten, fun id => .rf id 0 0 l.toNat es)
  | _, _ => none
 | .app es x y => match ρ x, newsV hp es (ρ y) with
  | .z _, some (vs, n) => some (fitsLen n, .cells 0 vs, fun id => .rf id 0 0 n es)
  | .sx es' rows, some (vs, n) => some (es' = es ∧ 0 < n ∧ fitsLen (rows.length + n), .cells 0 (rows.flatten ++ vs), fun id => .rf id 0 0 (rows.length + n) es)
  | _, _ => none
 | .mkm st => some (True, .map st [] [], fun id => .mp id 0)
 | .rng x => match ρ x with
  | .mp id g => match hp[id]? with
   | some (.map _ ks _) => some (g = 0, .iter id ks.length (List.range ks.length) none, fun i => .it i 0)
   | _ => none
  | _ => none
 | _ => none
def sv (E : TypeId → Nat → Prop) (hp : List Blk) (q : W) (ρ : Od → V) : Prop × V × Option (Nat × Blk) :=
 match q with
 | .st n a x => match ρ a with
  | .ad id g off => match hp[id]? with
   | some (.cells g' vs) => (g' = g ∧ off + n ≤ vs.length ∧ (ρ x).cells.length = n ∧ solid (ρ x) = true ∧ (ρ x).cells.all cellOk = true, .u, some (id, .cells g (putAt off (ρ x).cells vs)))
   | _ => (False, .u, none)
  | _ => (False, .u, none)
 | .app es x y => match ρ x, newsV hp es (ρ y) with
  | .rf id g off len es', some (vs, n) => match hp[id]? with
   | some (.cells g' cs) => (g' = g ∧ es' = es ∧ off = 0 ∧ cs.length = len * es ∧ fitsLen (len + n), .rf id (g + 1) 0 (len + n) es, some (id, .cells (g + 1) (cs ++ vs)))
   | _ => (False, .u, none)
  | _, _ => (False, .u, none)
 | .cpy es x y => match ρ x, newsV hp es (ρ y) with
  | .rf id g off len es', some (vs, n) => match hp[id]? with
   | some (.cells g' cs) => (g' = g ∧ es' = es ∧ off + len * es ≤ cs.length, .i (min n len : Nat), some (id, .cells g (putAt off (vs.take (min n len * es)) cs)))
   | _ => (False, .u, none)
  | _, _ => (False, .u, none)
 | .mup kt sk m k v => match ρ m, keyL (ρ k) with
  | .mp id g, some (s, l) => match hp[id]? with
   | some (.map st ks vs) => (g = 0 ∧ keyFits E kt sk st ks s l, .u, some (id, .map st (putK ks l) (putVs ks vs l (ρ v))))
   | _ => (False, .u, none)
  | _, _ => (False, .u, none)
 | .men kt sk zc m k => match ρ m, keyL (ρ k) with
  | .mp id g, some (s, l) => match hp[id]? with
   | some (.map st ks vs) => (g = 0 ∧ keyFits E kt sk st ks s l, .tp [(vs[ks.idxOf l]?).getD zc, .i (ks.idxOf l)], some (id, .map st (putK ks l) (if l ∈ ks then vs else vs ++ [zc])))
   | _ => (False, .u, none)
  | _, _ => (False, .u, none)
 | .mes m s v => match ρ m, ρ s with
  | .mp id g, .i i => match hp[id]? with
   | some (.map st ks vs) => (g = 0 ∧ 0 ≤ i ∧ i < ks.length, .u, some (id, .map st ks (vs.set i.toNat (ρ v))))
   | _ => (False, .u, none)
  | _, _ => (False, .u, none)
 | _ => (False, .u, none)
def putB (hp : List Blk) : Option (Nat × Blk) → List Blk
 | none => hp
 | some (id, b) => hp.set id b
def bytesOk (P : Program) (t : TypeId) : Bool := match P.info? t with | some i => decide (i.bytes ≤ 65536) | none => false
def resW (P : Program) (o : Oper) : Option W :=
 match o.op with
 | .alloc t => if zOk P t then some (.alc (zV P 9 t)) else none
 | .box t x => (rOd P t x).map .bxo
 | .buildSlice t n ps => do
  let e ← elB P t
  let es ← szB P e
  if es ≠ 0 ∧ n * es ≤ 16777216 ∧ zOk P e = true then do return .bso es n (zV P 9 e) (← rParts P (fun i => some (i * es, es, e)) ps.toList) else none
 | .makeSlice t l c => do
  let e ← elB P t
  let es ← szB P e
  if es ≠ 0 ∧ zOk P e = true ∧ bytesOk P e = true then do return .mks es (zV P 9 e) (← rOd P 0 l) (← rOd P 0 c) else none
 | .store t a x => do return .st (← szB P t) (← rOd P 0 a) (← rOd P t x)
 | .call c => match c.callee with
  | .builtin .append => match c.args.toList, c.argTypes.toList with
   | [x, y], [t, u] => do
    let e ← elB P t
    let es ← szB P e
    let _ ← elB P u
    if es ≠ 0 ∧ zOk P e = true ∧ bytesOk P e = true then do return .app es (← rOd P t x) (← rOd P u y) else none
   | _, _ => none
  | .builtin .copy => match c.args.toList, c.argTypes.toList with
   | [x, y], [t, u] => do
    let e ← elB P t
    let es ← szB P e
    return .cpy es (← rOd P t x) (← rOd P u y)
   | _, _ => none
  | _ => none
 | .makeMap t none => do
  let (kt, _) ← mapB P t
  return .mkm (!isI64 P kt)
 | .range t x => do
  let _ ← mapB P t
  return .rng (← rOd P t x)
 | .mapUpdate t m k v | .insert t m k v => do
  let (kt, et) ← mapB P t
  return .mup kt (!isI64 P kt) (← rOd P t m) (← rOd P kt k) (← rOd P et v)
 | .mapEntry t m k => do
  let (kt, et) ← mapB P t
  if zOk P et && zShape P et then return .men kt (!isI64 P kt) (zE P et) (← rOd P t m) (← rOd P kt k) else none
 | .entryStore t m s v => do
  let (_, et) ← mapB P t
  return .mes (← rOd P t m) (← rOd P 0 s) (← rOd P et v)
 | _ => none
section
variable {P : Program} {F : Fence} {n : Nat}
theorem ext_new {S : Nat → Prop} {w : World} {O : OInfo} {hp : List Blk} (hm : Mat S w O hp) {id : Nat} (hO : O id = none) (w' : World) (hold : ∀ k, k < w.heap.size → w'.heap[k]? = w.heap[k]?) (x : Nat × Option Nat) :
  Ext S S w w' O (updO O id x) := by
 refine ⟨fun k hk => ⟨hk, hold k (hm.lt k hk)⟩, fun j g ob hj => ⟨g, ob, ?_, Nat.le_refl _, fun _ => ⟨rfl, fun b cur e hb hh => ⟨cur, (hold b (by subst hb; exact (hm.own j g b hj).1)).trans hh, rfl⟩⟩⟩⟩
 unfold updO
 rw [if_neg (by rintro rfl; rw [hO] at hj; cases hj)]
 exact hj
theorem new_obj {S : Nat → Prop} {w w1 : World} {O : OInfo} {hp : List Blk} (hm : Mat S w O hp) {id : Nat} (hO : O id = none) {x : Blk} (hid : hp[id]? = some x)
  (h1 : w1.heap = w.heap) (h2 : w1.os = w.os) (h3 : w1.tape = w.tape) (h4 : w1.output = w.output) {o : Obj} (hfz : ∀ a, (w1.alloc o).frozen? a = w1.frozen? a)
  (hok : ∀ O', Ext S S w (w1.alloc o) O O' → (w1.alloc o).heap[w.heap.size]? = some o → BlkOk S (w1.alloc o) O' 0 (some w.heap.size) (some x)) :
  Evol S S w (w1.alloc o) O (updO O id (0, some w.heap.size)) ∧ Mat S (w1.alloc o) (updO O id (0, some w.heap.size)) hp ∧
   (w1.alloc o).heap[w.heap.size]? = some o := by
 have hsz : w1.heap.size = w.heap.size := by rw [h1]
 have hnew : (w1.alloc o).heap[w.heap.size]? = some o := by rw [← hsz]; exact heap_alloc_new w1 _
 have hold : ∀ k, k < w.heap.size → (w1.alloc o).heap[k]? = w.heap[k]? := fun k hk => (heap_alloc_old w1 _ (by omega)).trans (by rw [h1])
 have hx := ext_new hm hO (w1.alloc o) hold (0, some w.heap.size)
 have hcase : ∀ j g ob, updO O id (0, some w.heap.size) j = some (g, ob) → (j = id ∧ g = 0 ∧ ob = some w.heap.size) ∨ (j ≠ id ∧ O j = some (g, ob)) := by
  intro j g ob h
  unfold updO at h
  split at h
  ·rename_i hj; left; simp at h; exact ⟨hj, h.1.symm, h.2.symm⟩
  ·rename_i hj; exact .inr ⟨hj, h⟩
 refine ⟨⟨hx, h2, h3, h4, by simp [hsz], fun a _ => (hfz a).trans (frozen_heap h1 a), fun k hk _ => hold k hk, ?_, fun k hk => .inl hk⟩, ⟨?_, ?_, ?_, ?_⟩, hnew⟩
 ·rintro k ⟨j, g, hj⟩
  rcases hcase j g _ hj with ⟨_, _, h⟩ | ⟨_, h⟩
  ·cases h; exact .inr (Nat.le_refl _)
  ·exact .inl ⟨j, g, h⟩
 ·intro k hk; have := hm.lt k hk; simp [hsz]; omega
 ·intro j g b hj
  rcases hcase j g _ hj with ⟨_, _, h⟩ | ⟨_, h⟩
  ·cases h; exact ⟨by simp [hsz], fun hS => by have := hm.lt _ hS; omega⟩
  ·have := hm.own j g b h; exact ⟨by simp [hsz]; omega, this.2⟩
 ·intro j j' g g' b hj hj'
  rcases hcase j g _ hj with ⟨h0, _, h⟩ | ⟨h0, h⟩ <;> rcases hcase j' g' _ hj' with ⟨h0', _, h'⟩ | ⟨h0', h'⟩
  ·omega
  ·cases h; have := (hm.own j' g' _ h').1; omega
  ·cases h'; have := (hm.own j g _ h).1; omega
  ·exact hm.inj j j' g g' b h h'
 ·intro j g ob hj
  rcases hcase j g _ hj with ⟨rfl, rfl, rfl⟩ | ⟨h0, h⟩
  ·rw [hid]
   exact hok _ hx hnew
  ·exact (hm.blk j g ob h).ext hx fun b hb => hold b (hm.own j g b (by rw [h, hb])).1
theorem new_own {S : Nat → Prop} {w w1 : World} {O : OInfo} {hp : List Blk} (hm : Mat S w O hp) {id : Nat} (hO : O id = none) {vs : List V} (hid : hp[id]? = some (.cells 0 vs))
  (h1 : w1.heap = w.heap) (h2 : w1.os = w.os) (h3 : w1.tape = w.tape) (h4 : w1.output = w.output) {cells : Array Value} {e : TypeId} (hr : RepL S w O vs cells.toList) (hone : ∀ c ∈ cells.toList, c.oneCell' = true) :
  Evol S S w (w1.alloc (.cells cells e)) O (updO O id (0, some w.heap.size)) ∧ Mat S (w1.alloc (.cells cells e)) (updO O id (0, some w.heap.size)) hp ∧
   (w1.alloc (.cells cells e)).heap[w.heap.size]? = some (.cells cells e (0, 0)) :=
 new_obj hm hO hid h1 h2 h3 h4 (fun a => frozen_alloc w1 cells e a) fun O' hx hnew => ⟨rfl, cells, e, hnew, RepL.ext hx _ _ hr, hone⟩
theorem frozen_alloc_other (w : World) (o : Obj) (ho : o.isCells = false) (a : Addr) : (w.alloc o).frozen? a = w.frozen? a := by
 by_cases h : a.block = w.heap.size
 ·have h1 : (w.alloc o).heap[a.block]? = some o := by rw [h]; exact heap_alloc_new w _
  have h2 : w.heap[a.block]? = none := by rw [h]; simp
  simp only [World.frozen?, h1, h2]
  cases o <;> first | rfl | (simp [Obj.isCells] at ho)
 ·simp only [World.frozen?, heap_alloc_past' w _ h]
theorem put_obj {S : Nat → Prop} {w : World} {O : OInfo} {hp : List Blk} (hm : Mat S w O hp) {id g b : Nat} (hO : O id = some (g, some b)) {o o' : Obj} (hb : w.heap[b]? = some o) (hc : o.isCells = false) (hc' : o'.isCells = false)
  (hlt : id < hp.length) {x : Blk} (hok : Ext S S w (w.putObj b o') O O → (w.putObj b o').heap[b]? = some o' → BlkOk S (w.putObj b o') O g (some b) (some x)) :
  Evol S S w (w.putObj b o') O O ∧ Mat S (w.putObj b o') O (hp.set id x) := by
 have hbl : b < w.heap.size := (Array.getElem?_eq_some_iff.1 hb).1
 have hnew : (w.putObj b o').heap[b]? = some o' := World.putObj_heap_same hbl
 have hoth : ∀ k, k ≠ b → (w.putObj b o').heap[k]? = w.heap[k]? := fun k hk => World.putObj_heap_other hk
 have hfz : ∀ a, (w.putObj b o').frozen? a = w.frozen? a := by
  intro a
  by_cases h : a.block = b
  ·simp only [World.frozen?, h, hnew, hb]
   cases o <;> cases o' <;> first | rfl | (simp [Obj.isCells] at hc; done) | (simp [Obj.isCells] at hc'; done)
  ·simp only [World.frozen?, hoth _ h]
 have hx : Ext S S w (w.putObj b o') O O := by
  refine ⟨fun k hk => ⟨hk, hoth k (by rintro rfl; exact (hm.own id g k hO).2 hk)⟩, fun j g2 ob hj => ⟨g2, ob, hj, Nat.le_refl _, fun _ => ⟨rfl, fun b' cur' e' hb' hh => ⟨cur', ?_, rfl⟩⟩⟩⟩
  rw [hoth b' (by rintro rfl; rw [hb] at hh; cases hh; simp [Obj.isCells] at hc)]
  exact hh
 refine ⟨⟨hx, rfl, rfl, rfl, by simp, fun a _ => hfz a, fun k hk hno => hoth k (by rintro rfl; exact hno ⟨id, g, hO⟩), fun k h => .inl h, fun k hk => .inl hk⟩, ⟨?_, ?_, hm.inj, ?_⟩⟩
 ·intro k hk; simpa using hm.lt k hk
 ·intro j g2 b' hj; simpa using hm.own j g2 b' hj
 ·intro j g2 ob hj
  by_cases h0 : j = id
  ·subst h0
   rw [hO] at hj; cases hj
   rw [List.getElem?_set_self hlt]
   exact hok hx hnew
  ·rw [List.getElem?_set_ne (Ne.symm h0)]
   refine (hm.blk j g2 ob hj).ext hx fun b' hb' => hoth b' ?_
   rintro rfl
   exact h0 (hm.inj j id _ _ _ (by rw [hj, hb']) hO)
theorem put_own {S : Nat → Prop} {w : World} {O : OInfo} {hp : List Blk} (hm : Mat S w O hp) {id g b : Nat} (hO : O id = some (g, some b)) {cur new : Array Value} {e : TypeId} (hb : w.heap[b]? = some (.cells cur e (0, 0)))
  (hsz : new.size = cur.size) {us : List V} (hone : ∀ c ∈ new.toList, c.oneCell' = true) (g' : Nat) (hg : g ≤ g')
  (hr : RepL S (w.setRow b new) (updO O id (g', some b)) us new.toList) (hlt : id < hp.length) :
  Evol S S w (w.setRow b new) O (updO O id (g', some b)) ∧ Mat S (w.setRow b new) (updO O id (g', some b)) (hp.set id (.cells g' us)) := by
 have hnew : (w.setRow b new).heap[b]? = some (.cells new e (0, 0)) := setRow_heap w b cur new e _ hb
 have hoth : ∀ k, k ≠ b → (w.setRow b new).heap[k]? = w.heap[k]? := fun k hk => setRow_other w b k new hk
 have hfz : ∀ a, (w.setRow b new).frozen? a = w.frozen? a := by
  intro a
  by_cases h : a.block = b
  ·simp [World.frozen?, h, hnew, hb]
  ·simp only [World.frozen?, hoth _ h]
 have hnb : ∀ k, S k → k ≠ b := fun k hk h => by subst h; exact (hm.own id g k hO).2 hk
 have hcase : ∀ j g2 ob, updO O id (g', some b) j = some (g2, ob) → (j = id ∧ g2 = g' ∧ ob = some b) ∨ (j ≠ id ∧ O j = some (g2, ob)) := by
  intro j g2 ob h
  unfold updO at h
  split at h
  ·rename_i hj; left; simp at h; exact ⟨hj, h.1.symm, h.2.symm⟩
  ·rename_i hj; exact .inr ⟨hj, h⟩
 have hx : Ext S S w (w.setRow b new) O (updO O id (g', some b)) := by
  refine ⟨fun k hk => ⟨hk, hoth k (hnb k hk)⟩, fun j g2 ob hj => ?_⟩
  by_cases hji : j = id
  ·subst hji
   rw [hO] at hj
   cases hj
   refine ⟨g', some b, by simp [updO], hg, fun _ => ⟨rfl, fun b' cur' e' hb' hh => ?_⟩⟩
   cases hb'
   rw [hb] at hh
   cases hh
   exact ⟨new, hnew, hsz⟩
  ·refine ⟨g2, ob, by simp [updO, hji, hj], Nat.le_refl _, fun _ => ⟨rfl, fun b' cur' e' hb' hh => ⟨cur', ?_, rfl⟩⟩⟩
   rw [hoth b' (by rintro rfl; subst hb'; exact hji (hm.inj j id g2 g _ hj hO))]
   exact hh
 refine ⟨⟨hx, rfl, rfl, rfl, by simp, fun a _ => hfz a, fun k hk hno => hoth k (by rintro rfl; exact hno ⟨id, g, hO⟩), ?_, fun k hk => .inl hk⟩, ⟨?_, ?_, ?_, ?_⟩⟩
 ·rintro k ⟨j, g2, hj⟩
  rcases hcase j g2 _ hj with ⟨_, _, h⟩ | ⟨_, h⟩
  ·cases h; exact .inl ⟨id, g, hO⟩
  ·exact .inl ⟨j, g2, h⟩
 ·intro k hk; simpa using hm.lt k hk
 ·intro j g2 b' hj
  rcases hcase j g2 _ hj with ⟨_, _, h⟩ | ⟨_, h⟩
  ·cases h; simpa using hm.own id g b hO
  ·simpa using hm.own j g2 b' h
 ·intro j j' g2 g2' b' hj hj'
  rcases hcase j g2 _ hj with ⟨h0, _, h⟩ | ⟨h0, h⟩ <;> rcases hcase j' g2' _ hj' with ⟨h0', _, h'⟩ | ⟨h0', h'⟩
  ·omega
  ·cases h; exact absurd (hm.inj j' id _ _ _ h' hO) h0'
  ·cases h'; exact absurd (hm.inj j id _ _ _ h hO) h0
  ·exact hm.inj j j' _ _ b' h h'
 ·intro j g2 ob hj
  rcases hcase j g2 _ hj with ⟨rfl, rfl, rfl⟩ | ⟨h0, h⟩
  ·simp only [List.getElem?_set_self hlt, BlkOk]
   exact ⟨trivial, new, e, hnew, hr, hone⟩
  ·rw [List.getElem?_set_ne (Ne.symm h0)]
   refine (hm.blk j g2 ob h).ext hx fun b' hb' => hoth b' ?_
   rintro rfl
   exact h0 (hm.inj j id _ _ _ (by rw [h, hb']) hO)
theorem first_run {S : Nat → Prop} {w : World} {O : OInfo} {hp : List Blk} (hm : Mat S w O hp) {es : Nat} {y : V} {cy : Value} (hy : Rep S w O y cy) {vs : List V} {k : Nat} (hn : newsV hp es y = some (vs, k)) :
  ∃ news : List Value, (∀ w1 : World, w1.heap = w.heap → (Builtin.firstCells es k cy).run P w1 = .ok news.toArray w1) ∧ RepL S w O vs news ∧ news.length = k * es ∧ vs.length = k * es ∧ (∀ c ∈ news, c.oneCell' = true) ∧
   (∃ a cap, cy = .slice a k cap) := by
 cases y <;> first | (simp [newsV] at hn; done) | skip
 case z es' =>
  simp [newsV] at hn
  obtain ⟨rfl, rfl⟩ := hn
  simp only [Rep] at hy
  obtain ⟨a, rfl⟩ := hy
  refine ⟨[], fun w1 _ => ?_, by simp [RepL], by simp, by simp, by simp, a, 0, rfl⟩
  cases a <;> simp [Builtin.firstCells, loadCells, loadCellsFrom]
 case sl es' rows =>
  simp only [newsV] at hn
  split at hn
  ·rename_i he
   subst he
   simp only [Option.some.injEq, Prod.mk.injEq] at hn
   obtain ⟨rfl, rfl⟩ := hn
   simp only [Rep] at hy
   obtain ⟨a, cap, rfl, hcap, hr⟩ := hy
   rcases hr with rfl | ⟨blk, off, cur, e, fr, rfl, hS, hh, hrow⟩
   ·refine ⟨[], fun w1 _ => ?_, by simp [RepL], by simp, by simp, by simp, a, cap, rfl⟩
    cases a <;> simp [Builtin.firstCells, loadCells, loadCellsFrom]
   ·obtain ⟨⟨h1, h1'⟩, h2⟩ := RepRows.flat _ _ hrow
    have hl := RepL.length _ _ h1
    rw [h2] at hl
    refine ⟨(cur.toList.drop off).take (rows.length * es'), fun w1 hw1 => ?_, ?_, by rw [List.length_take, Nat.min_eq_left hl], h2, h1', _, cap, rfl⟩
    ·simp only [Builtin.firstCells]
     exact run_loadCells_at (by rw [hw1]; exact hh) _ (by omega)
    ·exact RepL.ext (S := S) (O := noO) (w := w) ⟨fun _ h => ⟨h, rfl⟩, fun _ _ _ h => by cases h⟩ _ _ (RepL.take_both _ _ _ h1 (by omega))
  ·cases hn
 case rf id g off len es' =>
  simp only [newsV] at hn
  split at hn
  ·rename_i g' us hid
   split at hn
   ·rename_i hc
    obtain ⟨rfl, rfl, hfit⟩ := hc
    simp only [Option.some.injEq, Prod.mk.injEq] at hn
    obtain ⟨rfl, rfl⟩ := hn
    simp only [Rep] at hy
    obtain ⟨_, gO, ob, hO, hle, hr⟩ := hy
    have hb := hm.blk id gO ob hO
    rw [hid] at hb
    simp only [BlkOk] at hb
    rcases hr hb.1 with ⟨b, cap, cur', e', rfl, hh', rfl, hlc, hsz⟩ | ⟨rfl, rfl, a, rfl⟩
    ·obtain ⟨cur, e, hh, hrl, h1⟩ := hb.2
     have hd := hrl.drop off
     have hl := RepL.length _ _ hd
     have hkl : len * es' ≤ (us.drop off).length := by simp; omega
     refine ⟨(cur.toList.drop off).take (len * es'), fun w1 hw1 => ?_, ?_, by simp at hl hkl ⊢; omega, by simp at hkl ⊢; omega, fun c hc => h1 c (List.mem_of_mem_drop (List.mem_of_mem_take hc)), _, cap, rfl⟩
     ·simp only [Builtin.firstCells]
      exact run_loadCells_at (by rw [hw1]; exact hh) _ (by omega)
     ·exact RepL.take_both _ _ _ (hd.take _) (by simp; omega)
    ·refine ⟨[], fun w1 _ => ?_, by simp [RepL], by simp, by simp, by simp, a, 0, rfl⟩
     cases a <;> simp [Builtin.firstCells, loadCells, loadCellsFrom]
   ·cases hn
  ·cases hn
theorem first_run_le {S : Nat → Prop} {w : World} {O : OInfo} {hp : List Blk} (hm : Mat S w O hp) {es : Nat} {y : V} {cy : Value} (hy : Rep S w O y cy) {vs : List V} {k : Nat} (hn : newsV hp es y = some (vs, k)) :
  ∃ news : List Value, (∀ w1 : World, w1.heap = w.heap → ∀ m, m ≤ k → (Builtin.firstCells es m cy).run P w1 = .ok (news.take (m * es)).toArray w1) ∧ RepL S w O vs news ∧ news.length = k * es ∧ vs.length = k * es ∧ (∀ c ∈ news, c.oneCell' = true) ∧
   (∃ a cap, cy = .slice a k cap) := by
 cases y <;> first | (simp [newsV] at hn; done) | skip
 case z es' =>
  simp [newsV] at hn
  obtain ⟨rfl, rfl⟩ := hn
  simp only [Rep] at hy
  obtain ⟨a, rfl⟩ := hy
  refine ⟨[], fun w1 _ m hmk => ?_, by simp [RepL], by simp, by simp, by simp, a, 0, rfl⟩
  obtain rfl : m = 0 := by omega
  cases a <;> simp [Builtin.firstCells, loadCells, loadCellsFrom]
 case sl es' rows =>
  simp only [newsV] at hn
  split at hn
  ·rename_i he
   subst he
   simp only [Option.some.injEq, Prod.mk.injEq] at hn
   obtain ⟨rfl, rfl⟩ := hn
   simp only [Rep] at hy
   obtain ⟨a, cap, rfl, hcap, hr⟩ := hy
   rcases hr with rfl | ⟨blk, off, cur, e, fr, rfl, hS, hh, hrow⟩
   ·refine ⟨[], fun w1 _ m hmk => ?_, by simp [RepL], by simp, by simp, by simp, a, cap, rfl⟩
    obtain rfl : m = 0 := by simpa using hmk
    cases a <;> simp [Builtin.firstCells, loadCells, loadCellsFrom]
   ·obtain ⟨⟨h1, h1'⟩, h2⟩ := RepRows.flat _ _ hrow
    have hl := RepL.length _ _ h1
    rw [h2] at hl
    refine ⟨(cur.toList.drop off).take (rows.length * es'), fun w1 hw1 m hmk => ?_, ?_, by rw [List.length_take, Nat.min_eq_left hl], h2, h1', _, cap, rfl⟩
    ·simp only [Builtin.firstCells]
     have hml : m * es' ≤ rows.length * es' := Nat.mul_le_mul_right _ hmk
     rw [List.take_take, Nat.min_eq_left hml]
     exact run_loadCells_at (by rw [hw1]; exact hh) _ (by omega)
    ·exact RepL.ext (S := S) (O := noO) (w := w) ⟨fun _ h => ⟨h, rfl⟩, fun _ _ _ h => by cases h⟩ _ _ (RepL.take_both _ _ _ h1 (by omega))
  ·cases hn
 case rf id g off len es' =>
  simp only [newsV] at hn
  split at hn
  ·rename_i g' us hid
   split at hn
   ·rename_i hc
    obtain ⟨rfl, rfl, hfit⟩ := hc
    simp only [Option.some.injEq, Prod.mk.injEq] at hn
    obtain ⟨rfl, rfl⟩ := hn
    simp only [Rep] at hy
    obtain ⟨_, gO, ob, hO, hle, hr⟩ := hy
    have hb := hm.blk id gO ob hO
    rw [hid] at hb
    simp only [BlkOk] at hb
    rcases hr hb.1 with ⟨b, cap, cur', e', rfl, hh', rfl, hlc, hsz⟩ | ⟨rfl, rfl, a, rfl⟩
    ·obtain ⟨cur, e, hh, hrl, h1⟩ := hb.2
     have hd := hrl.drop off
     have hl := RepL.length _ _ hd
     have hkl : len * es' ≤ (us.drop off).length := by simp; omega
     refine ⟨(cur.toList.drop off).take (len * es'), fun w1 hw1 m hmk => ?_, ?_, by simp at hl hkl ⊢; omega, by simp at hkl ⊢; omega, fun c hc => h1 c (List.mem_of_mem_drop (List.mem_of_mem_take hc)), _, cap, rfl⟩
     ·simp only [Builtin.firstCells]
      have hml : m * es' ≤ len * es' := Nat.mul_le_mul_right _ hmk
      rw [List.take_take, Nat.min_eq_left hml]
      exact run_loadCells_at (by rw [hw1]; exact hh) _ (by omega)
     ·exact RepL.take_both _ _ _ (hd.take _) (by simp; omega)
    ·refine ⟨[], fun w1 _ m hmk => ?_, by simp [RepL], by simp, by simp, by simp, a, 0, rfl⟩
     obtain rfl : m = 0 := by omega
     cases a <;> simp [Builtin.firstCells, loadCells, loadCellsFrom]
   ·cases hn
  ·cases hn
theorem run_grow {t u e e' : TypeId} {i : TypeInfo} {z : Value} (ht : P.underlying t = some (.slice e)) (hu : P.underlying u = some (.slice e')) (hi : P.info? e = some i) (hz : i.zero = some z) {ty : TypeId}
  {w : World} {a c : Option Addr} {sLen sCap k cap : Nat} {olds news : List Value}
  (ho : ∀ w1 : World, w1.heap = w.heap → (Builtin.firstCells i.size sLen (.slice a sLen sCap)).run P w1 = .ok olds.toArray w1)
  (hn : ∀ w1 : World, w1.heap = w.heap → (Builtin.firstCells i.size k (.slice c k cap)).run P w1 = .ok news.toArray w1)
  (hg : sCap < sLen + k) (hfit : sLen + k ≤ 2147483648) (hb : i.bytes ≤ 65536) :
  (Builtin.append_ #[t, u] ty #[.slice a sLen sCap, .slice c k cap]).run P w =
   .ok (.slice (some ⟨w.heap.size, 0, none⟩) (sLen + k) (grownCap w (sLen + k) sCap e))
    (w.drew.alloc (.cells (olds.toArray ++ news.toArray ++ Builtin.zeroCells z.cells (grownCap w (sLen + k) sCap e - (sLen + k))) e)) := by
 have hnot : ¬ (sLen + k ≤ sCap) := by omega
 have h63' : ¬ (9223372036854775807 < ((sLen : Int) + (k : Int))) := by omega
 have hbb : (sLen + k) * i.bytes ≤ 140737488355328 := Nat.le_trans (Nat.mul_le_mul hfit hb) (by decide)
 have hnx := growslice_fits (old := sCap) hg hbb
 have h48' : ¬ (281474976710656 < Builtin.nextslicecap (sLen + k) sCap * i.bytes) := by omega
 have ho' := ho w.drew rfl
 have hn' := hn w.drew rfl
 simp [Builtin.append_, run_underlying ht, run_underlying hu, sizeOf, typeInfo, zeroValue, hi, hz, Builtin.lenOf, hnot, h63', h48', Question.forced, ho', hn', newRow, grownCap]
 congr 2
 apply Array.ext'
 simp [List.append_assoc]
theorem run_room {t u e e' : TypeId} {i : TypeInfo} (ht : P.underlying t = some (.slice e)) (hu : P.underlying u = some (.slice e')) (hi : P.info? e = some i) {ty : TypeId}
  {w : World} {g sLen sCap k cap : Nat} {c : Option Addr} {cur : Array Value} {eb : TypeId} {news : List Value} (hb : w.heap[g]? = some (.cells cur eb (0, 0)))
  (hn : ∀ w1 : World, w1.heap = w.heap → (Builtin.firstCells i.size k (.slice c k cap)).run P w1 = .ok news.toArray w1)
  (h1 : ∀ x ∈ news, x.oneCell' = true) (hroom : sLen + k ≤ sCap) (hfit : sLen * i.size + news.length ≤ cur.size) :
  (Builtin.append_ #[t, u] ty #[.slice (some ⟨g, 0, none⟩) sLen sCap, .slice c k cap]).run P w =
   .ok (.slice (some ⟨g, 0, none⟩) (sLen + k) sCap) (w.setRow g (cur.toList.take (sLen * i.size) ++ news ++ cur.toList.drop (sLen * i.size + news.length)).toArray) := by
 have hn' := hn w rfl
 have hst := run_storeCells_at P g (sLen * i.size) eb news 0 cur w hb (by simpa using hfit) h1
 simp only [Nat.add_zero] at hst
 have hadd : (⟨g, 0, none⟩ : Addr).add (sLen * i.size) = ⟨g, sLen * i.size, none⟩ := by unfold Addr.add; split <;> simp_all
 simp [Builtin.append_, run_underlying ht, run_underlying hu, sizeOf, typeInfo, hi, Builtin.lenOf, hroom, hn', hadd, hst]
theorem virt_own {S : Nat → Prop} {w w1 : World} {O : OInfo} {hp : List Blk} (hm : Mat S w O hp) {id : Nat} (hO : O id = none) (hid : hp[id]? = some (.cells 0 [])) (h1 : w1 = w) :
  Evol S S w w1 O (updO O id (0, none)) ∧ Mat S w1 (updO O id (0, none)) hp := by
 subst h1
 have hx := ext_new hm hO w1 (fun _ _ => rfl) (0, none)
 have hcase : ∀ j g ob, updO O id (0, none) j = some (g, ob) → (j = id ∧ g = 0 ∧ ob = none) ∨ (j ≠ id ∧ O j = some (g, ob)) := by
  intro j g ob h
  unfold updO at h
  split at h
  ·rename_i hj; left; simp at h; exact ⟨hj, h.1.symm, h.2.symm⟩
  ·rename_i hj; exact .inr ⟨hj, h⟩
 have hown : ∀ j g b, updO O id (0, none) j = some (g, some b) → O j = some (g, some b) := by
  intro j g b h
  rcases hcase j g _ h with ⟨_, _, h'⟩ | ⟨_, h'⟩
  ·cases h'
  ·exact h'
 refine ⟨⟨hx, rfl, rfl, rfl, Nat.le_refl _, fun _ _ => rfl, fun _ _ _ => rfl, fun k ⟨j, g, h⟩ => .inl ⟨j, g, hown j g k h⟩, fun _ h => .inl h⟩, ⟨hm.lt, fun j g b h => hm.own j g b (hown _ _ _ h), fun j j' g g' b h h' => hm.inj j j' g g' b (hown _ _ _ h) (hown _ _ _ h'), ?_⟩⟩
 intro j g ob h
 rcases hcase j g _ h with ⟨rfl, rfl, rfl⟩ | ⟨_, h'⟩
 ·rw [hid]; exact ⟨rfl, rfl⟩
 ·exact (hm.blk j g ob h').ext hx fun _ _ => rfl
theorem rep_ad_new {S : Nat → Prop} {w : World} {O : OInfo} {id b off : Nat} : Rep S w (updO O id (0, some b)) (.ad id 0 off) (.pointer (some ⟨b, off, none⟩)) := by
 simp only [Rep]
 exact ⟨rfl, 0, some b, by simp [updO], Nat.le_refl _, fun _ => ⟨b, rfl, rfl⟩⟩
theorem updO_ne {O : OInfo} {id j : Nat} {x : Nat × Option Nat} (h : j ≠ id) : updO O id x j = O j := by simp [updO, h]
theorem zero_run {t : TypeId} {i : TypeInfo} {z : Value} (hi : P.info? t = some i) (hz : i.zero = some z) (w : World) : (zeroValue t).run P w = .ok z w := by simp [zeroValue, typeInfo, hi, hz]
theorem zeroCells_one {z : Value} (h : ∀ c ∈ z.cells.toList, c.oneCell' = true) (hz : 0 < z.cells.size) (k : Nat) : ∀ c ∈ (Builtin.zeroCells z.cells k).toList, c.oneCell' = true := by
 unfold Builtin.zeroCells
 rw [range_rep _ hz]
 intro c hc
 rw [List.mem_flatten] at hc
 obtain ⟨l, hl, hc⟩ := hc
 rw [List.eq_of_mem_replicate hl] at hc
 exact h c hc
theorem n_sound (hF : OpenF F) {o : Oper} {q : W} (hr : resW P o = some q) {S : Nat → Prop} {w : World} {O : OInfo} {hp0 hp : List Blk} (hm0 : Mat S w O hp0) (hm : Mat S w O hp)
  {a : Act} {ρ : Od → V} (hρ : OdsOk P S w O ρ a.eval o) {ok : Prop} {x : Blk} {mk : Nat → V} (hv : nv hp0 q ρ = some (ok, x, mk)) (hok : ok) {id : Nat} (hO : O id = none) (hid : hp[id]? = some x)
  {K : Act → World → Prop} {Q' : Exit → Act → World → Prop}
  (hK : ∀ c w' O', Evol S S w w' O O' → Mat S w' O' hp → Rep S w' O' (mk id) c → (∀ j, j ≠ id → O' j = O j) → K (a.put o.dst c) w') : o.wpIn F n P a w K Q' := by
 unfold resW at hr
 unfold OdsOk at hρ
 have fin : ∀ (vs : List V) (w1 : World) (cells : Array Value) (e : TypeId) (c : Value), x = .cells 0 vs → w1.heap = w.heap → w1.os = w.os → w1.tape = w.tape → w1.output = w.output → RepL S w O vs cells.toList → (∀ c ∈ cells.toList, c.oneCell' = true) →
   (∀ d, o.op ≠ .defer d) → (execOp a.eval o).run P w = .ok (.value c) (w1.alloc (.cells cells e)) →
   ((w1.alloc (.cells cells e)).heap[w.heap.size]? = some (.cells cells e (0, 0)) → Rep S (w1.alloc (.cells cells e)) (updO O id (0, some w.heap.size)) (mk id) c) → o.wpIn F n P a w K Q' := by
  intro vs w1 cells e c hxx h1 h2 h3 h4 hrr hone hd hrun hrep
  obtain ⟨hev, hmat, hnew⟩ := new_own hm hO (by rw [hid, hxx]) h1 h2 h3 h4 hrr hone (e := e)
  exact wpIn_value hF hd hrun (hK c _ _ hev hmat (hrep hnew) fun j hj => updO_ne hj)
 cases hop : o.op <;> rw [hop] at hr hρ <;> simp only [Op.operands, List.mem_toArray, List.mem_cons, List.not_mem_nil, or_false, forall_eq_or_imp, forall_eq] at hρ <;>
  first | (simp at hr; done) | (try dsimp only at hr)
 case alloc t =>
  split at hr
  ·rename_i hz
   simp only [Option.some.injEq] at hr
   subst hr
   simp only [nv, Option.some.injEq, Prod.mk.injEq] at hv
   obtain ⟨rfl, rfl, rfl⟩ := hv
   obtain ⟨i, z, hi, hzz, hch, _⟩ := zOk_zero hz
   obtain ⟨z1, z2, _⟩ := zChk_ok _ _ hch S w O
   exact fin _ w z.cells t (.pointer (some ⟨w.heap.size, 0, none⟩)) rfl rfl rfl rfl rfl z1 z2 (by simp [hop])
    (by simp [execOp, hop, Instr.alloc, zero_run hi hzz, newVar, newRow]) (fun _ => rep_ad_new)
  ·cases hr
 case box t x =>
  simp only [Option.map_eq_some_iff] at hr
  obtain ⟨x', hx, rfl⟩ := hr
  simp only [nv, Option.some.injEq, Prod.mk.injEq] at hv
  obtain ⟨rfl, rfl, rfl⟩ := hv
  obtain ⟨c1, c2, c3⟩ := cells_rep (hρ _ _ hx) hok.1
  exact fin _ w (a.eval x).cells t (.pointer (some ⟨w.heap.size, 0, none⟩)) rfl rfl rfl rfl rfl c1 (c3 hok.2) (by simp [hop])
   (by simp [execOp, hop, Instr.box, newVar, newRow]) (fun _ => rep_ad_new)
 case buildSlice t k ps =>
  simp only [Option.bind_eq_bind, Option.bind_eq_some_iff] at hr
  obtain ⟨e, he, es, hes, hr⟩ := hr
  split at hr
  ·rename_i hc
   simp only [Option.bind_eq_some_iff, Option.pure_def, Option.some.injEq] at hr
   obtain ⟨ods, hods, rfl⟩ := hr
   simp only [nv, Option.some.injEq, Prod.mk.injEq] at hv
   obtain ⟨rfl, rfl, rfl⟩ := hv
   have hpp := rParts_rep ps.toList ods hods (fun x hx => hρ x (by simpa using hx))
   simp only [Option.map_some] at hpp
   obtain ⟨cells, hrun, hc1, hc2, hc3, hc4⟩ := bsl_run (P := P) (k := k) (elB_und he) hes hc.1 hc.2.1 hc.2.2 (ps := ps.map fun p => (p.1, a.eval p.2)) (by simpa using hpp) hok.1 hok.2
   refine fin _ w cells e (.slice (some ⟨w.heap.size, 0, none⟩) k k) rfl rfl rfl rfl rfl hc2 hc4 (by simp [hop]) (by simp [execOp, hop, hrun]) (fun hnew => ?_)
   simp only [Rep]
   exact ⟨rfl, 0, some w.heap.size, by simp [updO], Nat.le_refl _, fun _ => .inl ⟨w.heap.size, k, cells, e, rfl, hnew, rfl, Nat.le_refl _, by omega⟩⟩
  ·cases hr
 case makeSlice t l c =>
  simp only [Option.bind_eq_bind, Option.bind_eq_some_iff] at hr
  obtain ⟨e, he, es, hes, hr⟩ := hr
  split at hr
  ·rename_i hc
   simp only [Option.bind_eq_some_iff, Option.pure_def, Option.some.injEq] at hr
   obtain ⟨l', hl, c', hcc, rfl⟩ := hr
   have r1 := hρ.1 _ _ hl
   have r2 := hρ.2 _ _ hcc
   simp only [nv] at hv
   split at hv
   ·rename_i li ci hli hci
    rw [hli] at r1
    rw [hci] at r2
    simp only [Option.some.injEq, Prod.mk.injEq] at hv
    obtain ⟨rfl, rfl, rfl⟩ := hv
    obtain ⟨h0, hlc, hcm⟩ := hok
    obtain ⟨i, z, hi, hzz, hch, hzs⟩ := zOk_zero hc.2.1
    obtain ⟨z1, z2, z3⟩ := zChk_ok _ _ hch S w O
    have hies : i.size = es := by simpa [szB, hi] using hes
    have hze : z.cells.size = es := by rw [hes] at hzs; exact (Option.some.inj hzs).symm
    have hes0 : 0 < es := Nat.pos_of_ne_zero hc.1
    have hbt : i.bytes ≤ 65536 := by have := hc.2.2; simpa [bytesOk, hi] using this
    have w1 : IntKind.i64.wrap li = li := wrap_in ⟨by omega, by omega⟩
    have w2 : IntKind.i64.wrap ci = ci := wrap_in ⟨by omega, by omega⟩
    have hbig : ∀ x : Int, 0 ≤ x → x ≤ 2147483648 → ¬ ((i.bytes : Int) * x > 2 ^ 48) := by
     intro x hx0 hx1
     have h1 : (i.bytes : Int) * x ≤ 65536 * 2147483648 := Int.mul_le_mul (by omega) hx1 hx0 (by omega)
     omega
    have hb2 := hbig ci (by omega) hcm
    have hci0 : ¬ ci < 0 := by omega
    have hli0 : ¬ li < 0 := by omega
    have hlc' : ¬ li > ci := by omega
    have hrange := range_rep z.cells (by omega) ci.toNat
    rw [hze] at hrange
    have hflat := RepL.flatten (S := S) (w := w) (O := O) z1 (by simpa using z3.symm) ci.toNat
    have hrun : (Instr.makeSlice t (.int .i64 li) (.int .i64 ci)).run P w = .ok (.slice (some ⟨w.heap.size, 0, none⟩) li.toNat ci.toNat) (w.alloc (.cells ((Array.range (ci.toNat * es)).map fun i => z.cells[i % es]!) e)) := by
     by_cases hz0 : ci.toNat * es = 0
     ·have hr0 : Array.range 0 = #[] := rfl
      simp only [Instr.makeSlice, Sem.run_bind, run_underlying (elB_und he), Result.andThen_ok, asInt, asIntOf, Sem.run_pure, typeInfo, run_program, hi, w1, w2, hci0, hli0, hlc', hb2, hz0]
      simp [run_sizeOf' hes, hz0, hr0, newRow]
     ·simp only [Instr.makeSlice, Sem.run_bind, run_underlying (elB_und he), Result.andThen_ok, asInt, asIntOf, Sem.run_pure, typeInfo, run_program, hi, w1, w2, hci0, hli0, hlc', hb2]
      simp [run_sizeOf' hes, hz0, zero_run hi hzz, hze, newRow]
    refine fin _ w ((Array.range (ci.toNat * es)).map fun i => z.cells[i % es]!) e (.slice (some ⟨w.heap.size, 0, none⟩) li.toNat ci.toNat) rfl rfl rfl rfl rfl ?_ ?_ (by simp [hop]) (by simp [execOp, hop, rep_i r1, rep_i r2, hrun]) (fun hnew => ?_)
    ·rw [hrange]
     have hsplit : List.replicate ci.toNat z.cells.toList = List.replicate li.toNat z.cells.toList ++ List.replicate (ci.toNat - li.toNat) z.cells.toList := by
      rw [List.replicate_append_replicate]; congr 1; omega
     rw [hsplit, List.flatten_append]
     exact RepL.more _ _ _ (RepL.flatten (S := S) (w := w) (O := O) z1 (by simpa using z3.symm) li.toNat).1
    ·rw [hrange]
     intro x hx
     rw [List.mem_flatten] at hx
     obtain ⟨l, hl, hx⟩ := hx
     rw [List.eq_of_mem_replicate hl] at hx
     exact z2 x hx
    ·simp only [Rep]
     exact ⟨rfl, 0, some w.heap.size, by simp [updO], Nat.le_refl _, fun _ => .inl ⟨w.heap.size, ci.toNat, _, e, rfl, hnew, rfl, by omega, by simp⟩⟩
   ·cases hv
  ·cases hr
 case store t x v =>
  simp only [Option.bind_eq_bind, Option.bind_eq_some_iff, Option.pure_def, Option.some.injEq] at hr
  obtain ⟨_, _, _, _, _, _, rfl⟩ := hr
  simp [nv] at hv
 case call c =>
  split at hr
  ·rename_i hcal
   split at hr
   ·rename_i x y t u hargs htys
    simp only [Option.bind_eq_bind, Option.bind_eq_some_iff] at hr
    obtain ⟨e, he, es, hes, e', he', hr⟩ := hr
    split at hr
    ·rename_i hc
     simp only [Option.bind_eq_some_iff, Option.pure_def, Option.some.injEq] at hr
     obtain ⟨x', hx, y', hy, rfl⟩ := hr
     have ha : c.args = #[x, y] := by rw [← hargs]
     have ht : c.argTypes = #[t, u] := by rw [← htys]
     have r1 := hρ x (by simp [Call.operands, ha]) _ _ hx
     have r2 := hρ y (by simp [Call.operands, ha]) _ _ hy
     simp only [nv] at hv
     split at hv
     ·rename_i z0 us k hz0 hnews
      simp only [Option.some.injEq, Prod.mk.injEq] at hv
      obtain ⟨rfl, rfl, rfl⟩ := hv
      rw [hz0] at r1
      simp only [Rep] at r1
      obtain ⟨ad, hcx⟩ := r1
      obtain ⟨news, hn, hrn, hln, hlv, hone, ay, capy, hcy⟩ := first_run (P := P) hm0 r2 hnews
      obtain ⟨i, z, hi, hzz, hch, hzs⟩ := zOk_zero hc.2.1
      obtain ⟨z1, z2, z3⟩ := zChk_ok _ _ hch S w O
      have hies : i.size = es := by simpa [szB, hi] using hes
      have hze : z.cells.size = es := by rw [hes] at hzs; exact (Option.some.inj hzs).symm
      have hes0 : 0 < es := Nat.pos_of_ne_zero hc.1
      have hbt : i.bytes ≤ 65536 := by have := hc.2.2; simpa [bytesOk, hi] using this
      rw [hcy] at hn
      by_cases hk : k = 0
      ·subst hk
       have hus : us = [] := List.eq_nil_of_length_eq_zero (by simpa using hlv)
       subst hus
       have hnw : news = [] := List.eq_nil_of_length_eq_zero (by simpa using hln)
       subst hnw
       obtain ⟨hev, hmat⟩ := virt_own hm hO hid rfl
       have hrun : (Builtin.append_ #[t, u] o.type #[.slice ad 0 0, .slice ay 0 capy]).run P w = .ok (.slice ad 0 0) w := by
        have := hn w rfl
        rw [← hies] at this
        cases ad <;> simp [Builtin.append_, run_underlying (elB_und he), run_underlying (elB_und he'), sizeOf, typeInfo, hi, Builtin.lenOf, this, storeCells]
       refine wpIn_value (w' := w) (c := .slice ad 0 0) hF (by simp [hop]) (by simp [execOp, hop, resolve, hcal, ha, ht, invoke, builtin, hcx, hcy, hrun]) (hK _ _ _ hev hmat ?_ fun j hj => updO_ne hj)
       simp only [Rep]
       exact ⟨rfl, 0, none, by simp [updO], Nat.le_refl _, fun _ => .inr ⟨rfl, trivial, ad, rfl⟩⟩
      ·have ho : ∀ w1 : World, w1.heap = w.heap → (Builtin.firstCells i.size 0 (.slice ad 0 0)).run P w1 = .ok ([] : List Value).toArray w1 := by
        intro w1 _
        cases ad <;> simp [Builtin.firstCells, loadCells, loadCellsFrom]
       have hrun := run_grow (P := P) (elB_und he) (elB_und he') hi hzz (ty := o.type) (w := w) (sCap := 0) ho (by rw [hies]; exact hn) (by omega) (by simpa [fitsLen] using hok) hbt
       simp only [Nat.zero_add, Array.empty_append] at hrun
       have hgc := grownCap_ge w k 0 e
       refine fin _ w.drew _ e _ rfl rfl rfl rfl rfl ?_ ?_ (by simp [hop]) (by simp only [execOp, hop, resolve, hcal, ha, ht, List.map_toArray, List.map_cons, List.map_nil, Sem.run_bind, Sem.run_pure, Result.andThen_ok, invoke, builtin, hcx, hcy, hrun]; rfl) (fun hnew => ?_)
       ·simp only [Array.toList_append]
        exact (RepL.more _ _ _ hrn)
       ·intro x hx
        simp only [Array.toList_append, List.mem_append] at hx
        rcases hx with hx | hx
        ·exact hone x (by simpa using hx)
        ·exact zeroCells_one z2 (by omega) _ x hx
       ·simp only [Rep]
        refine ⟨rfl, 0, some w.heap.size, by simp [updO], Nat.le_refl _, fun _ => .inl ⟨w.heap.size, _, _, e, rfl, hnew, rfl, hgc, ?_⟩⟩
        simp only [Array.size_append, List.size_toArray, size_zeroCells, hln, hze, ← Nat.add_mul]
        rw [Nat.zero_add]
        exact Nat.mul_le_mul_right _ (by omega)
     ·rename_i es1 rows us k hz0 hnews
      simp only [Option.some.injEq, Prod.mk.injEq] at hv
      obtain ⟨rfl, rfl, rfl⟩ := hv
      obtain ⟨rfl, hk, hfit⟩ := hok
      rw [hz0] at r1
      have r0 : Rep S w O (.sl es1 rows) (a.eval x) := by
       simp only [Rep] at r1 ⊢
       obtain ⟨ad, hcx, hr0⟩ := r1
       exact ⟨ad, _, hcx, Nat.le_refl _, hr0⟩
      simp only [Rep] at r1
      obtain ⟨ad, hcx, -⟩ := r1
      obtain ⟨olds, ho, hro, hlo, hlvo, hone0, ax, capx, hcx'⟩ := first_run (P := P) (es := es1) (k := rows.length) (vs := rows.flatten) hm0 r0 (by simp [newsV])
      obtain ⟨news, hn, hrn, hln, hlv, hone, ay, capy, hcy⟩ := first_run (P := P) hm0 r2 hnews
      obtain ⟨i, z, hi, hzz, hch, hzs⟩ := zOk_zero hc.2.1
      obtain ⟨z1, z2, z3⟩ := zChk_ok _ _ hch S w O
      have hies : i.size = es1 := by simpa [szB, hi] using hes
      have hze : z.cells.size = es1 := by rw [hes] at hzs; exact (Option.some.inj hzs).symm
      have hes0 : 0 < es1 := Nat.pos_of_ne_zero hc.1
      have hbt : i.bytes ≤ 65536 := by have := hc.2.2; simpa [bytesOk, hi] using this
      rw [hcy] at hn
      rw [hcx] at ho
      have hrun := run_grow (P := P) (elB_und he) (elB_und he') hi hzz (ty := o.type) (w := w) (sCap := rows.length) (by rw [hies]; exact ho) (by rw [hies]; exact hn) (by omega) (by simpa [fitsLen] using hfit) hbt
      have hgc := grownCap_ge w (rows.length + k) rows.length e
      refine fin _ w.drew _ e _ rfl rfl rfl rfl rfl ?_ ?_ (by simp [hop]) (by simp only [execOp, hop, resolve, hcal, ha, ht, List.map_toArray, List.map_cons, List.map_nil, Sem.run_bind, Sem.run_pure, Result.andThen_ok, invoke, builtin, hcx, hcy, hrun]; rfl) (fun hnew => ?_)
      ·simp only [Array.toList_append]
       exact (RepL.more _ _ _ (RepL.append _ _ _ _ hro (by omega) hrn))
      ·intro x hx
       simp only [Array.toList_append, List.mem_append] at hx
       rcases hx with (hx | hx) | hx
       ·exact hone0 x (by simpa using hx)
       ·exact hone x (by simpa using hx)
       ·exact zeroCells_one z2 (by omega) _ x hx
      ·simp only [Rep]
       refine ⟨rfl, 0, some w.heap.size, by simp [updO], Nat.le_refl _, fun _ => .inl ⟨w.heap.size, _, _, e, rfl, hnew, rfl, hgc, ?_⟩⟩
       simp only [Array.size_append, List.size_toArray, size_zeroCells, hlo, hln, hze, ← Nat.add_mul]
       rw [Nat.zero_add]
       exact Nat.mul_le_mul_right _ (by omega)
     ·cases hv
    ·cases hr
   ·cases hr
  ·split at hr
   ·simp only [Option.bind_eq_bind, Option.bind_eq_some_iff, Option.pure_def, Option.some.injEq] at hr
    obtain ⟨e, he, es, hes, x', hx, y', hy, rfl⟩ := hr
    simp [nv] at hv
   ·cases hr
  ·cases hr
 case makeMap t r =>
  cases r with
  | some r => simp at hr
  | none =>
   simp only [Option.bind_eq_bind, Option.bind_eq_some_iff, Option.pure_def, Option.some.injEq] at hr
   obtain ⟨⟨kt, et⟩, hmap, rfl⟩ := hr
   simp only [nv, Option.some.injEq, Prod.mk.injEq] at hv
   obtain ⟨rfl, rfl, rfl⟩ := hv
   obtain ⟨hev, hmat, hnew⟩ := new_obj (o := .map #[] 0) hm hO hid rfl rfl rfl rfl (frozen_alloc_other w _ rfl) fun O' hx hnew =>
    ⟨rfl, w.heap.size, #[], rfl, hnew, ⟨rfl, fun i e he => by simp at he⟩, by simp [RepL], rfl, List.nodup_nil, fun _ k hk => by cases hk⟩
   refine wpIn_value hF (by simp [hop]) (by simp [execOp, hop, Instr.makeMap]) (hK (.map (some w.heap.size)) _ _ hev hmat ?_ fun j hj => updO_ne hj)
   simp only [Rep]
   exact ⟨rfl, 0, some w.heap.size, by simp [updO], Nat.le_refl _, fun _ => ⟨_, rfl, rfl⟩⟩
 case range t y =>
  simp only [Option.bind_eq_bind, Option.bind_eq_some_iff, Option.pure_def, Option.some.injEq] at hr
  obtain ⟨⟨kt, et⟩, hmap, y', hy, rfl⟩ := hr
  have hu := mapB_und hmap
  have r1 := hρ _ _ hy
  simp only [nv] at hv
  split at hv
  ·rename_i mid g hyv
   rw [hyv] at r1
   split at hv
   ·rename_i st ks vs hmid
    simp only [Option.some.injEq, Prod.mk.injEq] at hv
    obtain ⟨rfl, rfl, rfl⟩ := hv
    obtain ⟨b, es, hOm, hc, hb, hes, _⟩ := mp_block hm0 r1 hmid hok
    have hlen := mapEs_len hes
    have hsz : b < w.heap.size := (Array.getElem?_eq_some_iff.1 hb).1
    obtain ⟨hev, hmat, hnew⟩ := new_obj (o := .mapIter (some b) ks.length #[] ks.length) hm hO hid rfl rfl rfl rfl (frozen_alloc_other w _ rfl) fun O' hx hnew => by
     refine ⟨rfl, w.heap.size, b, #[], rfl, hnew, ?_, List.nodup_range, fun j => by simp, fun j hj => by cases hj⟩
     have := Rep.ext hx _ _ (show Rep S w O (.mp mid g) (.map (some b)) by rw [← hc]; exact r1)
     rwa [hok] at this
    have hrun : (Instr.range t (.map (some b))).run P w = .ok (.pointer (some ⟨w.heap.size, 0, none⟩)) (w.alloc (.mapIter (some b) ks.length #[] ks.length)) := by
     have hg := run_getObj_map (P := P) (hb := hb)
     simp [Instr.range, run_underlying hu, hg, hlen]
    refine wpIn_value hF (by simp [hop]) (by simp only [execOp, hop, hc, hrun, Sem.run_bind, Result.andThen_ok, Sem.run_pure]) (hK (.pointer (some ⟨w.heap.size, 0, none⟩)) _ _ hev hmat ?_ fun j hj => updO_ne hj)
    simp only [Rep]
    exact ⟨rfl, 0, some w.heap.size, by simp [updO], Nat.le_refl _, fun _ => ⟨_, rfl, rfl⟩⟩
   ·cases hv
  ·cases hv
 case mapUpdate t m k v =>
  simp only [Option.bind_eq_bind, Option.bind_eq_some_iff, Option.pure_def, Option.some.injEq] at hr
  obtain ⟨_, _, _, _, _, _, _, _, rfl⟩ := hr
  simp [nv] at hv
 case insert t m k v =>
  simp only [Option.bind_eq_bind, Option.bind_eq_some_iff, Option.pure_def, Option.some.injEq] at hr
  obtain ⟨_, _, _, _, _, _, _, _, rfl⟩ := hr
  simp [nv] at hv
 case mapEntry t m k =>
  simp only [Option.bind_eq_bind, Option.bind_eq_some_iff] at hr
  obtain ⟨⟨kt, et⟩, hmap, hr⟩ := hr
  simp only at hr
  split at hr
  ·simp only [Option.bind_eq_some_iff, Option.pure_def, Option.some.injEq] at hr
   obtain ⟨_, _, _, _, rfl⟩ := hr
   simp [nv] at hv
  ·cases hr
 case entryStore t m s' v =>
  simp only [Option.bind_eq_bind, Option.bind_eq_some_iff, Option.pure_def, Option.some.injEq] at hr
  obtain ⟨_, _, _, _, _, _, _, _, rfl⟩ := hr
  simp [nv] at hv
theorem renew_own {S : Nat → Prop} {w w' : World} {O : OInfo} {hp : List Blk} (hm : Mat S w O hp) {id g : Nat} {ob : Option Nat} (hO : O id = some (g, ob)) (hlt : id < hp.length) {us : List V} {ob' : Option Nat}
  (h2 : w'.os = w.os) (h3 : w'.tape = w.tape) (h4 : w'.output = w.output) (hsz : w.heap.size ≤ w'.heap.size) (hfz : ∀ a, w'.frozen? a = w.frozen? a) (hold : ∀ k, k < w.heap.size → w'.heap[k]? = w.heap[k]?)
  (hnew : ∀ b, ob' = some b → w.heap.size ≤ b ∧ b < w'.heap.size)
  (hb : ∀ O', Ext S S w w' O O' → BlkOk S w' O' (g + 1) ob' (some (.cells (g + 1) us))) :
  Evol S S w w' O (updO O id (g + 1, ob')) ∧ Mat S w' (updO O id (g + 1, ob')) (hp.set id (.cells (g + 1) us)) := by
 have hcase : ∀ j g2 ob2, updO O id (g + 1, ob') j = some (g2, ob2) → (j = id ∧ g2 = g + 1 ∧ ob2 = ob') ∨ (j ≠ id ∧ O j = some (g2, ob2)) := by
  intro j g2 ob2 h
  unfold updO at h
  split at h
  ·rename_i hj; left; simp at h; exact ⟨hj, h.1.symm, h.2.symm⟩
  ·rename_i hj; exact .inr ⟨hj, h⟩
 have hx : Ext S S w w' O (updO O id (g + 1, ob')) := by
  refine ⟨fun k hk => ⟨hk, hold k (hm.lt k hk)⟩, fun j g2 ob2 hj => ?_⟩
  by_cases hji : j = id
  ·subst hji
   rw [hO] at hj
   cases hj
   exact ⟨g + 1, ob', by simp [updO], by omega, fun h => by omega⟩
  ·exact ⟨g2, ob2, by simp [updO, hji, hj], Nat.le_refl _, fun _ => ⟨rfl, fun b' cur' e' hb' hh => ⟨cur', (hold b' (by subst hb'; exact (hm.own j g2 b' hj).1)).trans hh, rfl⟩⟩⟩
 refine ⟨⟨hx, h2, h3, h4, hsz, fun a _ => hfz a, fun k hk _ => hold k hk, ?_, fun k hk => .inl hk⟩, ⟨?_, ?_, ?_, ?_⟩⟩
 ·rintro k ⟨j, g2, hj⟩
  rcases hcase j g2 _ hj with ⟨_, _, h⟩ | ⟨_, h⟩
  ·exact .inr (hnew k h.symm).1
  ·exact .inl ⟨j, g2, h⟩
 ·intro k hk; have := hm.lt k hk; omega
 ·intro j g2 b' hj
  rcases hcase j g2 _ hj with ⟨_, _, h⟩ | ⟨_, h⟩
  ·have := hnew b' h.symm; exact ⟨this.2, fun hS => by have := hm.lt _ hS; omega⟩
  ·have := hm.own j g2 b' h; exact ⟨by omega, this.2⟩
 ·intro j j' g2 g2' b' hj hj'
  rcases hcase j g2 _ hj with ⟨h0, _, h⟩ | ⟨h0, h⟩ <;> rcases hcase j' g2' _ hj' with ⟨h0', _, h'⟩ | ⟨h0', h'⟩
  ·omega
  ·have := hnew b' h.symm; have := (hm.own j' g2' _ h').1; omega
  ·have := hnew b' h'.symm; have := (hm.own j g2 _ h).1; omega
  ·exact hm.inj j j' _ _ b' h h'
 ·intro j g2 ob2 hj
  rcases hcase j g2 _ hj with ⟨rfl, rfl, rfl⟩ | ⟨h0, h⟩
  ·rw [List.getElem?_set_self hlt]
   exact hb _ hx
  ·rw [List.getElem?_set_ne (Ne.symm h0)]
   exact (hm.blk j g2 ob2 h).ext hx fun b' hb' => hold b' (hm.own j g2 b' (by rw [h, hb'])).1
theorem RepL.putAt' {S : Nat → Prop} {w : World} {O : OInfo} {vs ns : List V} {cs ms : List Value} (h : RepL S w O vs cs) (hn : RepL S w O ns ms) (hl : ms.length = ns.length) (off : Nat) (hoff : off + ns.length ≤ vs.length) :
  RepL S w O (Fam.putAt off ns vs) (cs.take off ++ ms ++ cs.drop (off + ms.length)) := by
 have hlen := RepL.length _ _ h
 unfold Fam.putAt
 refine RepL.append _ _ _ _ (RepL.append _ _ _ _ (RepL.take_both off _ _ (h.take off) (by simp; omega)) (by simp; omega) hn) (by simp; omega) ?_
 rw [hl]
 exact h.drop _
theorem getElemLt {α : Type} {l : List α} {i : Nat} {x : α} (h : l[i]? = some x) : i < l.length := (List.getElem?_eq_some_iff.1 h).1
theorem mat_app {S : Nat → Prop} {w : World} {O : OInfo} {hp : List Blk} (h : Mat S w O hp) (bs : List Blk) : Mat S w O (hp ++ bs) := by
 refine ⟨h.lt, h.own, h.inj, fun id g ob ho => ?_⟩
 have := h.blk id g ob ho
 have hlt : id < hp.length := by
  rcases Nat.lt_or_ge id hp.length with h' | h'
  ·exact h'
  ·rw [List.getElem?_eq_none h'] at this; exact this.elim
 rw [List.getElem?_append_left hlt]
 exact this
theorem mat_none {S : Nat → Prop} {w : World} {O : OInfo} {hp : List Blk} (h : Mat S w O hp) : O hp.length = none := by
 cases hO : O hp.length with
 | none => rfl
 | some x =>
  have := h.blk _ x.1 x.2 hO
  simp [BlkOk] at this
theorem mat_hole {S : Nat → Prop} {w : World} {O : OInfo} {hp : List Blk} (h : Mat S w O hp) {id : Nat} (hid : hp[id]? = some .hole) (b : Blk) : O id = none ∧ Mat S w O (hp.set id b) := by
 have hno : O id = none := by
  cases hO : O id with
  | none => rfl
  | some x =>
   have := h.blk _ x.1 x.2 hO
   rw [hid] at this
   exact this.elim
 refine ⟨hno, h.lt, h.own, h.inj, fun j g ob ho => ?_⟩
 rw [List.getElem?_set_ne (by rintro rfl; rw [hno] at ho; cases ho)]
 exact h.blk j g ob ho
theorem s_sound (hF : OpenF F) {o : Oper} {q : W} (hr : resW P o = some q) {S : Nat → Prop} {w : World} {O : OInfo} {hp : List Blk} (hm : Mat S w O hp)
  {a : Act} {ρ : Od → V} (hρ : OdsOk P S w O ρ a.eval o) (hok : (sv (EqFlat P) hp q ρ).1)
  {K : Act → World → Prop} {Q' : Exit → Act → World → Prop}
  (hK : ∀ c w' O', Evol S S w w' O O' → Mat S w' O' (putB hp (sv (EqFlat P) hp q ρ).2.2) → Rep S w' O' (sv (EqFlat P) hp q ρ).2.1 c → (∀ j, O j = none → O' j = none) → K (a.put o.dst c) w') : o.wpIn F n P a w K Q' := by
 unfold resW at hr
 unfold OdsOk at hρ
 have none_upd : ∀ {id g ob} {x : Nat × Option Nat}, O id = some (g, ob) → ∀ j, O j = none → updO O id x j = none := by
  intro id g ob x h j hj
  unfold updO
  rw [if_neg (by rintro rfl; rw [h] at hj; cases hj)]
  exact hj
 have upd : ∀ (t : TypeId) (m k v : Operand) (kt et : TypeId) (hmap : mapB P t = some (kt, et)) (m' k' v' : Od) (r1 : Rep S w O (ρ m') (a.eval m)) (r2 : Rep S w O (ρ k') (a.eval k)) (r3 : Rep S w O (ρ v') (a.eval v)),
   q = .mup kt (!isI64 P kt) m' k' v' → (∀ d, o.op ≠ .defer d) → (∀ w', (Instr.mapUpdate t (a.eval m) (a.eval k) (a.eval v)).run P w = .ok () w' → (execOp a.eval o).run P w = .ok .skip w') → o.wpIn F n P a w K Q' := by
  intro t m k v kt et hmap m' k' v' r1 r2 r3 hq hd hex
  subst hq
  simp only [sv] at hok hK
  split at hok
  ·rename_i id g s l hxv hkv
   rw [hxv] at r1
   obtain ⟨hkc, hkl⟩ := keyL_rep hkv r2
   split at hok
   ·rename_i st ks vs hid
    obtain ⟨b, es, hO, hc, hb, hes, hvs, hvl, hnd, hst1⟩ := mp_block hm r1 hid hok.1
    obtain ⟨hKI, rfl, rfl⟩ := keyIs_of hok.2 rfl hkl hst1
    obtain ⟨es', hrun, hes', hval⟩ := mapUpdate_run (mapB_und hmap) hKI hb hes (a.eval v)
    simp only [hxv, hkv, hid] at hK
    obtain ⟨hev, hmat⟩ := put_obj hm hO (o' := .map es' es'.size) hb rfl rfl (getElemLt hid) (x := .map (!isI64 P kt) (putK ks l) (putVs ks vs l (ρ v'))) fun hx hnew => by
     refine ⟨rfl, b, es', rfl, hnew, hes', ?_, ?_, putK_nodup hnd, putK_one hkl hst1⟩
     ·rw [hval]
      unfold putVs
      split
      ·exact RepL.set _ _ _ _ _ (RepL.ext hx _ _ hvs) (Rep.ext hx _ _ r3)
      ·exact RepL.append _ _ _ _ (RepL.ext hx _ _ hvs) (by simp [hvl, mapEs_len hes]) (by simp only [RepL]; exact ⟨Rep.ext hx _ _ r3, trivial⟩)
     ·by_cases h1 : l ∈ ks <;> simp [putK, putVs, h1, hvl]
    exact wpIn_skip' hF hd (hex _ (by rw [hc, hkc]; exact hrun)) (hK undef _ O hev hmat (by simp [Rep]) fun j hj => hj)
   ·exact hok.elim
  ·exact hok.elim
 cases hop : o.op <;> rw [hop] at hr hρ <;> simp only [Op.operands, List.mem_toArray, List.mem_cons, List.not_mem_nil, or_false, forall_eq_or_imp, forall_eq] at hρ <;>
  first | (simp at hr; done) | (try dsimp only at hr)
 case alloc t =>
  split at hr
  ·simp only [Option.some.injEq] at hr; subst hr; simp [sv] at hok
  ·cases hr
 case box t x =>
  simp only [Option.map_eq_some_iff] at hr
  obtain ⟨x', hx, rfl⟩ := hr
  simp [sv] at hok
 case buildSlice t k ps =>
  simp only [Option.bind_eq_bind, Option.bind_eq_some_iff] at hr
  obtain ⟨e, he, es, hes, hr⟩ := hr
  split at hr
  ·simp only [Option.bind_eq_some_iff, Option.pure_def, Option.some.injEq] at hr
   obtain ⟨ods, hods, rfl⟩ := hr
   simp [sv] at hok
  ·cases hr
 case makeSlice t l c =>
  simp only [Option.bind_eq_bind, Option.bind_eq_some_iff] at hr
  obtain ⟨e, he, es, hes, hr⟩ := hr
  split at hr
  ·simp only [Option.bind_eq_some_iff, Option.pure_def, Option.some.injEq] at hr
   obtain ⟨_, _, _, _, rfl⟩ := hr
   simp [sv] at hok
  ·cases hr
 case store t x v =>
  simp only [Option.bind_eq_bind, Option.bind_eq_some_iff, Option.pure_def, Option.some.injEq] at hr
  obtain ⟨sz, hsz, x', hx, v', hv, rfl⟩ := hr
  have r1 := hρ.1 _ _ hx
  have r2 := hρ.2 _ _ hv
  simp only [sv] at hok
  split at hok
  ·rename_i id g off hxa
   rw [hxa] at r1
   split at hok
   ·rename_i g' vs hid
    obtain ⟨rfl, hfit, hlen, hsol, hall⟩ := hok
    simp only [Rep] at r1
    obtain ⟨_, gO, ob, hO, hle, hrr⟩ := r1
    have hb := hm.blk id gO ob hO
    rw [hid] at hb
    simp only [BlkOk] at hb
    have hgg := hb.1
    subst hgg
    obtain ⟨b, rfl, hcx⟩ := hrr rfl
    obtain ⟨cur, e, hh, hrl, hone⟩ := hb.2
    obtain ⟨c1, c2, c3⟩ := cells_rep r2 hsol
    have hcl : cur.toList.length = cur.size := by simp
    have hvl := RepL.length _ _ hrl
    have hst := run_storeCells_at P b off e (a.eval v).cells.toList 0 cur w hh (by simp at hvl ⊢; omega) (c3 hall)
    simp only [Nat.add_zero] at hst
    have hrun : (execOp a.eval o).run P w = .ok .skip (w.setRow b (cur.toList.take off ++ (a.eval v).cells.toList ++ cur.toList.drop (off + (a.eval v).cells.toList.length)).toArray) := by
     have hse : ¬ ((a.eval v).cells.size ≠ sz) := by omega
     simp only [execOp, hop, Sem.run_bind, Instr.storeAt, hcx, Instr.sureAddr, Sem.run_pure, Result.andThen_ok, storeVar, run_sizeOf' hsz, if_neg hse, hst]
    have hrep : RepL S w O (putAt off (ρ v').cells vs) (cur.toList.take off ++ (a.eval v).cells.toList ++ cur.toList.drop (off + (a.eval v).cells.toList.length)) :=
     hrl.putAt' c1 (by simpa using c2) off (by omega)
    have hsize : (cur.toList.take off ++ (a.eval v).cells.toList ++ cur.toList.drop (off + (a.eval v).cells.toList.length)).toArray.size = cur.size := by
     simp at hvl ⊢; omega
    have hsame : updO O id (g', some b) = O := by
     funext j
     unfold updO
     split
     ·rename_i h; rw [h, hO]
     ·rfl
    have hx1 : Ext S S w (w.setRow b (cur.toList.take off ++ (a.eval v).cells.toList ++ cur.toList.drop (off + (a.eval v).cells.toList.length)).toArray) O O := by
     refine ⟨fun k hk => ⟨hk, setRow_other w b k _ (by rintro rfl; exact (hm.own id _ k hO).2 hk)⟩, fun j g2 ob hj => ⟨g2, ob, hj, Nat.le_refl _, fun _ => ⟨rfl, fun b' cur' e' hb' hh' => ?_⟩⟩⟩
     by_cases hbb : b' = b
     ·subst hbb
      rw [hh] at hh'
      cases hh'
      exact ⟨_, setRow_heap w b' cur _ e _ hh, hsize⟩
     ·exact ⟨cur', (setRow_other w b b' _ hbb).trans hh', rfl⟩
    have hone' : ∀ c ∈ (cur.toList.take off ++ (a.eval v).cells.toList ++ cur.toList.drop (off + (a.eval v).cells.toList.length)).toArray.toList, c.oneCell' = true := by
     intro c hc
     simp only [List.mem_append] at hc
     rcases hc with (hc | hc) | hc
     ·exact hone c (List.mem_of_mem_take hc)
     ·exact c3 hall c hc
     ·exact hone c (List.mem_of_mem_drop hc)
    obtain ⟨hev, hmat⟩ := put_own hm hO hh hsize (us := putAt off (ρ v').cells vs) hone' g' (Nat.le_refl _) (by rw [hsame]; exact RepL.ext hx1 _ _ (by simpa using hrep)) (getElemLt hid)
    rw [hsame] at hev hmat
    refine wpIn_skip' hF (by simp [hop]) hrun ?_
    have := hK undef _ O hev
    simp only [sv, hxa, hid] at this
    exact this hmat (by simp [Rep]) (fun j hj => hj)
   ·exact hok.elim
  ·exact hok.elim
 case call c =>
  split at hr
  ·rename_i hcal
   split at hr
   ·rename_i x y t u hargs htys
    simp only [Option.bind_eq_bind, Option.bind_eq_some_iff] at hr
    obtain ⟨e, he, es, hes, e', he', hr⟩ := hr
    split at hr
    ·rename_i hc
     simp only [Option.bind_eq_some_iff, Option.pure_def, Option.some.injEq] at hr
     obtain ⟨x', hx, y', hy, rfl⟩ := hr
     have ha : c.args = #[x, y] := by rw [← hargs]
     have ht : c.argTypes = #[t, u] := by rw [← htys]
     have r1 := hρ x (by simp [Call.operands, ha]) _ _ hx
     have r2 := hρ y (by simp [Call.operands, ha]) _ _ hy
     simp only [sv] at hok hK
     split at hok
     ·rename_i id g off len es' us k hxa hnews
      rw [hxa] at r1
      split at hok
      ·rename_i g' cs hid
       obtain ⟨rfl, rfl, rfl, hcl, hfit⟩ := hok
       simp only [hxa, hnews, hid] at hK
       simp only [Rep] at r1
       obtain ⟨_, gO, ob, hO, hle, hrr⟩ := r1
       have hb := hm.blk id gO ob hO
       rw [hid] at hb
       simp only [BlkOk] at hb
       have hgg := hb.1
       subst hgg
       obtain ⟨news, hn, hrn, hln, hlv, hone, ay, capy, hcy⟩ := first_run (P := P) hm r2 hnews
       obtain ⟨i, z, hi, hzz, hch, hzs⟩ := zOk_zero hc.2.1
       obtain ⟨z1, z2, z3⟩ := zChk_ok _ _ hch S w O
       have hies : i.size = es' := by simpa [szB, hi] using hes
       have hze : z.cells.size = es' := by rw [hes] at hzs; exact (Option.some.inj hzs).symm
       have hes0 : 0 < es' := Nat.pos_of_ne_zero hc.1
       have hbt : i.bytes ≤ 65536 := by have := hc.2.2; simpa [bytesOk, hi] using this
       rw [hcy] at hn
       have hidlt := getElemLt hid
       have grown : ∀ (a0 : Option Addr) (cap : Nat) (olds : List Value), (∀ w1 : World, w1.heap = w.heap → (Builtin.firstCells i.size len (.slice a0 len cap)).run P w1 = .ok olds.toArray w1) →
         a.eval x = .slice a0 len cap → cap < len + k → RepL S w O cs olds → olds.length = len * es' → (∀ c ∈ olds, c.oneCell' = true) → o.wpIn F n P a w K Q' := by
        intro a0 cap olds ho hcx hcap hro hlo hone0
        have hrun := run_grow (P := P) (elB_und he) (elB_und he') hi hzz (ty := o.type) (w := w) ho (by rw [hies]; exact hn) hcap hfit hbt
        have hgc := grownCap_ge w (len + k) cap e
        obtain ⟨cells, hcells⟩ : ∃ cells, cells = olds.toArray ++ news.toArray ++ Builtin.zeroCells z.cells (grownCap w (len + k) cap e - (len + k)) := ⟨_, rfl⟩
        rw [← hcells] at hrun
        have hnew := heap_alloc_new w.drew (.cells cells e)
        have hnew' : (w.drew.alloc (.cells cells e)).heap[w.heap.size]? = some (.cells cells e (0, 0)) := hnew
        have hcl' : cells.toList = olds ++ news ++ (Builtin.zeroCells z.cells (grownCap w (len + k) cap e - (len + k))).toList := by rw [hcells]; simp
        obtain ⟨hev, hmat⟩ := renew_own (w' := w.drew.alloc (.cells cells e)) hm hO hidlt (us := cs ++ us) (ob' := some w.heap.size) rfl rfl rfl (by simp) (fun a => (frozen_alloc w.drew cells e a).trans (frozen_heap rfl a))
         (fun j hj => heap_alloc_old w.drew _ hj) (fun b hb => by cases hb; exact ⟨Nat.le_refl _, by simp⟩)
         (fun O' hx => by
          simp only [BlkOk]
          refine ⟨trivial, cells, e, hnew', ?_, ?_⟩
          ·rw [hcl']
           exact RepL.more _ _ _ (RepL.append _ _ _ _ (RepL.ext hx _ _ hro) (by omega) (RepL.ext hx _ _ hrn))
          ·rw [hcl']
           intro c hc
           simp only [List.mem_append] at hc
           rcases hc with (hc | hc) | hc
           ·exact hone0 c hc
           ·exact hone c hc
           ·exact zeroCells_one z2 (by omega) _ c hc)
        refine wpIn_value hF (by simp [hop]) (by simp only [execOp, hop, resolve, hcal, ha, ht, List.map_toArray, List.map_cons, List.map_nil, Sem.run_bind, Sem.run_pure, Result.andThen_ok, invoke, builtin, hcx, hcy, hrun]; rfl) (hK _ _ _ hev hmat ?_ (none_upd hO))
        simp only [Rep]
        refine ⟨rfl, g' + 1, some w.heap.size, by simp [updO], Nat.le_refl _, fun _ => .inl ⟨w.heap.size, _, cells, e, rfl, hnew', rfl, hgc, ?_⟩⟩
        rw [← Array.length_toList, hcl']
        simp only [List.length_append, hlo, hln, Array.length_toList, size_zeroCells, hze, ← Nat.add_mul]
        rw [Nat.zero_add]
        exact Nat.mul_le_mul_right _ (by omega)
       rcases hrr rfl with ⟨b, cap, cur', e2, rfl, hh', hcx, hlc, hsz⟩ | ⟨rfl, rfl, a0, hcx⟩
       ·obtain ⟨cur, e3, hh, hrl, hone1⟩ := hb.2
        have heq : cur' = cur ∧ e2 = e3 := by rw [hh] at hh'; simp at hh'; exact ⟨hh'.1.symm, hh'.2.symm⟩
        obtain ⟨rfl, rfl⟩ := heq
        have hvl := RepL.length _ _ hrl
        simp only [Array.length_toList] at hvl
        by_cases hroom : len + k ≤ cap
        ·have hmul : (len + k) * es' ≤ cap * es' := Nat.mul_le_mul_right _ hroom
         rw [Nat.add_mul] at hmul
         have hrun := run_room (P := P) (elB_und he) (elB_und he') hi (ty := o.type) (w := w) (sLen := len) (sCap := cap) hh (by rw [hies]; exact hn) hone hroom (by rw [hies]; omega)
         rw [hies] at hrun
         obtain ⟨new, hnw⟩ : ∃ new, new = (cur'.toList.take (len * es') ++ news ++ cur'.toList.drop (len * es' + news.length)).toArray := ⟨_, rfl⟩
         rw [← hnw] at hrun
         have hnl : new.toList = cur'.toList.take (len * es') ++ news ++ cur'.toList.drop (len * es' + news.length) := by rw [hnw]
         have hsize : new.size = cur'.size := by rw [← Array.length_toList, hnl]; simp; omega
         have hx1 : Ext S S w (w.setRow b new) O (updO O id (g' + 1, some b)) := by
          refine ⟨fun j hj => ⟨hj, setRow_other w b j _ (by rintro rfl; exact (hm.own id _ j hO).2 hj)⟩, fun j g2 ob hj => ?_⟩
          by_cases hji : j = id
          ·subst hji
           rw [hO] at hj
           cases hj
           exact ⟨g' + 1, some b, by simp [updO], by omega, fun h => by omega⟩
          ·refine ⟨g2, ob, by simp [updO, hji, hj], Nat.le_refl _, fun _ => ⟨rfl, fun b' cu' e' hb' hh' => ⟨cu', ?_, rfl⟩⟩⟩
           rw [setRow_other w b b' _ (by rintro rfl; subst hb'; exact hji (hm.inj j id _ _ _ hj hO))]
           exact hh'
         obtain ⟨hev, hmat⟩ := put_own hm hO hh hsize (us := cs ++ us) (by
           rw [hnl]
           intro c hc
           simp only [List.mem_append] at hc
           rcases hc with (hc | hc) | hc
           ·exact hone1 c (List.mem_of_mem_take hc)
           ·exact hone c hc
           ·exact hone1 c (List.mem_of_mem_drop hc)) (g' + 1) (by omega) (by
           rw [hnl]
           exact RepL.more _ _ _ (RepL.append _ _ _ _ (RepL.ext hx1 _ _ (RepL.take_both _ _ _ hrl (by omega))) (by simp; omega) (RepL.ext hx1 _ _ hrn))) hidlt
         refine wpIn_value hF (by simp [hop]) (by simp only [execOp, hop, resolve, hcal, ha, ht, List.map_toArray, List.map_cons, List.map_nil, Sem.run_bind, Sem.run_pure, Result.andThen_ok, invoke, builtin, hcx, hcy, hrun]; rfl) (hK _ _ _ hev hmat ?_ (none_upd hO))
         simp only [Rep]
         exact ⟨rfl, g' + 1, some b, by simp [updO], Nat.le_refl _, fun _ => .inl ⟨b, cap, new, e2, rfl, setRow_heap w b cur' _ e2 _ hh, rfl, hroom, by omega⟩⟩
        ·refine grown _ cap (cur'.toList.take (len * es')) ?_ hcx (by omega) (RepL.take_both _ _ _ hrl (by omega)) (by simp; omega) (fun c hc => hone1 c (List.mem_of_mem_take hc))
         intro w1 hw1
         have hl := run_loadCells_at (P := P) (w := w1) (b := b) (off := 0) (by rw [hw1]; exact hh) (len * es') (by simp; omega)
         simpa [Builtin.firstCells, hies] using hl
       ·have hcs : cs = [] := hb.2
        subst hcs
        by_cases hk : k = 0
        ·subst hk
         have hus : us = [] := List.eq_nil_of_length_eq_zero (by simpa using hlv)
         subst hus
         have hnw : news = [] := List.eq_nil_of_length_eq_zero (by simpa using hln)
         subst hnw
         have hrun : (Builtin.append_ #[t, u] o.type #[.slice a0 0 0, .slice ay 0 capy]).run P w = .ok (.slice a0 0 0) w := by
          have := hn w rfl
          rw [← hies] at this
          cases a0 <;> simp [Builtin.append_, run_underlying (elB_und he), run_underlying (elB_und he'), sizeOf, typeInfo, hi, Builtin.lenOf, this, storeCells]
         obtain ⟨hev, hmat⟩ := renew_own (w' := w) hm hO hidlt (us := []) (ob' := none) rfl rfl rfl (Nat.le_refl _) (fun _ => rfl) (fun _ _ => rfl) (fun b hb => by cases hb) (fun O' _ => by simp [BlkOk])
         refine wpIn_value (w' := w) (c := .slice a0 0 0) hF (by simp [hop]) (by simp [execOp, hop, resolve, hcal, ha, ht, invoke, builtin, hcx, hcy, hrun]) (hK _ _ _ hev hmat ?_ (none_upd hO))
         simp only [Rep]
         exact ⟨rfl, g' + 1, none, by simp [updO], Nat.le_refl _, fun _ => .inr ⟨rfl, trivial, a0, rfl⟩⟩
        ·refine grown a0 0 [] ?_ hcx (by omega) (by simp [RepL]) (by simp) (by simp)
         intro w1 _
         cases a0 <;> simp [Builtin.firstCells, loadCells, loadCellsFrom]
      ·exact hok.elim
     ·exact hok.elim
    ·cases hr
   ·cases hr
  ·rename_i hcal
   split at hr
   ·rename_i x y t u hargs htys
    simp only [Option.bind_eq_bind, Option.bind_eq_some_iff, Option.pure_def, Option.some.injEq] at hr
    obtain ⟨e, he, es, hes, x', hx, y', hy, rfl⟩ := hr
    have ha : c.args = #[x, y] := by rw [← hargs]
    have ht : c.argTypes = #[t, u] := by rw [← htys]
    have r1 := hρ x (by simp [Call.operands, ha]) _ _ hx
    have r2 := hρ y (by simp [Call.operands, ha]) _ _ hy
    simp only [sv] at hok hK
    split at hok
    ·rename_i id g off len es' us k hxa hnews
     rw [hxa] at r1
     split at hok
     ·rename_i g' cs hid
      obtain ⟨rfl, rfl, hfits⟩ := hok
      simp only [hxa, hnews, hid] at hK
      simp only [Rep] at r1
      obtain ⟨_, gO, ob, hO, hle, hrr⟩ := r1
      have hb := hm.blk id gO ob hO
      rw [hid] at hb
      simp only [BlkOk] at hb
      have hgg := hb.1
      subst hgg
      obtain ⟨news, hn, hrn, hln, hlv, hone, ay, capy, hcy⟩ := first_run_le (P := P) hm r2 hnews
      have hmin : Nat.min k len ≤ k := Nat.min_le_left _ _
      have hml : Nat.min k len * es' ≤ k * es' := Nat.mul_le_mul_right _ hmin
      have hmr : Nat.min k len * es' ≤ len * es' := Nat.mul_le_mul_right _ (Nat.min_le_right _ _)
      have hn1 := hn w rfl _ hmin
      rw [hcy] at hn1
      have hes1 := hes
      simp only [szB, Option.map_eq_some_iff] at hes1
      obtain ⟨i, hi, hies⟩ := hes1
      have hlo : Builtin.lenOf (.slice ay k capy) = (pure k : Sem Nat) := rfl
      have hsame : updO O id (g', ob) = O := by
       funext j
       unfold updO
       split
       ·rename_i h; rw [h, hO]
       ·rfl
      rcases hrr rfl with ⟨b, cap, cur', e2, rfl, hh', hcx, hlc, hsz⟩ | ⟨rfl, rfl, a0, hcx⟩
      ·obtain ⟨cur, e3, hh, hrl, hone1⟩ := hb.2
       have heq : cur' = cur ∧ e2 = e3 := by rw [hh] at hh'; simp at hh'; exact ⟨hh'.1.symm, hh'.2.symm⟩
       obtain ⟨rfl, rfl⟩ := heq
       have hvl := RepL.length _ _ hrl
       simp only [Array.length_toList] at hvl
       have hcapl : len * es' ≤ cap * es' := Nat.mul_le_mul_right _ hlc
       obtain ⟨vs, hvs⟩ : ∃ vs, vs = news.take (Nat.min k len * es') := ⟨_, rfl⟩
       rw [← hvs] at hn1
       have hvsl : vs.length = Nat.min k len * es' := by rw [hvs, List.length_take, hln, Nat.min_eq_left hml]
       have hvone : ∀ c ∈ vs, c.oneCell' = true := fun c hc => hone c (by rw [hvs] at hc; exact List.mem_of_mem_take hc)
       have hst := run_storeCells_at P b off e2 vs 0 cur' w hh (by simp only [Nat.add_zero]; omega) hvone
       simp only [Nat.add_zero] at hst
       obtain ⟨new, hnw⟩ : ∃ new, new = (cur'.toList.take off ++ vs ++ cur'.toList.drop (off + vs.length)).toArray := ⟨_, rfl⟩
       rw [← hnw] at hst
       have hsize : new.size = cur'.size := by rw [hnw]; simp; omega
       have hrun : (Builtin.copy_ #[t, u] o.type #[.slice (some ⟨b, off, none⟩) len cap, .slice ay k capy]).run P w = .ok (goInt (Nat.min k len)) (w.setRow b new) := by
        simp [Builtin.copy_, run_underlying (elB_und he), sizeOf, typeInfo, hi, hies, hlo, hn1, hst]
       have hrep : RepL S w O (putAt off (us.take (Nat.min k len * es')) cs) (cur'.toList.take off ++ vs ++ cur'.toList.drop (off + vs.length)) := by
        have h1 : RepL S w O (us.take (Nat.min k len * es')) vs := by rw [hvs]; exact RepL.take_both _ _ _ (hrn.take _) (by rw [List.length_take]; exact Nat.min_le_left _ _)
        exact hrl.putAt' h1 (by rw [List.length_take, hlv, hvsl, Nat.min_eq_left hml]) off (by rw [List.length_take, hlv, Nat.min_eq_left hml]; omega)
       have hx1 : Ext S S w (w.setRow b new) O O := by
        refine ⟨fun k hk => ⟨hk, setRow_other w b k _ (by rintro rfl; exact (hm.own id _ k hO).2 hk)⟩, fun j g2 ob hj => ⟨g2, ob, hj, Nat.le_refl _, fun _ => ⟨rfl, fun b' cur2 e' hb' hh2 => ?_⟩⟩⟩
        by_cases hbb : b' = b
        ·subst hbb
         rw [hh] at hh2
         cases hh2
         exact ⟨_, setRow_heap w b' cur' _ e2 _ hh, hsize⟩
        ·exact ⟨cur2, (setRow_other w b b' _ hbb).trans hh2, rfl⟩
       have hone' : ∀ c ∈ new.toList, c.oneCell' = true := by
        intro c hc
        rw [hnw] at hc
        simp only [List.mem_append] at hc
        rcases hc with (hc | hc) | hc
        ·exact hone1 c (List.mem_of_mem_take hc)
        ·exact hvone c hc
        ·exact hone1 c (List.mem_of_mem_drop hc)
       obtain ⟨hev, hmat⟩ := put_own hm hO hh hsize (us := putAt off (us.take (Nat.min k len * es')) cs) hone' g' (Nat.le_refl _) (by rw [hsame]; exact RepL.ext hx1 _ _ (by rw [hnw]; simpa using hrep)) (getElemLt hid)
       rw [hsame] at hev hmat
       refine wpIn_value hF (by simp [hop]) (by simp only [execOp, hop, resolve, hcal, ha, ht, List.map_toArray, List.map_cons, List.map_nil, Sem.run_bind, Sem.run_pure, Result.andThen_ok, invoke, builtin, hcx, hcy, hrun]; rfl) (hK _ _ O hev hmat ?_ fun j hj => hj)
       simp only [Rep, goInt]
      ·have hcs : cs = [] := hb.2
       have h0 : Nat.min k 0 = 0 := Nat.min_zero k
       have hn2 := hn w rfl 0 (Nat.zero_le _)
       rw [hcy, Nat.zero_mul, List.take_zero] at hn2
       have hrun : (Builtin.copy_ #[t, u] o.type #[.slice a0 0 0, .slice ay k capy]).run P w = .ok (goInt 0) w := by
        cases a0 <;> simp [Builtin.copy_, run_underlying (elB_und he), sizeOf, typeInfo, hi, hies, hlo, hn2, storeCells]
       have hput : hp.set id (.cells g' (putAt off (us.take (min k 0 * es')) cs)) = hp := by
        rw [hcs, Nat.min_zero, Nat.zero_mul, List.take_zero]
        unfold putAt
        simp only [List.take_nil, List.nil_append, List.drop_nil]
        obtain ⟨hl, he2⟩ := List.getElem?_eq_some_iff.1 hid
        rw [hcs] at he2
        rw [← he2, List.set_getElem_self]
       have hmat' : Mat S w O (putB hp (some (id, .cells g' (putAt off (us.take (min k 0 * es')) cs)))) := by
        show Mat S w O (hp.set id _)
        rw [hput]; exact hm
       refine wpIn_value hF (by simp [hop]) (by simp only [execOp, hop, resolve, hcal, ha, ht, List.map_toArray, List.map_cons, List.map_nil, Sem.run_bind, Sem.run_pure, Result.andThen_ok, invoke, builtin, hcx, hcy, hrun]; rfl) (hK _ _ O (Evol.refl _ _ _) hmat' ?_ fun j hj => hj)
       simp only [Rep, goInt, Nat.min_zero]
       rfl
     ·exact hok.elim
    ·exact hok.elim
   ·cases hr
  ·cases hr
 case makeMap t r =>
  cases r with
  | some r => simp at hr
  | none =>
   simp only [Option.bind_eq_bind, Option.bind_eq_some_iff, Option.pure_def, Option.some.injEq] at hr
   obtain ⟨⟨kt, et⟩, hmap, rfl⟩ := hr
   simp [sv] at hok
 case range t y =>
  simp only [Option.bind_eq_bind, Option.bind_eq_some_iff, Option.pure_def, Option.some.injEq] at hr
  obtain ⟨⟨kt, et⟩, hmap, y', hy, rfl⟩ := hr
  simp [sv] at hok
 case mapUpdate t m k v =>
  simp only [Option.bind_eq_bind, Option.bind_eq_some_iff, Option.pure_def, Option.some.injEq] at hr
  obtain ⟨⟨kt, et⟩, hmap, m', hm1, k', hk1, v', hv1, rfl⟩ := hr
  exact upd t m k v kt et hmap m' k' v' (hρ.1 _ _ hm1) (hρ.2.1 _ _ hk1) (hρ.2.2 _ _ hv1) rfl (by simp [hop]) (fun w' h => by simp only [execOp, hop, h, Sem.run_bind, Result.andThen_ok, Sem.run_pure])
 case insert t m k v =>
  simp only [Option.bind_eq_bind, Option.bind_eq_some_iff, Option.pure_def, Option.some.injEq] at hr
  obtain ⟨⟨kt, et⟩, hmap, m', hm1, k', hk1, v', hv1, rfl⟩ := hr
  exact upd t m k v kt et hmap m' k' v' (hρ.1 _ _ hm1) (hρ.2.1 _ _ hk1) (hρ.2.2 _ _ hv1) rfl (by simp [hop]) (fun w' h => by simp only [execOp, hop, h, Sem.run_bind, Result.andThen_ok, Sem.run_pure])
 case mapEntry t m k =>
  simp only [Option.bind_eq_bind, Option.bind_eq_some_iff] at hr
  obtain ⟨⟨kt, et⟩, hmap, hr⟩ := hr
  simp only at hr
  split at hr
  ·rename_i hzz
   simp only [Bool.and_eq_true] at hzz
   simp only [Option.bind_eq_some_iff, Option.pure_def, Option.some.injEq] at hr
   obtain ⟨m', hm1, k', hk1, rfl⟩ := hr
   have r1 := hρ.1 _ _ hm1
   have r2 := hρ.2 _ _ hk1
   obtain ⟨z, hz1, hz2⟩ := zE_rep hzz.1 hzz.2
   simp only [sv] at hok hK
   split at hok
   ·rename_i id g s l hxv hkv
    rw [hxv] at r1
    obtain ⟨hkc, hkl⟩ := keyL_rep hkv r2
    split at hok
    ·rename_i st ks vs hid
     obtain ⟨b, es, hO, hc, hb, hes, hvs, hvl, hnd, hst1⟩ := mp_block hm r1 hid hok.1
     obtain ⟨hKI, rfl, rfl⟩ := keyIs_of hok.2 rfl hkl hst1
     obtain ⟨es', v, hrun, hes', hcase⟩ := mapEntry_run (mapB_und hmap) hKI hb hes hz1
     simp only [hxv, hkv, hid] at hK
     obtain ⟨hev, hmat⟩ := put_obj hm hO (o' := .map es' es'.size) hb rfl rfl (getElemLt hid) (x := .map (!isI64 P kt) (putK ks l) (if l ∈ ks then vs else vs ++ [zE P et])) fun hx hnew => by
      refine ⟨rfl, b, es', rfl, hnew, hes', ?_, ?_, putK_nodup hnd, putK_one hkl hst1⟩
      ·rcases hcase with ⟨h1, _, h2⟩ | ⟨h1, _, h2⟩
       ·rw [if_pos h1, h2]; exact RepL.ext hx _ _ hvs
       ·rw [if_neg h1, h2]; exact RepL.append _ _ _ _ (RepL.ext hx _ _ hvs) (by simp [hvl, mapEs_len hes]) (by simp only [RepL]; exact ⟨hz2 _ _ _, trivial⟩)
      ·by_cases h1 : l ∈ ks <;> simp [putK, h1, hvl]
     refine wpIn_value (c := .tuple #[v, .int .i64 (ks.idxOf l)]) (w' := w.putObj b (.map es' es'.size)) hF (by simp [hop]) (by simp only [execOp, hop, hc, hkc, hrun, Sem.run_bind, Result.andThen_ok, Sem.run_pure]) (hK _ _ O hev hmat ?_ fun j hj => hj)
     simp only [Rep, RepL]
     refine ⟨_, rfl, rfl, ?_, rfl, trivial⟩
     rcases hcase with ⟨h1, ⟨e, he, rfl⟩, _⟩ | ⟨h1, rfl, _⟩
     ·obtain ⟨v', hv', hr'⟩ := val_get hvs he (by rw [hvl, mapEs_len hes])
      rw [hv']; exact Rep.ext hev.ext _ _ hr'
     ·rw [List.getElem?_eq_none (by rw [hvl, List.idxOf_eq_length h1]; exact Nat.le_refl _)]
      exact hz2 _ _ _
    ·exact hok.elim
   ·exact hok.elim
  ·cases hr
 case entryStore t m s' v =>
  simp only [Option.bind_eq_bind, Option.bind_eq_some_iff, Option.pure_def, Option.some.injEq] at hr
  obtain ⟨⟨kt, et⟩, hmap, m', hm1, s1, hs1, v', hv1, rfl⟩ := hr
  have r1 := hρ.1 _ _ hm1
  have r2 := hρ.2.1 _ _ hs1
  have r3 := hρ.2.2 _ _ hv1
  simp only [sv] at hok hK
  split at hok
  ·rename_i id g i hxv hsv
   rw [hxv] at r1
   rw [hsv] at r2
   split at hok
   ·rename_i st ks vs hid
    obtain ⟨hg0, h0, hi⟩ := hok
    obtain ⟨b, es, hO, hc, hb, hes, hvs, hvl, hnd, hst1⟩ := mp_block hm r1 hid hg0
    have hlen := mapEs_len hes
    have hrun := entryStore_run (P := P) (t := t) hb hes h0 (by omega) (a.eval v)
    simp only [hxv, hsv, hid] at hK
    have hset := es_put hes (i := i.toNat) (by omega) (a.eval v)
    obtain ⟨hev, hmat⟩ := put_obj hm hO (o' := .map (es.modify i.toNat fun e => { e with val := a.eval v }) es.size) hb rfl rfl (getElemLt hid) (x := .map st ks (vs.set i.toNat (ρ v'))) fun hx hnew => by
     refine ⟨rfl, b, _, rfl, by rw [hnew]; simp, hset.1, ?_, by simp [hvl], hnd, hst1⟩
     rw [hset.2]
     exact RepL.set _ _ _ _ _ (RepL.ext hx _ _ hvs) (Rep.ext hx _ _ r3)
    refine wpIn_skip' hF (by simp [hop]) (by simp only [execOp, hop, hc, rep_i r2, hrun, Sem.run_bind, Result.andThen_ok, Sem.run_pure]) (hK undef _ O hev hmat (by simp [Rep]) fun j hj => hj)
   ·exact hok.elim
  ·exact hok.elim
end
end Go.Fam
namespace Go.Fam
theorem shL_length (k : Nat) : ∀ vs : List V, (shL k vs).length = vs.length
 | [] => rfl
 | _ :: vs => by simp [shL, shL_length k vs]
mutual
theorem sh_rep {S : Nat → Prop} {w : World} {O O2 : OInfo} {k : Nat} (h : ∀ id x, O id = some x → O2 (k + id) = some x) : ∀ (v : V) (c : Value), Rep S w O v c → Rep S w O2 (shV k v) c
 | .u, _, _ => by simp [shV, Rep]
 | .b x, c, hr => by simpa [shV, Rep] using hr
 | .i x, c, hr => by simpa [shV, Rep] using hr
 | .z es, c, hr => by simpa [shV, Rep] using hr
 | .sl es rows, c, hr => by simpa only [shV, Rep] using hr
 | .sx es rows, c, hr => by simpa only [shV, Rep] using hr
 | .pa cs, c, hr => by simpa only [shV, Rep] using hr
 | .pn, c, hr => by simpa [shV, Rep] using hr
 | .yl l, c, hr => by simpa [shV, Rep] using hr
 | .pm _ _ _, c, hr => by simpa only [shV, Rep] using hr
 | .fb _ _, c, hr => by simpa only [shV, Rep] using hr
 | .w k n, c, hr => by simpa [shV, Rep] using hr
 | .ag cs, c, hr => by
  simp only [shV, Rep] at hr ⊢
  obtain ⟨ccs, hc, hn, hr⟩ := hr
  exact ⟨ccs, hc, by rw [shL_length]; exact hn, shL_rep h cs _ hr⟩
 | .tp cs, c, hr => by
  simp only [shV, Rep] at hr ⊢
  obtain ⟨ccs, hc, hn, hr⟩ := hr
  exact ⟨ccs, hc, by rw [shL_length]; exact hn, shL_rep h cs _ hr⟩
 | .fn f cs, c, hr => by
  simp only [shV, Rep] at hr ⊢
  obtain ⟨ccs, hc, hn, hr⟩ := hr
  exact ⟨ccs, hc, by rw [shL_length]; exact hn, shL_rep h cs _ hr⟩
 | .gv q v, c, hr => by
  simp only [shV, Rep] at hr ⊢
  exact ⟨fun hq => sh_rep h v c (hr.1 hq), hr.2⟩
 | .ad id g off, c, hr => by
  simp only [shV, Rep] at hr ⊢
  obtain ⟨h1, g', ob, hO, hr⟩ := hr
  exact ⟨h1, g', ob, h _ _ hO, hr⟩
 | .rf id g off len es, c, hr => by
  simp only [shV, Rep] at hr ⊢
  obtain ⟨h1, g', ob, hO, hr⟩ := hr
  exact ⟨h1, g', ob, h _ _ hO, hr⟩
 | .mp id g, c, hr => by
  simp only [shV, Rep] at hr ⊢
  obtain ⟨h1, g', ob, hO, hr⟩ := hr
  exact ⟨h1, g', ob, h _ _ hO, hr⟩
 | .it id g, c, hr => by
  simp only [shV, Rep] at hr ⊢
  obtain ⟨h1, g', ob, hO, hr⟩ := hr
  exact ⟨h1, g', ob, h _ _ hO, hr⟩
theorem shL_rep {S : Nat → Prop} {w : World} {O O2 : OInfo} {k : Nat} (h : ∀ id x, O id = some x → O2 (k + id) = some x) : ∀ (vs : List V) (cs : List Value), RepL S w O vs cs → RepL S w O2 (shL k vs) cs
 | [], _, _ => by simp [shL, RepL]
 | _ :: _, [], hr => by simp [RepL] at hr
 | v :: vs, c :: cs, hr => by
  simp only [shL, RepL] at hr ⊢
  exact ⟨sh_rep h v c hr.1, shL_rep h vs cs hr.2⟩
end
theorem sh_blk {S : Nat → Prop} {w : World} {O O2 : OInfo} {k g : Nat} {ob : Option Nat} (h : ∀ id x, O id = some x → O2 (k + id) = some x) {x : Option Blk} (hx : BlkOk S w O g ob x) : BlkOk S w O2 g ob (x.map (shB k)) := by
 unfold BlkOk at hx
 split at hx
 ·rename_i g' vs
  simp only [Option.map_some, shB, BlkOk]
  refine ⟨hx.1, ?_⟩
  cases ob with
  | none => have := hx.2; simp only at this ⊢; rw [this]; rfl
  | some b =>
   obtain ⟨cur, e, hb, hr, h1⟩ := hx.2
   exact ⟨cur, e, hb, shL_rep h _ _ hr, h1⟩
 ·rename_i st ks vs
  simp only [Option.map_some, shB, BlkOk]
  obtain ⟨h0, b, es, hob, hb, h1, h3, h4, h5⟩ := hx
  exact ⟨h0, b, es, hob, hb, h1, shL_rep h _ _ h3, by rw [shL_length]; exact h4, h5⟩
 ·rename_i mid n left cur
  simp only [Option.map_some, shB, BlkOk]
  obtain ⟨h0, b, m, seen, hob, hb, h1, h2⟩ := hx
  exact ⟨h0, b, m, seen, hob, hb, sh_rep h (.mp mid 0) _ h1, h2⟩
 ·exact hx.elim
 ·simpa only [Option.map_some, shB, BlkOk] using hx
 ·exact hx.elim
 ·exact hx.elim
theorem mat_lt {S : Nat → Prop} {w : World} {O : OInfo} {hp : List Blk} (h : Mat S w O hp) {id : Nat} {x : Nat × Option Nat} (ho : O id = some x) : id < hp.length := by
 rcases Nat.lt_or_ge id hp.length with h' | h'
 ·exact h'
 ·have := h.blk id x.1 x.2 ho
  rw [List.getElem?_eq_none h'] at this
  exact this.elim
mutual
def rflat : V → Bool
 | .b _ | .i _ | .w _ _ | .z _ | .pn | .ad _ _ _ | .rf _ _ _ _ _ | .mp _ _ | .it _ _ => true
 | .ag cs | .tp cs => rflatL cs
 | _ => false
def rflatL : List V → Bool
 | [] => true
 | v :: vs => rflat v && rflatL vs
end
def rflatB : Blk → Bool
 | .cells _ vs | .map _ _ vs => rflatL vs
 | _ => true
mutual
theorem rflat_rep {S S' : Nat → Prop} {w : World} {O : OInfo} : ∀ (v : V) (c : Value), rflat v = true → Rep S w O v c → Rep S' w O v c
 | .b x, c, _, hr => by simpa [Rep] using hr
 | .i x, c, _, hr => by simpa [Rep] using hr
 | .z es, c, _, hr => by simpa [Rep] using hr
 | .pn, c, _, hr => by simpa [Rep] using hr
 | .w _ _, c, _, hr => by simpa [Rep] using hr
 | .ag cs, c, hn, hr => by
  simp only [rflat] at hn
  simp only [Rep] at hr ⊢
  obtain ⟨ccs, hc, hl, hr⟩ := hr
  exact ⟨ccs, hc, hl, rflatL_rep cs _ hn hr⟩
 | .tp cs, c, hn, hr => by
  simp only [rflat] at hn
  simp only [Rep] at hr ⊢
  obtain ⟨ccs, hc, hl, hr⟩ := hr
  exact ⟨ccs, hc, hl, rflatL_rep cs _ hn hr⟩
 | .ad id g off, c, _, hr => by simpa only [Rep] using hr
 | .rf id g off len es, c, _, hr => by simpa only [Rep] using hr
 | .mp id g, c, _, hr => by simpa only [Rep] using hr
 | .it id g, c, _, hr => by simpa only [Rep] using hr
 | .u, _, hn, _ => by simp [rflat] at hn
 | .sl _ _, _, hn, _ => by simp [rflat] at hn
 | .sx _ _, _, hn, _ => by simp [rflat] at hn
 | .pa _, _, hn, _ => by simp [rflat] at hn
 | .fn _ _, _, hn, _ => by simp [rflat] at hn
 | .yl _, _, hn, _ => by simp [rflat] at hn
 | .pm _ _ _, _, hn, _ => by simp [rflat] at hn
 | .fb _ _, _, hn, _ => by simp [rflat] at hn
 | .gv _ _, _, hn, _ => by simp [rflat] at hn
theorem rflatL_rep {S S' : Nat → Prop} {w : World} {O : OInfo} : ∀ (vs : List V) (cs : List Value), rflatL vs = true → RepL S w O vs cs → RepL S' w O vs cs
 | [], _, _, _ => by simp [RepL]
 | _ :: _, [], _, hr => by simp [RepL] at hr
 | v :: vs, c :: cs, hn, hr => by
  simp only [rflatL, Bool.and_eq_true] at hn
  simp only [RepL] at hr ⊢
  exact ⟨rflat_rep v c hn.1 hr.1, rflatL_rep vs cs hn.2 hr.2⟩
end
theorem rflat_blk {S S' : Nat → Prop} {w : World} {O : OInfo} {g : Nat} {ob : Option Nat} {x : Option Blk} (hf : ∀ b, x = some b → rflatB b = true) (h : BlkOk S w O g ob x) : BlkOk S' w O g ob x := by
 unfold BlkOk at h ⊢
 split at h
 ·have hf := hf _ rfl
  simp only [rflatB] at hf
  refine ⟨h.1, ?_⟩
  cases ob with
  | none => exact h.2
  | some b =>
   obtain ⟨cur, e, hb, hr, h1⟩ := h.2
   exact ⟨cur, e, hb, rflatL_rep _ _ hf hr, h1⟩
 ·have hf := hf _ rfl
  simp only [rflatB] at hf
  obtain ⟨h0, b, es, hob, hb, h1, h3, h4⟩ := h
  exact ⟨h0, b, es, hob, hb, h1, rflatL_rep _ _ hf h3, h4⟩
 ·obtain ⟨h0, b, m, seen, hob, hb, h1, h2⟩ := h
  exact ⟨h0, b, m, seen, hob, hb, rflat_rep (.mp _ 0) _ rfl h1, h2⟩
 ·exact h.elim
 ·exact h
 ·exact h.elim
 ·exact h.elim
structure Placed (O : OInfo) (hp : List Blk) (q : Nat) (bs hp' : List Blk) : Prop where
 free : ∀ i, i < bs.length → O (q + i) = none
 new : ∀ i, i < bs.length → hp'[q + i]? = (bs[i]?).map (shB q)
 old : ∀ id x, O id = some x → hp'[id]? = hp[id]?
def setBs (hp : List Blk) (q : Nat) : List Blk → List Blk
 | [] => hp
 | b :: l => setBs (hp.set q b) (q + 1) l
theorem setBs_get : ∀ (l : List Blk) (hp : List Blk) (q id : Nat), q + l.length ≤ hp.length → (setBs hp q l)[id]? = if q ≤ id ∧ id < q + l.length then l[id - q]? else hp[id]?
 | [], hp, q, id, _ => by rw [setBs, if_neg]; simp only [List.length_nil]; omega
 | b :: l, hp, q, id, h => by
  simp only [List.length_cons] at h
  rw [setBs, setBs_get l _ _ _ (by simp; omega)]
  by_cases h1 : id = q
  ·subst h1
   rw [if_neg (by omega), if_pos (by simp), List.getElem?_set_self (by omega), Nat.sub_self]
   rfl
  ·by_cases h2 : q + 1 ≤ id ∧ id < q + 1 + l.length
   ·rw [if_pos h2, if_pos (by simp only [List.length_cons]; omega), show id - q = (id - (q + 1)) + 1 by omega]
    rfl
   ·rw [if_neg h2, if_neg (by simp only [List.length_cons]; omega), List.getElem?_set_ne (Ne.symm h1)]
def holesB (hp : List Blk) : Nat → Nat → Bool
 | _, 0 => true
 | q, n + 1 => (match hp[q]? with | some .hole => true | _ => false) && holesB hp (q + 1) n
theorem holesB_spec {hp : List Blk} : ∀ {n q : Nat}, holesB hp q n = true → ∀ i, i < n → hp[q + i]? = some .hole
 | 0, _, _, i, hi => by omega
 | n + 1, q, h, i, hi => by
  simp only [holesB, Bool.and_eq_true] at h
  cases i with
  | zero =>
   have h := h.1
   split at h
   ·rename_i hh; exact hh
   ·cases h
  | succ i =>
   have := holesB_spec h.2 i (by omega)
   rwa [show q + 1 + i = q + (i + 1) by omega] at this
theorem holesB_of {hp : List Blk} : ∀ {n q : Nat}, (∀ i, i < n → hp[q + i]? = some .hole) → holesB hp q n = true
 | 0, _, _ => rfl
 | n + 1, q, h => by
  have h0 := h 0 (by omega)
  rw [Nat.add_zero] at h0
  have := holesB_of (n := n) (q := q + 1) fun i hi => by
   have := h (i + 1) (by omega)
   rwa [show q + (i + 1) = q + 1 + i by omega] at this
  simp only [holesB, h0, this, Bool.and_self]
def plB (hp : List Blk) (q : Option Nat) (bs : List Blk) : List Blk := match q with
 | none => hp ++ bs.map (shB hp.length)
 | some q => setBs hp q (bs.map (shB q))
def plO (hp : List Blk) (q : Option Nat) (n : Nat) : Prop := match q with
 | none => True
 | some q => holesB hp q n = true
def plQ (hp : List Blk) (q : Option Nat) : Nat := match q with | none => hp.length | some q => q
theorem placed {S : Nat → Prop} {w : World} {O : OInfo} {hp : List Blk} (hm : Mat S w O hp) {q : Option Nat} {bs : List Blk} (h : plO hp q bs.length) : Placed O hp (plQ hp q) bs (plB hp q bs) := by
 cases q with
 | none =>
  refine ⟨fun i _ => ?_, fun i hi => ?_, fun id x hx => ?_⟩
  ·cases ho : O (hp.length + i) with
   | none => exact ho
   | some x => have := mat_lt hm ho; omega
  ·simp only [plB, plQ]
   rw [List.getElem?_append_right (Nat.le_add_right _ _), Nat.add_sub_cancel_left, List.getElem?_map]
  ·simp only [plB]
   rw [List.getElem?_append_left (mat_lt hm hx)]
 | some q =>
  have hh := holesB_spec h
  have hle : q + bs.length ≤ hp.length ∨ bs.length = 0 := by
   rcases Nat.eq_zero_or_pos bs.length with h0 | h0
   ·exact .inr h0
   ·have := getElemLt (hh (bs.length - 1) (by omega)); omega
  have hfree : ∀ i, i < bs.length → O (q + i) = none := fun i hi => (mat_hole hm (hh i hi) .hole).1
  refine ⟨hfree, fun i hi => ?_, fun id x hx => ?_⟩
  ·simp only [plB, plQ]
   rw [setBs_get _ _ _ _ (by simp; omega), if_pos (by simp; omega), Nat.add_sub_cancel_left, List.getElem?_map]
  ·simp only [plB]
   rcases hle with hle | hle
   ·rw [setBs_get _ _ _ _ (by simp; omega), if_neg]
    rintro ⟨h1, h2⟩
    have := hfree (id - q) (by simp at h2; omega)
    rw [show q + (id - q) = id by omega, hx] at this
    cases this
   ·have : bs = [] := List.eq_nil_of_length_eq_zero hle
    subst this; rfl
section
variable {P : Program}
theorem rel_callR {f : Nat} {as0 : List V} {R : V → List Blk → Prop} {S : Nat → Prop} {w : World} {O : OInfo} {hp : List Blk} (hm : Mat S w O hp) (hc : RelCall P f (as0.map (vw hp 8)) R) {cargs : Array Value}
  (hsz : cargs.size = as0.length) (hr : RepL S w O as0 cargs.toList) (hfl : ∀ r bs, R r bs → rflat r = true ∧ bs.all rflatB = true) {q : Nat} {pl : List Blk → List Blk} (hpl : ∀ r bs, R r bs → Placed O hp q bs (pl bs)) :
  Calls P f cargs w fun e w' => ∃ c S' O' r bs, e = .returned c ∧ R r bs ∧ Evol S S' w w' O O' ∧ Mat S' w' O' (pl bs) ∧ Rep S' w' O' (shV q r) c := by
 have hr' : RepL (fun k => S k ∨ Own O k) w noO (as0.map (vw hp 8)) cargs.toList := RepL.mapTo _ (fun v c h => vw_rep hm 8 v c h) _ _ hr
 refine (hc (fun k => S k ∨ Own O k) w cargs ?_ (by simpa using hsz) hr').mono ?_
 ·rintro k (hk | ⟨id, g, hk⟩)
  ·exact hm.lt k hk
  ·exact (hm.own id g k hk).1
 rintro e w' ⟨c, S1, O1, r, bs, rfl, hR, hev, hmat, hrep⟩
 obtain ⟨hf1, hf2⟩ := hfl r bs hR
 have hP := hpl r bs hR
 have hold : ∀ k, k < w.heap.size → w'.heap[k]? = w.heap[k]? := fun k hk => hev.old k hk (by rintro ⟨id, g, h⟩; cases h)
 obtain ⟨O2, hO2⟩ : ∃ O2 : OInfo, O2 = fun id => if q ≤ id ∧ id < q + bs.length then O1 (id - q) else O id := ⟨_, rfl⟩
 have hlo : ∀ id x, O id = some x → O2 id = some x := fun id x h => by
  rw [hO2]; show (if _ then _ else _) = _
  rw [if_neg]; exact h
  rintro ⟨h1, h2⟩
  have := hP.free (id - q) (by omega)
  rw [show q + (id - q) = id by omega, h] at this
  cases this
 have hhi : ∀ id x, O1 id = some x → O2 (q + id) = some x := fun id x h => by
  have := mat_lt hmat h
  rw [hO2]; show (if _ then _ else _) = _; rw [if_pos (by omega), Nat.add_sub_cancel_left]; exact h
 have hcase : ∀ id g ob, O2 id = some (g, ob) → O id = some (g, ob) ∨ ∃ j, j < bs.length ∧ id = q + j ∧ O1 j = some (g, ob) := by
  intro id g ob h
  rw [hO2] at h
  by_cases hl : q ≤ id ∧ id < q + bs.length
  ·simp only [hl, and_self, if_true] at h
   exact .inr ⟨id - q, by omega, by omega, h⟩
  ·replace h : (if q ≤ id ∧ id < q + bs.length then O1 (id - q) else O id) = _ := h
   rw [if_neg hl] at h
   exact .inl h
 have hfr : ∀ j g b, O1 j = some (g, some b) → w.heap.size ≤ b := by
  intro j g b h
  rcases hev.fresh b ⟨j, g, h⟩ with ⟨_, _, h'⟩ | h'
  ·cases h'
  ·exact h'
 have hx : Ext S S w w' O O2 := ⟨fun k hk => ⟨hk, (hev.ext.keep k (.inl hk)).2⟩, fun id g ob ho => ⟨g, ob, hlo id _ ho, Nat.le_refl _, fun _ => ⟨rfl, fun b cur e hb hh =>
  ⟨cur, (hold b (by subst hb; exact (hm.own id g b ho).1)).trans hh, rfl⟩⟩⟩⟩
 refine ⟨c, S, O2, r, bs, rfl, hR, ⟨hx, hev.os, hev.tape, hev.output, hev.size, hev.fz, fun k hk _ => hold k hk, ?_, fun n hn => .inl hn⟩, ⟨fun n hn => Nat.lt_of_lt_of_le (hm.lt n hn) hev.size, ?_, ?_, ?_⟩, sh_rep hhi _ _ (rflat_rep _ _ hf1 hrep)⟩
 ·rintro n ⟨id, g, h⟩
  rcases hcase id g _ h with h' | ⟨j, _, _, h'⟩
  ·exact .inl ⟨id, g, h'⟩
  ·exact .inr (hfr j g n h')
 ·intro id g b h
  rcases hcase id g _ h with h' | ⟨j, _, _, h'⟩
  ·have := hm.own id g b h'
   exact ⟨Nat.lt_of_lt_of_le this.1 hev.size, this.2⟩
  ·refine ⟨(hmat.own j g b h').1, fun hS => ?_⟩
   have := hm.lt b hS
   have := hfr j g b h'
   omega
 ·intro id id' g g' b h h'
  rcases hcase id g _ h with h1 | ⟨j, _, rfl, h1⟩ <;> rcases hcase id' g' _ h' with h2 | ⟨j', _, rfl, h2⟩
  ·exact hm.inj id id' g g' b h1 h2
  ·have := (hm.own id g b h1).1; have := hfr j' g' b h2; omega
  ·have := (hm.own id' g' b h2).1; have := hfr j g b h1; omega
  ·rw [hmat.inj j j' g g' b h1 h2]
 ·intro id g ob h
  rcases hcase id g _ h with h1 | ⟨j, hj, rfl, h1⟩
  ·rw [hP.old id _ h1]
   exact (hm.blk id g ob h1).ext hx fun b hb => hold b (hm.own id g b (by rw [h1, hb])).1
  ·rw [hP.new j hj]
   exact sh_blk hhi (rflat_blk (fun b hb => List.all_eq_true.1 hf2 b (List.mem_of_getElem? hb)) (hmat.blk j g ob h1))
theorem rel_callP {f : Nat} {as0 : List V} {R : V → List Blk → Prop} (hc : RelCall P f as0 R) {S : Nat → Prop} {w : World} {O : OInfo} {hp : List Blk} (hm : Mat S w O hp) {cargs : Array Value}
  (hsz : cargs.size = as0.length) (hr : RepL S w noO as0 cargs.toList) {q : Nat} {pl : List Blk → List Blk} (hpl : ∀ r bs, R r bs → Placed O hp q bs (pl bs)) :
  Calls P f cargs w fun e w' => ∃ c S' O' r bs, e = .returned c ∧ R r bs ∧ Evol S S' w w' O O' ∧ Mat S' w' O' (pl bs) ∧ Rep S' w' O' (shV q r) c := by
 refine (hc S w cargs hm.lt hsz hr).mono ?_
 rintro e w' ⟨c, S', O1, r, bs, rfl, hR, hev, hmat, hrep⟩
 have hP := hpl r bs hR
 have hold : ∀ k, k < w.heap.size → w'.heap[k]? = w.heap[k]? := fun k hk => hev.old k hk (by rintro ⟨id, g, h⟩; cases h)
 obtain ⟨O2, hO2⟩ : ∃ O2 : OInfo, O2 = fun id => if q ≤ id ∧ id < q + bs.length then O1 (id - q) else O id := ⟨_, rfl⟩
 have hlo : ∀ id x, O id = some x → O2 id = some x := fun id x h => by
  rw [hO2]; show (if _ then _ else _) = _
  rw [if_neg]; exact h
  rintro ⟨h1, h2⟩
  have := hP.free (id - q) (by omega)
  rw [show q + (id - q) = id by omega, h] at this
  cases this
 have hhi : ∀ id x, O1 id = some x → O2 (q + id) = some x := fun id x h => by
  have := mat_lt hmat h
  rw [hO2]; show (if _ then _ else _) = _; rw [if_pos (by omega), Nat.add_sub_cancel_left]; exact h
 have hcase : ∀ id g ob, O2 id = some (g, ob) → O id = some (g, ob) ∨ ∃ j, j < bs.length ∧ id = q + j ∧ O1 j = some (g, ob) := by
  intro id g ob h
  rw [hO2] at h
  by_cases hl : q ≤ id ∧ id < q + bs.length
  ·simp only [hl, and_self, if_true] at h
   exact .inr ⟨id - q, by omega, by omega, h⟩
  ·replace h : (if q ≤ id ∧ id < q + bs.length then O1 (id - q) else O id) = _ := h
   rw [if_neg hl] at h
   exact .inl h
 have hfr : ∀ j g b, O1 j = some (g, some b) → w.heap.size ≤ b := by
  intro j g b h
  rcases hev.fresh b ⟨j, g, h⟩ with ⟨_, _, h'⟩ | h'
  ·cases h'
  ·exact h'
 have hx : Ext S S' w w' O O2 := ⟨fun k hk => hev.ext.keep k hk, fun id g ob ho => ⟨g, ob, hlo id _ ho, Nat.le_refl _, fun _ => ⟨rfl, fun b cur e hb hh =>
  ⟨cur, (hold b (by subst hb; exact (hm.own id g b ho).1)).trans hh, rfl⟩⟩⟩⟩
 have hgr : ∀ n, S' n → S n ∨ w.heap.size ≤ n := by
  intro n hn
  rcases hev.grow n hn with h | ⟨_, _, h⟩ | h
  ·exact .inl h
  ·cases h
  ·exact .inr h
 refine ⟨c, S', O2, r, bs, rfl, hR, ⟨hx, hev.os, hev.tape, hev.output, hev.size, hev.fz, fun k hk _ => hold k hk, ?_, ?_⟩, ⟨hmat.lt, ?_, ?_, ?_⟩, sh_rep hhi _ _ hrep⟩
 ·rintro n ⟨id, g, h⟩
  rcases hcase id g _ h with h' | ⟨j, _, _, h'⟩
  ·exact .inl ⟨id, g, h'⟩
  ·exact .inr (hfr j g n h')
 ·intro n hn
  exact (hgr n hn).imp id .inr
 ·intro id g b h
  rcases hcase id g _ h with h' | ⟨j, _, _, h'⟩
  ·have := hm.own id g b h'
   refine ⟨Nat.lt_of_lt_of_le this.1 hev.size, fun hS => ?_⟩
   rcases hgr b hS with h1 | h1
   ·exact this.2 h1
   ·omega
  ·exact hmat.own j g b h'
 ·intro id id' g g' b h h'
  rcases hcase id g _ h with h1 | ⟨j, _, rfl, h1⟩ <;> rcases hcase id' g' _ h' with h2 | ⟨j', _, rfl, h2⟩
  ·exact hm.inj id id' g g' b h1 h2
  ·have := (hm.own id g b h1).1; have := hfr j' g' b h2; omega
  ·have := (hm.own id' g' b h2).1; have := hfr j g b h1; omega
  ·rw [hmat.inj j j' g g' b h1 h2]
 ·intro id g ob h
  rcases hcase id g _ h with h1 | ⟨j, hj, rfl, h1⟩
  ·rw [hP.old id _ h1]
   exact (hm.blk id g ob h1).ext hx fun b hb => hold b (hm.own id g b (by rw [h1, hb])).1
  ·rw [hP.new j hj]
   exact sh_blk hhi (hmat.blk j g ob h1)
theorem rel_call {f : Nat} {as0 : List V} {R : V → List Blk → Prop} (hc : RelCall P f as0 R) {S : Nat → Prop} {w : World} {O : OInfo} {hp : List Blk} (hm : Mat S w O hp) {cargs : Array Value}
  (hsz : cargs.size = as0.length) (hr : RepL S w noO as0 cargs.toList) :
  Calls P f cargs w fun e w' => ∃ c S' O' r bs, e = .returned c ∧ R r bs ∧ Evol S S' w w' O O' ∧ Mat S' w' O' (hp ++ bs.map (shB hp.length)) ∧ Rep S' w' O' (shV hp.length r) c :=
 rel_callP hc hm hsz hr (q := hp.length) (pl := fun bs => hp ++ bs.map (shB hp.length)) fun _ bs _ => placed hm (q := none) (bs := bs) trivial
theorem own_call {f : Nat} {as0 : List V} {r : V} {bs : List Blk} (hc : OwnCall P f as0 r bs) {S : Nat → Prop} {w : World} {O : OInfo} {hp : List Blk} (hm : Mat S w O hp) {cargs : Array Value}
  (hsz : cargs.size = as0.length) (hr : RepL S w noO as0 cargs.toList) {q : Nat} {hp' : List Blk} (hpl : Placed O hp q bs hp') :
  Calls P f cargs w fun e w' => ∃ c S' O', e = .returned c ∧ Evol S S' w w' O O' ∧ Mat S' w' O' hp' ∧ Rep S' w' O' (shV q r) c := by
 have hc' : RelCall P f as0 fun r' hp' => r' = r ∧ hp' = bs := by
  intro S w cargs hS hsz hr
  refine (hc S w cargs hS hsz hr).mono ?_
  rintro e w' ⟨c, S', O', he, h1, h2, h3⟩
  exact ⟨c, S', O', r, bs, he, ⟨rfl, rfl⟩, h1, h2, h3⟩
 refine (rel_callP hc' hm hsz hr (q := q) (pl := fun _ => hp') (by rintro r' bs' ⟨rfl, rfl⟩; exact hpl)).mono ?_
 rintro e w' ⟨c, S', O', r', bs', he, ⟨rfl, rfl⟩, h1, h2, h3⟩
 exact ⟨c, S', O', he, h1, h2, h3⟩
theorem own_callR {f : Nat} {as0 : List V} {r : V} {bs : List Blk} {S : Nat → Prop} {w : World} {O : OInfo} {hp : List Blk} (hm : Mat S w O hp) (hc : OwnCall P f (as0.map (vw hp 8)) r bs) {cargs : Array Value}
  (hsz : cargs.size = as0.length) (hr : RepL S w O as0 cargs.toList) (hfl : rflat r = true ∧ bs.all rflatB = true) {q : Nat} {hp' : List Blk} (hpl : Placed O hp q bs hp') :
  Calls P f cargs w fun e w' => ∃ c S' O', e = .returned c ∧ Evol S S' w w' O O' ∧ Mat S' w' O' hp' ∧ Rep S' w' O' (shV q r) c := by
 have hc' : RelCall P f (as0.map (vw hp 8)) fun r' hp' => r' = r ∧ hp' = bs := by
  intro S w cargs hS hsz hr
  refine (hc S w cargs hS hsz hr).mono ?_
  rintro e w' ⟨c, S', O', he, h1, h2, h3⟩
  exact ⟨c, S', O', r, bs, he, ⟨rfl, rfl⟩, h1, h2, h3⟩
 refine (rel_callR hm hc' hsz hr (by rintro r' bs' ⟨rfl, rfl⟩; exact hfl) (q := q) (pl := fun _ => hp') (by rintro r' bs' ⟨rfl, rfl⟩; exact hpl)).mono ?_
 rintro e w' ⟨c, S', O', r', bs', he, ⟨rfl, rfl⟩, h1, h2, h3⟩
 exact ⟨c, S', O', he, h1, h2, h3⟩
theorem vwL_noref {S : Nat → Prop} {w : World} {O : OInfo} {hp : List Blk} : ∀ (as0 : List V) (cs : List Value), hasRefL as0 = false → RepL S w O as0 cs → RepL S w noO (as0.map (vw hp 8)) cs
 | [], _, _, _ => by simp [RepL]
 | _ :: _, [], _, h => by simp [RepL] at h
 | v :: vs, c :: cs, hn, h => by
  simp only [hasRefL, Bool.or_eq_false_iff] at hn
  simp only [RepL] at h
  simp only [List.map_cons, RepL]
  exact ⟨vw_noref 8 v c hn.1 (noref_rep v c hn.1 h.1), vwL_noref vs cs hn.2 h.2⟩
mutual
def rids : V → List Nat
 | .ad id _ _ => [id]
 | .rf id _ _ _ _ => [id]
 | .mp id _ => [id]
 | .ag cs | .tp cs => ridsL cs
 | .fn _ cs => ridsL cs
 | .gv _ v => rids v
 | _ => []
def ridsL : List V → List Nat
 | [] => []
 | v :: vs => rids v ++ ridsL vs
end
theorem noref_drop : ∀ (vs : List V) (n : Nat), hasRefL vs = false → hasRefL (vs.drop n) = false
 | [], n, _ => by simp [hasRefL]
 | v :: vs, 0, h => by simpa using h
 | v :: vs, n + 1, h => by
  simp only [hasRefL, Bool.or_eq_false_iff] at h
  simpa using noref_drop vs n h.2
def leafB (hp : List Blk) (id : Nat) : Bool := match hp[id]? with | some (.cells _ vs) => !hasRefL vs | some (.map _ _ vs) => !hasRefL vs | _ => false
def kill1 : Blk → Blk | .cells g _ => .dead (g + 1) | .map _ _ _ => .dead 1 | b => b
def killB (hp : List Blk) (id : Nat) : List Blk := match hp[id]? with | some b => hp.set id (kill1 b) | none => hp
theorem kill1_idem (b : Blk) : kill1 (kill1 b) = kill1 b := by cases b <;> rfl
theorem killB_length (hp : List Blk) (id : Nat) : (killB hp id).length = hp.length := by
 unfold killB; split <;> simp
theorem killB_get (hp : List Blk) (id j : Nat) : (killB hp id)[j]? = if j = id then hp[j]?.map kill1 else hp[j]? := by
 unfold killB
 split
 ·rename_i b hb
  by_cases h : j = id
  ·subst h
   rw [if_pos rfl, List.getElem?_set_self (getElemLt hb), hb]; rfl
  ·rw [if_neg h, List.getElem?_set_ne (Ne.symm h)]
 ·rename_i hb
  by_cases h : j = id
  ·subst h
   rw [if_pos rfl, hb]; rfl
  ·rw [if_neg h]
theorem kills_length : ∀ (L : List Nat) (hp : List Blk), (L.foldl killB hp).length = hp.length
 | [], _ => rfl
 | id :: L, hp => by rw [List.foldl_cons, kills_length L, killB_length]
theorem kills_get : ∀ (L : List Nat) (hp : List Blk) (j : Nat), (L.foldl killB hp)[j]? = if j ∈ L then hp[j]?.map kill1 else hp[j]?
 | [], hp, j => by simp
 | id :: L, hp, j => by
  rw [List.foldl_cons, kills_get L, killB_get]
  by_cases h : j = id
  ·subst h
   by_cases h' : j ∈ L
   ·simp [h', Function.comp_def, kill1_idem]
   ·simp [h']
  ·by_cases h' : j ∈ L <;> simp [h, h']
def Frz (S : Nat → Prop) (O : OInfo) (L : List Nat) (k : Nat) : Prop := S k ∨ ∃ id, id ∈ L ∧ ∃ g, O id = some (g, some k)
def frzO (O : OInfo) (L : List Nat) : OInfo := fun id => if id ∈ L then (O id).map fun x => (x.1 + 1, none) else O id
theorem frz_ext {S : Nat → Prop} {w : World} {O : OInfo} (L : List Nat) : Ext S (Frz S O L) w w O (frzO O L) := by
 refine ⟨fun n h => ⟨.inl h, rfl⟩, fun id g ob h => ?_⟩
 unfold frzO
 by_cases hL : id ∈ L
 ·exact ⟨g + 1, none, by simp [hL, h], by omega, fun e => by omega⟩
 ·exact ⟨g, ob, by simp [hL, h], Nat.le_refl _, fun _ => ⟨rfl, fun b cur e _ hh => ⟨cur, hh, rfl⟩⟩⟩
theorem frzO_some {O : OInfo} {L : List Nat} {id g b : Nat} (h : frzO O L id = some (g, some b)) : id ∉ L ∧ O id = some (g, some b) := by
 unfold frzO at h
 by_cases hL : id ∈ L
 ·rw [if_pos hL] at h
  cases ho : O id <;> rw [ho] at h <;> simp at h
 ·rw [if_neg hL] at h
  exact ⟨hL, h⟩
theorem frz_evol {S : Nat → Prop} {w : World} {O : OInfo} (L : List Nat) : Evol S (Frz S O L) w w O (frzO O L) := by
 refine ⟨frz_ext L, rfl, rfl, rfl, Nat.le_refl _, fun _ _ => rfl, fun _ _ _ => rfl, ?_, ?_⟩
 ·rintro n ⟨id, g, h⟩
  exact .inl ⟨id, g, (frzO_some h).2⟩
 ·rintro n (h | ⟨id, _, g, h⟩)
  ·exact .inl h
  ·exact .inr (.inl ⟨id, g, h⟩)
theorem frz_mat {S : Nat → Prop} {w : World} {O : OInfo} {hp : List Blk} (hm : Mat S w O hp) {L : List Nat} (hL : L.all (leafB hp) = true) : Mat (Frz S O L) w (frzO O L) (L.foldl killB hp) := by
 refine ⟨?_, ?_, ?_, ?_⟩
 ·rintro n (h | ⟨id, _, g, h⟩)
  ·exact hm.lt n h
  ·exact (hm.own id g n h).1
 ·intro id g b h
  obtain ⟨h1, h2⟩ := frzO_some h
  refine ⟨(hm.own id g b h2).1, ?_⟩
  rintro (h' | ⟨id', hi, g', h'⟩)
  ·exact (hm.own id g b h2).2 h'
  ·have := hm.inj id id' g g' b h2 h'
   exact h1 (this ▸ hi)
 ·intro id id' g g' b h h'
  exact hm.inj id id' g g' b (frzO_some h).2 (frzO_some h').2
 ·intro id g ob h
  rw [kills_get]
  by_cases hi : id ∈ L
  ·rw [if_pos hi]
   unfold frzO at h
   rw [if_pos hi] at h
   obtain ⟨x, ho, hx⟩ := Option.map_eq_some_iff.1 h
   obtain ⟨g0, ob0⟩ := x
   cases hx
   have hb := hm.blk id g0 ob0 ho
   have hl := List.all_eq_true.1 hL id hi
   unfold leafB at hl
   split at hl
   ·rename_i g' vs hid
    rw [hid] at hb ⊢
    simp only [BlkOk] at hb
    simp only [Option.map_some, kill1, BlkOk]
    rw [hb.1]
   ·rename_i st ks vs hid
    rw [hid] at hb ⊢
    simp only [BlkOk] at hb
    simp only [Option.map_some, kill1, BlkOk]
    rw [hb.1]
   ·cases hl
  ·rw [if_neg hi]
   unfold frzO at h
   rw [if_neg hi] at h
   exact (hm.blk id g ob h).ext (frz_ext L) fun _ _ => rfl
theorem frz_vw {S : Nat → Prop} {w : World} {O : OInfo} {hp : List Blk} (hm : Mat S w O hp) {L : List Nat} (hL : L.all (leafB hp) = true) : ∀ (n : Nat) (v : V) (c : Value), (∀ id ∈ rids v, id ∈ L) → Rep S w O v c → Rep (Frz S O L) w noO (vw hp n v) c := by
 have hx : Ext S (Frz S O L) w w noO noO := ⟨fun k hk => ⟨.inl hk, rfl⟩, fun _ _ _ h => by cases h⟩
 intro n
 induction n with
 | zero => intro v c _ _; simp [vw, Rep]
 | succ n ih =>
  have ihL : ∀ (vs : List V) (cs : List Value), (∀ id ∈ ridsL vs, id ∈ L) → RepL S w O vs cs → RepL (Frz S O L) w noO (vs.map (vw hp n)) cs := by
   intro vs
   induction vs with
   | nil => intro cs _ _; simp [RepL]
   | cons v vs ihv =>
    intro cs hi h
    cases cs with
    | nil => simp [RepL] at h
    | cons c cs =>
     simp only [RepL] at h
     simp only [ridsL, List.mem_append] at hi
     simp only [List.map_cons, RepL]
     exact ⟨ih v c (fun id h' => hi id (.inl h')) h.1, ihv cs (fun id h' => hi id (.inr h')) h.2⟩
  have inner : ∀ (vs : List V) (cs : List Value), hasRefL vs = false → RepL S w O vs cs → RepL (Frz S O L) w noO (vs.map (vw hp n)) cs := by
   intro vs
   induction vs with
   | nil => intro cs _ _; simp [RepL]
   | cons v vs ihv =>
    intro cs hn h
    cases cs with
    | nil => simp [RepL] at h
    | cons c cs =>
     simp only [RepL] at h
     simp only [hasRefL, Bool.or_eq_false_iff] at hn
     simp only [List.map_cons, RepL]
     exact ⟨Rep.ext hx _ _ (vw_noref n v c hn.1 (noref_rep v c hn.1 h.1)), ihv cs hn.2 h.2⟩
  intro v c hi h
  cases v with
  | u => simp [vw, Rep]
  | b x => simpa [vw, Rep] using h
  | i x => simpa [vw, Rep] using h
  | pn => simpa [vw, Rep] using h
  | yl x => simpa [vw, Rep] using h
  | w k x => simpa [vw, Rep] using h
  | z es =>
   simp only [vw, Rep] at h ⊢
   obtain ⟨a, rfl⟩ := h
   exact ⟨a, 0, rfl, by simp, .inl trivial⟩
  | sl es rows =>
   have h' : Rep S w noO (.sl es rows) c := by simpa only [Rep] using h
   simpa [vw] using Rep.ext hx _ _ h'
  | sx es rows =>
   have h' : Rep S w noO (.sx es rows) c := by simpa only [Rep] using h
   simpa [vw] using Rep.ext hx _ _ h'
  | pa cs =>
   have h' : Rep S w noO (.pa cs) c := by simpa only [Rep] using h
   simpa [vw] using Rep.ext hx _ _ h'
  | ag cs =>
   simp only [vw, Rep] at h ⊢
   obtain ⟨ccs, hc, hn, hr⟩ := h
   exact ⟨ccs, hc, by simpa using hn, ihL _ _ (by simpa only [rids] using hi) hr⟩
  | tp cs =>
   simp only [vw, Rep] at h ⊢
   obtain ⟨ccs, hc, hn, hr⟩ := h
   exact ⟨ccs, hc, by simpa using hn, ihL _ _ (by simpa only [rids] using hi) hr⟩
  | fn f cs =>
   simp only [vw, Rep] at h ⊢
   obtain ⟨ccs, hc, hn, hr⟩ := h
   exact ⟨ccs, hc, by simpa using hn, ihL _ _ (by simpa only [rids] using hi) hr⟩
  | fb f bs =>
   have h' : Rep S w noO (.fb f bs) c := by simpa only [Rep] using h
   simpa [vw] using Rep.ext hx _ _ h'
  | pm st ks vs =>
   have h' : Rep S w noO (.pm st ks vs) c := by simpa only [Rep] using h
   simpa [vw] using Rep.ext hx _ _ h'
  | mp id g =>
   have hiL : id ∈ L := hi id (by simp [rids])
   have hl := List.all_eq_true.1 hL id hiL
   unfold leafB at hl
   simp only [vw]
   split
   ·rename_i st ks vs hid
    rw [hid] at hl
    split
    ·rename_i hg
     subst hg
     simp only [Rep] at h ⊢
     obtain ⟨_, gO, ob, hO, hle, hr⟩ := h
     have hb := hm.blk id gO ob hO
     rw [hid] at hb
     simp only [BlkOk] at hb
     obtain ⟨h0, b, es, rfl, hh, h1, h2, h3, h4⟩ := hb
     obtain ⟨b', hb', rfl⟩ := hr h0.symm
     cases hb'
     have hl' : hasRefL vs = false := by simpa using hl
     exact ⟨b, es, rfl, .inr ⟨id, hiL, gO, hO⟩, hh, h1, inner _ _ hl' h2, by simpa using h3, h4⟩
    ·simp [Rep]
   ·simp [Rep]
  | it id g => simp [vw, Rep]
  | gv q v =>
   simp only [vw, Rep] at h ⊢
   exact ⟨fun hq => ih v c (by simpa only [rids] using hi) (h.1 hq), h.2⟩
  | ad id g off =>
   have hiL : id ∈ L := hi id (by simp [rids])
   have hl := List.all_eq_true.1 hL id hiL
   unfold leafB at hl
   simp only [vw]
   split
   ·rename_i g' vs hid
    rw [hid] at hl
    split
    ·rename_i hg
     subst hg
     simp only [Rep] at h ⊢
     obtain ⟨_, gO, ob, hO, hle, hr⟩ := h
     have hb := hm.blk id gO ob hO
     rw [hid] at hb
     simp only [BlkOk] at hb
     obtain ⟨b, rfl, rfl⟩ := hr hb.1
     obtain ⟨cur, e, hh, hrl, h1⟩ := hb.2
     refine ⟨b, off, cur, e, (0, 0), rfl, .inr ⟨id, hiL, gO, hO⟩, hh, ?_⟩
     refine inner _ _ ?_ (hrl.drop off)
     have hl' : hasRefL vs = false := by simpa using hl
     exact noref_drop vs off hl'
    ·simp [Rep]
   ·simp [Rep]
  | rf id g off len es =>
   have hiL : id ∈ L := hi id (by simp [rids])
   have hl := List.all_eq_true.1 hL id hiL
   unfold leafB at hl
   simp only [vw]
   split
   ·rename_i g' vs hid
    rw [hid] at hl
    have hl' : hasRefL vs = false := by simpa using hl
    split
    ·rename_i hg
     obtain ⟨hg, hfit⟩ := hg
     subst hg
     simp only [Rep] at h ⊢
     obtain ⟨_, gO, ob, hO, hle, hr⟩ := h
     have hb := hm.blk id gO ob hO
     rw [hid] at hb
     simp only [BlkOk] at hb
     rcases hr hb.1 with ⟨b, cap, cur', e', rfl, hh', rfl, hlc, hsz⟩ | ⟨rfl, rfl, a, rfl⟩
     ·obtain ⟨cur, e, hh, hrl, h1⟩ := hb.2
      refine ⟨_, cap, by simp [chunk_length], by simpa [chunk_length] using hlc, .inr ⟨b, off, cur, e, (0, 0), rfl, .inr ⟨id, hiL, gO, hO⟩, hh, ?_⟩⟩
      rw [chunk_map]
      refine chunk_rows len off _ ?_ (fun c hc => h1 c (List.mem_of_mem_drop hc)) (by simpa using hfit)
      rw [← List.map_drop]
      exact inner _ _ (noref_drop vs off hl') (hrl.drop off)
     ·exact ⟨a, 0, by simp [chunk], by simp [chunk], .inl (by simp [chunk])⟩
    ·simp [Rep]
   ·simp [Rep]
def ocV (Γ : Gam) (hp : List Blk) (q : Option Nat) (f : V) (args : List V) : Prop × V × List Blk :=
 match f with
 | .fn g caps => match Γ (1000000 + g) ((args ++ caps).map (vw hp 8)) with
  | (ok, .tp [r, .tp bs]) => match hasRefL (args ++ caps) && !(rflat r && (bs.map vB).all rflatB) with
   | false => (g < 1000000 ∧ ok ∧ plO hp q bs.length, shV (plQ hp q) r, plB hp q (bs.map vB))
   | true => (g < 1000000 ∧ ok ∧ (ridsL (args ++ caps)).all (leafB hp) = true ∧ plO hp q bs.length, shV (plQ hp q) r, plB ((ridsL (args ++ caps)).foldl killB hp) q (bs.map vB))
  | _ => (False, .u, hp)
 | _ => (False, .u, hp)
theorem kills_plO {hp : List Blk} {L : List Nat} {q : Option Nat} {n : Nat} (h : plO hp q n) : plO (L.foldl killB hp) q n := by
 cases q with
 | none => trivial
 | some q =>
  have hh := holesB_spec h
  refine holesB_of fun i hi => ?_
  rw [kills_get, hh i hi]
  by_cases hL : q + i ∈ L
  ·rw [if_pos hL]; rfl
  ·rw [if_neg hL]
theorem kills_plQ {hp : List Blk} {L : List Nat} {q : Option Nat} : plQ (L.foldl killB hp) q = plQ hp q := by
 cases q <;> simp [plQ, kills_length]
def resOc (P : Program) (o : Oper) : Option (Od × List Od) :=
 match o.op with
 | .call c => match c.callee with
  | .value f => do return (← rOd P 0 f, ← rOds P c.args.toList c.argTypes.toList)
  | _ => none
 | _ => none
theorem oc_sound {F : Fence} {n : Nat} {Γ : Gam} (hG : GOk P Γ) (hF : OpenF F) {o : Oper} {f : Od} {xs : List Od} (hr : resOc P o = some (f, xs)) {S : Nat → Prop} {w : World} {O : OInfo} {hp : List Blk} (hm : Mat S w O hp)
  {a : Act} {ρ : Od → V} (hρ : OdsOk P S w O ρ a.eval o) {q : Option Nat} (hok : (ocV Γ hp q (ρ f) (xs.map ρ)).1) {K : Act → World → Prop} {Q' : Exit → Act → World → Prop}
  (hK : ∀ c S' w' O', Evol S S' w w' O O' → Mat S' w' O' (ocV Γ hp q (ρ f) (xs.map ρ)).2.2 → Rep S' w' O' (ocV Γ hp q (ρ f) (xs.map ρ)).2.1 c → K (a.put o.dst c) w') : o.wpIn F n P a w K Q' := by
 unfold resOc at hr
 unfold OdsOk at hρ
 cases hop : o.op <;> rw [hop] at hr hρ <;> simp only [Op.operands] at hρ <;> first | (simp at hr; done) | (try dsimp only at hr)
 case call c =>
  split at hr
  ·rename_i f0 hcal
   simp only [Option.bind_eq_bind, Option.bind_eq_some_iff, Option.pure_def, Option.some.injEq, Prod.mk.injEq] at hr
   obtain ⟨f', hf, ods, hods, rfl, rfl⟩ := hr
   have r1 := hρ f0 (by simp [Call.operands, hcal]) _ _ hf
   have rs := rOds_rep _ _ _ hods (fun x hx => hρ x (by simp only [Call.operands, Array.mem_append]; exact .inr (by simpa using hx)))
   unfold ocV at hok hK
   split at hok
   ·rename_i g caps hg
    rw [hg] at r1 hK
    simp only at hK
    split at hok
    ·rename_i ok r bs hΓ
     simp only [hΓ] at hK
     simp only [Rep] at r1
     obtain ⟨ccs, hc, hn, hrl⟩ := r1
     have hall := RepL.append _ _ _ _ rs.1 (by simp [rs.2]) hrl
     have hen : Enters P g ∧ ∃ S' O', Evol S S' w w O O' ∧ Calls P g (c.args.map a.eval ++ ccs) w fun e w' => ∃ c S'' O'', e = .returned c ∧ Evol S' S'' w w' O' O'' ∧ (∀ K : V × List Blk → Prop,
       K (match hasRefL (ods.map ρ ++ caps) && !(rflat r && (bs.map vB).all rflatB) with
        | false => (shV (plQ hp q) r, plB hp q (bs.map vB))
        | true => (shV (plQ hp q) r, plB ((ridsL (ods.map ρ ++ caps)).foldl killB hp) q (bs.map vB))) → ∃ x, K x ∧ Mat S'' w' O'' x.2 ∧ Rep S'' w' O'' x.1 c) := by
      split at hok
      ·rename_i hb
       obtain ⟨hg6, hok, hpo⟩ := hok
       obtain ⟨hen, hcall⟩ := hG.own g _ r bs (by rw [hΓ]; exact hok) hg6 (by rw [hΓ])
       refine ⟨hen, S, O, Evol.refl S w O, ?_⟩
       by_cases hrf : hasRefL (ods.map ρ ++ caps) = true
       ·rw [hrf, Bool.true_and, Bool.not_eq_false', Bool.and_eq_true] at hb
        refine (own_callR hm hcall (cargs := c.args.map a.eval ++ ccs) (by simp [rs.2, hn]) (by simpa using hall) hb (placed hm (by simpa using hpo))).mono ?_
        rintro e w' ⟨cc, S', O', rfl, h1, h2, h3⟩
        exact ⟨cc, S', O', rfl, h1, fun K hK => ⟨_, hK, h2, h3⟩⟩
       ·refine (own_call hcall hm (cargs := c.args.map a.eval ++ ccs) (by simp [rs.2, hn]) (vwL_noref _ _ (by simpa using hrf) (by simpa using hall)) (placed hm (by simpa using hpo))).mono ?_
        rintro e w' ⟨cc, S', O', rfl, h1, h2, h3⟩
        exact ⟨cc, S', O', rfl, h1, fun K hK => ⟨_, hK, h2, h3⟩⟩
      ·rename_i hb
       obtain ⟨hg6, hok, hlf, hpo⟩ := hok
       obtain ⟨hen, hcall⟩ := hG.own g _ r bs (by rw [hΓ]; exact hok) hg6 (by rw [hΓ])
       refine ⟨hen, _, _, frz_evol (ridsL (ods.map ρ ++ caps)), ?_⟩
       have hl2 : ∀ (vs : List V) (cs : List Value), (∀ id ∈ ridsL vs, id ∈ ridsL (ods.map ρ ++ caps)) → RepL S w O vs cs → RepL (Frz S O (ridsL (ods.map ρ ++ caps))) w noO (vs.map (vw hp 8)) cs := by
        intro vs
        induction vs with
        | nil => intro cs _ _; simp [RepL]
        | cons v vs ihv =>
         intro cs hi h
         cases cs with
         | nil => simp [RepL] at h
         | cons c cs =>
          simp only [RepL] at h
          simp only [ridsL, List.mem_append] at hi
          simp only [List.map_cons, RepL]
          exact ⟨frz_vw hm hlf 8 v c (fun id h' => hi id (.inl h')) h.1, ihv cs (fun id h' => hi id (.inr h')) h.2⟩
       refine (own_call hcall (frz_mat hm hlf) (cargs := c.args.map a.eval ++ ccs) (by simp [rs.2, hn]) (hl2 _ _ (fun _ h => h) (by simpa using hall)) (placed (frz_mat hm hlf) (q := q) (kills_plO (by simpa using hpo)))).mono ?_
       rintro e w' ⟨cc, S', O', rfl, h1, h2, h3⟩
       rw [kills_plQ] at h3
       exact ⟨cc, S', O', rfl, h1, fun K hK => ⟨_, hK, h2, h3⟩⟩
     obtain ⟨hen, S', O', hev0, hcalls⟩ := hen
     refine wpIn_enter (w' := w) (f := g) (args := c.args.map a.eval ++ ccs) hF (by simp [hop]) ?_ (hcalls.mono ?_)
     ·have hd : (resolve a.eval c o.type).run P w = .ok { target := .fn (.func g) ccs, args := c.args.map a.eval } w := by
       simp [resolve, hcal, hc, Deferred.ofValue]
      simp only [execOp, hop, Sem.run_bind, hd, Result.andThen_ok, invoke]
      exact hen _ _
     ·rintro e w' ⟨v, S'', O'', rfl, hev, hx⟩
      refine ⟨v, rfl, ?_⟩
      obtain ⟨x, hxe, hmat, hrep⟩ := hx (fun x => x = _) rfl
      subst hxe
      refine hK v S'' w' O'' (hev0.trans hev) ?_ ?_
      ·revert hmat; split <;> exact id
      ·revert hrep; split <;> exact id
    ·exact hok.elim
   ·exact hok.elim
  ·cases hr
end
end Go.Fam
namespace Go.Fam
structure St where
 fr : Nat → V
 hp : List Blk
def upd (fr : Nat → V) (d : Option Nat) (v : V) : Nat → V := match d with
 | none => fr
 | some d => fun t => if t = d then v else fr t
inductive RX where
 | q (x : Q) | w (x : W) | o (f : Od) (args : List Od)
structure RO where
 dst : Option Nat
 gd : Option (Nat × Bool)
 ts : List Nat
 nid : Option Nat
 x : RX
def evO (fr : Nat → V) : Od → V
 | .t n => fr n
 | .k v => v
def opv (g : Bool) (fr : Nat → V) (od : Od) : V := match g with
 | true => (ug (evO fr od)).2
 | false => evO fr od
def condB (fr : Nat → V) : Option (Nat × Bool) → Option Bool
 | none => some true
 | some (s, want) => match fr s with
  | .b x => some (x == want)
  | .gv c (.b x) => some (c && (x == want))
  | _ => none
def needQ (fr : Nat → V) (ts : List Nat) (q : Q) : Prop := match q with
 | .pick c a b => (ug (evO fr c)).1 = true ∧ (match (ug (evO fr c)).2 with
  | .b p => (p = true → (ug (evO fr a)).1 = true) ∧ (p = false → (ug (evO fr b)).1 = true)
  | _ => False)
 | _ => (ts.all fun n => (ug (fr n)).1) = true
def stepQ (Γ : Gam) (E : TypeId → Nat → Prop) (g : Bool) (o : RO) (q : Q) (σ : St) : Prop × V :=
 match g with
 | false => qv Γ E σ.hp q (opv false σ.fr)
 | true => match condB σ.fr o.gd with
  | none => (False, .u)
  | some c => match o.gd with
   | none => (needQ σ.fr o.ts q ∧ (qv Γ E σ.hp q (opv true σ.fr)).1, (qv Γ E σ.hp q (opv true σ.fr)).2)
   | some _ => (c = true → needQ σ.fr o.ts q ∧ (qv Γ E σ.hp q (opv true σ.fr)).1, .gv c (qv Γ E σ.hp q (opv true σ.fr)).2)
def needW (g : Bool) (o : RO) (fr : Nat → V) : Prop := match g with
 | false => True
 | true => (o.ts.all fun n => (ug (fr n)).1) = true
def stepW (E : TypeId → Nat → Prop) (g : Bool) (base : Nat) (o : RO) (q : W) (σ : St) : Prop × V × List Blk :=
 match nv σ.hp q (opv g σ.fr) with
 | some (ok, b, mk) => match o.nid with
  | none => (needW g o σ.fr ∧ ok, mk σ.hp.length, σ.hp ++ [b])
  | some k => (needW g o σ.fr ∧ ok ∧ σ.hp[base + k]? = some .hole, mk (base + k), σ.hp.set (base + k) b)
 | none => (needW g o σ.fr ∧ (sv E σ.hp q (opv g σ.fr)).1, (sv E σ.hp q (opv g σ.fr)).2.1, putB σ.hp (sv E σ.hp q (opv g σ.fr)).2.2)
def nidQ (base : Nat) : Option Nat → Option Nat
 | none => none
 | some k => some (base + k)
def stepO (Γ : Gam) (g : Bool) (base : Nat) (o : RO) (f : Od) (args : List Od) (σ : St) : Prop × V × List Blk :=
 (needW g o σ.fr ∧ (ocV Γ σ.hp (nidQ base o.nid) (opv g σ.fr f) (args.map (opv g σ.fr))).1, (ocV Γ σ.hp (nidQ base o.nid) (opv g σ.fr f) (args.map (opv g σ.fr))).2)
def step (Γ : Gam) (E : TypeId → Nat → Prop) (g : Bool) (base : Nat) (o : RO) (σ : St) : Prop × St :=
 match o.x with
 | .q q => ((stepQ Γ E g o q σ).1, ⟨upd σ.fr o.dst (stepQ Γ E g o q σ).2, σ.hp⟩)
 | .w q => ((stepW E g base o q σ).1, ⟨upd σ.fr o.dst (stepW E g base o q σ).2.1, (stepW E g base o q σ).2.2⟩)
 | .o f args => ((stepO Γ g base o f args σ).1, ⟨upd σ.fr o.dst (stepO Γ g base o f args σ).2.1, (stepO Γ g base o f args σ).2.2⟩)
def runR (Γ : Gam) (E : TypeId → Nat → Prop) (g : Bool) (base : Nat) : List RO → St → (St → Prop) → Prop
 | [], σ, K => K σ
 | o :: l, σ, K => (step Γ E g base o σ).1 ∧ runR Γ E g base l (step Γ E g base o σ).2 K
def tmpOf : Operand → Option Nat | .tmp t => some t | _ => none
def dstOk (N : Nat × Nat) : Option Nat → Bool | some d => decide (d < N.1) && decide (N.2 ≤ d) | none => true
def puOf (pu : List Nat) : Option Nat → Bool | some d => pu.contains d | none => false
def ocOf (pu : List Nat) : Option Nat → Bool | some d => pu.contains (1000000 + d) | none => false
def gdOf (ops : Array Oper) : Option (Nat × Bool) → Option (Option (Nat × Bool))
 | none => some none
 | some (j, want) => ((ops[j]?).bind (·.dst)).map fun s => some (s, want)
def resO (P : Program) (pu : List Nat) (N : Nat × Nat) (ops : Array Oper) (o : Oper) : Option RO :=
 if dstOk N o.dst then
  match gdOf ops o.guard with
  | none => none
  | some gd => if ocOf pu o.dst then (if o.guard.isNone then (resOc P o).map fun x => ⟨o.dst, none, o.op.operands.toList.filterMap tmpOf, none, .o x.1 x.2⟩ else none) else match resQ P (puOf pu o.dst) o with
   | some q => some ⟨o.dst, gd, o.op.operands.toList.filterMap tmpOf, none, .q q⟩
   | none => if o.guard.isNone then (resW P o).map fun w => ⟨o.dst, none, o.op.operands.toList.filterMap tmpOf, none, .w w⟩ else none
 else none
def FrM (S : Nat → Prop) (w : World) (O : OInfo) (fr : Nat → V) (a : Act) : Prop := ∀ t, Rep S w O (fr t) (a.tmps.getD t undef)
structure FrI where
 n : Nat
 md : Nat
 T : Nat → Value
 al : List V → Prop
def FrI.nm (M : FrI) : Nat × Nat := (M.n, M.md)
structure SR (M : FrI) (S : Nat → Prop) (w : World) (O : OInfo) (σ : St) (a : Act) : Prop where
 size : a.tmps.size = M.n
 kept : ∀ t, t < M.md → a.tmps.getD t undef = M.T t
 fr : FrM S w O σ.fr a
 mat : Mat S w O σ.hp
section
variable {P : Program} {F : Fence} {n : Nat}
theorem FrM.put {S S' : Nat → Prop} {w w' : World} {O O' : OInfo} {fr : Nat → V} {a : Act} (h : FrM S w O fr a) (hx : Ext S S' w w' O O') {dst : Option Nat} (hd : ∀ d, dst = some d → d < a.tmps.size) {v : V} {c : Value} (hv : Rep S' w' O' v c) :
  FrM S' w' O' (upd fr dst v) (a.put dst c) := by
 intro t
 cases dst with
 | none => exact Rep.ext hx _ _ (h t)
 | some d =>
  simp only [upd, Act.put]
  have hlt := hd d rfl
  split
  ·rename_i e; subst e
   simpa [hlt] using hv
  ·rename_i e
   have : (a.tmps.setIfInBounds d c).getD t undef = a.tmps.getD t undef := by simp [Array.getElem?_setIfInBounds_ne (Ne.symm e)]
   rw [this]
   exact Rep.ext hx _ _ (h t)
theorem FrM.ext {S S' : Nat → Prop} {w w' : World} {O O' : OInfo} {fr : Nat → V} {a : Act} (h : FrM S w O fr a) (hx : Ext S S' w w' O O') : FrM S' w' O' fr a := fun t => Rep.ext hx _ _ (h t)
theorem ug_rep {S : Nat → Prop} {w : World} {O : OInfo} {v : V} {c : Value} (h : Rep S w O v c) (hu : (ug v).1 = true) : Rep S w O (ug v).2 c := by
 cases v <;> try exact h
 case gv q v =>
  simp only [Rep] at h
  exact h.1 hu
theorem cV_ug {t : TypeId} {c : Value} {v : V} (h : cV P t c = some v) : (ug v).1 = true := by
 cases c with
 | bool b => simp [cV] at h; subst h; rfl
 | int k n => cases k <;> simp [cV] at h <;> subst h <;> rfl
 | slice a l cp =>
  rcases l with _ | l
  ·rcases cp with _ | cp
   ·simp [cV] at h; subst h; rfl
   ·simp [cV] at h
  ·simp [cV] at h
 | pointer a => cases a <;> simp [cV] at h; subst h; rfl
 | agg cs =>
  simp only [cV] at h
  split at h
  ·simp at h; subst h; rfl
  ·simp at h
   obtain ⟨vs, h1, rfl⟩ := h
   rfl
 | tuple cs =>
  simp only [cV] at h
  split at h
  ·simp at h; subst h; rfl
  ·cases h
 | map m =>
  cases m with
  | none => simp [cV] at h; subst h; rfl
  | some m => simp [cV] at h
 | nilFunc => simp [cV] at h; subst h; rfl
 | _ => simp [cV] at h
theorem odsOk_plain {S : Nat → Prop} {w : World} {O : OInfo} {fr : Nat → V} {a : Act} (h : FrM S w O fr a) (o : Oper) : OdsOk P S w O (opv false fr) a.eval o := by
 intro x _ t od hod
 cases x with
 | tmp k => simp only [rOd, Option.some.injEq] at hod; subst hod; exact h k
 | const v =>
  simp only [rOd, Option.map_eq_some_iff] at hod
  obtain ⟨v', hv, rfl⟩ := hod
  exact cV_ok hv S w O
 | func f =>
  simp only [rOd, Option.some.injEq] at hod
  subst hod
  simp only [opv, evO, Act.eval, Rep]
  exact ⟨#[], rfl, rfl, by simp [RepL]⟩
 | global g => simp [rOd] at hod
theorem odsOk_guard {S : Nat → Prop} {w : World} {O : OInfo} {fr : Nat → V} {a : Act} (h : FrM S w O fr a) (o : Oper) (hn : ((o.op.operands.toList.filterMap tmpOf).all fun n => (ug (fr n)).1) = true) : OdsOk P S w O (opv true fr) a.eval o := by
 intro x hx t od hod
 cases x with
 | tmp k =>
  simp only [rOd, Option.some.injEq] at hod; subst hod
  refine ug_rep (h k) ?_
  rw [List.all_eq_true] at hn
  exact hn k (List.mem_filterMap.2 ⟨.tmp k, by simpa using hx, rfl⟩)
 | const v =>
  simp only [rOd, Option.map_eq_some_iff] at hod
  obtain ⟨v', hv, rfl⟩ := hod
  have := cV_ok hv S w O
  exact ug_rep this (cV_ug hv)
 | func f =>
  simp only [rOd, Option.some.injEq] at hod
  subst hod
  simp only [opv, evO, ug, Act.eval, Rep]
  exact ⟨#[], rfl, rfl, by simp [RepL]⟩
 | global g => simp [rOd] at hod
theorem q_step {Γ : Gam} (hG : GOk P Γ) (hF : OpenF F) {pu : Bool} {o : Oper} {q : Q} (hr : resQ P pu o = some q) {S : Nat → Prop} {w : World} {O : OInfo} {hp : List Blk} (hm : Mat S w O hp)
  {a : Act} {fr : Nat → V} (hfr : FrM S w O fr a) {ro : RO} (hts : ro.ts = o.op.operands.toList.filterMap tmpOf) (hneed : needQ fr ro.ts q) (hok : (qv Γ (EqFlat P) hp q (opv true fr)).1)
  {K : Act → World → Prop} {Q' : Exit → Act → World → Prop}
  (hK : ∀ c S' w', Evol S S' w w' O O → Mat S' w' O hp → Rep S' w' O (qv Γ (EqFlat P) hp q (opv true fr)).2 c → K (a.put o.dst c) w') : o.wpIn F n P a w K Q' := by
 by_cases hpk : ∃ c x y, q = .pick c x y
 ·obtain ⟨c, x, y, rfl⟩ := hpk
  unfold resQ at hr
  cases hop : o.op <;> rw [hop] at hr <;> first | (simp at hr; done) | (try dsimp only at hr)
  case pick c' x' y' =>
   simp only [Option.bind_eq_bind, Option.bind_eq_some_iff, Option.pure_def, Option.some.injEq, Q.pick.injEq] at hr
   obtain ⟨c1, hc1, x1, hx1, y1, hy1, rfl, rfl, rfl⟩ := hr
   have base : ∀ (z : Operand) t od, rOd P t z = some od → Rep S w O (evO fr od) (a.eval z) := by
    intro z t od hod
    exact odsOk_plain (P := P) hfr { dst := none, op := .move z, type := 0, pos := "", after := #[], guard := none } z (by simp [Op.operands]) t od hod
   simp only [needQ] at hneed
   obtain ⟨hn1, hn2⟩ := hneed
   have r1 := ug_rep (base _ _ _ hc1) hn1
   simp only [qv, opv] at hok hK
   split at hok
   ·rename_i p hp'
    rw [hp'] at hn2 r1
    simp only [hp'] at hK
    rcases pickV_val hok with ⟨p1, hp1, rfl, hv⟩ | ⟨p1, hp1, rfl, hv⟩
    ·rw [hv] at hK
     refine wpIn_value (w' := w) (c := .bool p1) hF (by simp [hop]) ?_ (hK _ S w (Evol.refl S w O) hm (by simp [Rep]))
     have r2 := ug_rep (base _ _ _ hx1) (hn2.1 rfl)
     rw [hp1] at r2
     simp only [execOp, hop, rep_b r1]
     simp [asBool, rep_b r2]
    ·rw [hv] at hK
     refine wpIn_value (w' := w) (c := .bool p1) hF (by simp [hop]) ?_ (hK _ S w (Evol.refl S w O) hm (by simp [Rep]))
     have r3 := ug_rep (base _ _ _ hy1) (hn2.2 rfl)
     rw [hp1] at r3
     simp only [execOp, hop, rep_b r1]
     simp [asBool, rep_b r3]
   ·exact hok.elim
  all_goals
   exfalso
   clear hok hK hneed
   first
    | (simp [Option.bind_eq_some_iff] at hr; done)
    | ((repeat' split at hr) <;> first | (rename_i heq; simp at heq; done) | (simp [Option.bind_eq_some_iff] at hr; done) | (rename_i heq; exact absurd heq (by simp)))
 ·have hn : (ro.ts.all fun n => (ug (fr n)).1) = true := by
   cases q <;> first | exact hneed | exact absurd ⟨_, _, _, rfl⟩ hpk
  rw [hts] at hn
  exact q_sound hG hF hr hm (odsOk_guard hfr o hn) hok hK
theorem yield_cond {S : Nat → Prop} {w : World} {O : OInfo} {fr : Nat → V} {a : Act} (h : FrM S w O fr a) {ops : Array Oper} {o : Oper} {j : Nat} {want : Bool} (hg : o.guard = some (j, want)) {s : Nat} (hs : (ops[j]?).bind (·.dst) = some s) {c : Bool}
  (hc : condB fr (some (s, want)) = some c) : Region.wanted o (yielded ops a.tmps) = c := by
 have hr := h s
 simp only [condB] at hc
 have hy : Region.wanted o (yielded ops a.tmps) = ((match a.tmps[s]? with | some (.bool b) => some b | _ => none) == some want) := by
  simp only [Region.wanted, hg, yielded]
  rw [hs]
  rfl
 rw [hy]
 have key : ∀ x, a.tmps.getD s undef = .bool x → a.tmps[s]? = some (.bool x) := by
  intro x hx
  cases hts : a.tmps[s]? with
  | none => simp [hts, undef] at hx
  | some v => simpa [hts] using hx
 split at hc
 ·rename_i x hx
  rw [hx] at hr
  cases hc
  rw [key x (rep_b hr)]
  simp
 ·rename_i q x hx
  rw [hx] at hr
  cases hc
  simp only [Rep] at hr
  cases q with
  | true =>
   rw [key x (hr.1 rfl)]
   simp
  | false =>
   have hu := hr.2 rfl
   have : (match a.tmps[s]? with | some (.bool b) => some b | _ => none) = (none : Option Bool) := by
    cases hts : a.tmps[s]? with
    | none => rfl
    | some v =>
     have : v = undef := by simpa [hts] using hu
     subst this; rfl
   rw [this]; rfl
 ·cases hc
theorem resO_inv {pu : List Nat} {N : Nat × Nat} {ops : Array Oper} {o : Oper} {ro : RO} (h : resO P pu N ops o = some ro) :
  ro.dst = o.dst ∧ (∀ d, o.dst = some d → d < N.1 ∧ N.2 ≤ d) ∧ ro.ts = o.op.operands.toList.filterMap tmpOf ∧
  ((o.guard = none ∧ ro.gd = none) ∨ ∃ j want s, o.guard = some (j, want) ∧ (ops[j]?).bind (·.dst) = some s ∧ ro.gd = some (s, want)) ∧
  ((∃ q b, ro.x = .q q ∧ resQ P b o = some q) ∨ (∃ q, ro.x = .w q ∧ o.guard = none ∧ resW P o = some q) ∨ (∃ f xs, ro.x = .o f xs ∧ o.guard = none ∧ resOc P o = some (f, xs))) := by
 unfold resO at h
 split at h
 ·rename_i hd
  have hdst : ∀ d, o.dst = some d → d < N.1 ∧ N.2 ≤ d := by
   intro d hd'
   rw [hd'] at hd
   simpa [dstOk] using hd
  split at h
  ·cases h
  ·rename_i gd hgd
   have hg : (o.guard = none ∧ gd = none) ∨ ∃ j want s, o.guard = some (j, want) ∧ (ops[j]?).bind (·.dst) = some s ∧ gd = some (s, want) := by
    cases hgu : o.guard with
    | none => rw [hgu] at hgd; simp [gdOf] at hgd; exact .inl ⟨rfl, hgd.symm⟩
    | some jw =>
     obtain ⟨j, want⟩ := jw
     rw [hgu] at hgd
     simp only [gdOf, Option.map_eq_some_iff] at hgd
     obtain ⟨s, hs, rfl⟩ := hgd
     exact .inr ⟨j, want, s, rfl, hs, rfl⟩
   split at h
   ·split at h
    ·rename_i hgn
     have hgn' : o.guard = none := by simpa using hgn
     simp only [Option.map_eq_some_iff] at h
     obtain ⟨x, hx, rfl⟩ := h
     exact ⟨rfl, hdst, rfl, .inl ⟨hgn', rfl⟩, .inr (.inr ⟨x.1, x.2, rfl, hgn', hx⟩)⟩
    ·cases h
   ·split at h
    ·rename_i q hq
     simp only [Option.some.injEq] at h
     subst h
     exact ⟨rfl, hdst, rfl, hg, .inl ⟨q, _, rfl, hq⟩⟩
    ·split at h
     ·rename_i hgn
      have hgn' : o.guard = none := by simpa using hgn
      simp only [Option.map_eq_some_iff] at h
      obtain ⟨q, hq, rfl⟩ := h
      exact ⟨rfl, hdst, rfl, .inl ⟨hgn', rfl⟩, .inr (.inl ⟨q, rfl, hgn', hq⟩)⟩
     ·cases h
 ·cases h
theorem put_defers (a : Act) (d : Option Nat) (v : Value) : (a.put d v).defers = a.defers := by cases d <;> rfl
theorem put_size (a : Act) (d : Option Nat) (v : Value) : (a.put d v).tmps.size = a.tmps.size := by cases d <;> simp [Act.put]
theorem put_ne (a : Act) (d : Option Nat) (v : Value) (t : Nat) (h : ∀ d', d = some d' → d' ≠ t) : (a.put d v).tmps.getD t undef = a.tmps.getD t undef := by
 cases d with
 | none => rfl
 | some d => simp [Act.put, Array.getElem?_setIfInBounds_ne (h d rfl)]
theorem op_step {Γ : Gam} (hG : GOk P Γ) (hF : OpenF F) {pu : List Nat} {M : FrI} {ops : Array Oper} {i : Nat} {o : Oper} (hi : ops[i]? = some o) {ro : RO} (hro : resO P pu M.nm ops o = some { ro with nid := none })
  {g : Bool} (hg : g = false → o.guard = none) {base : Nat} {S : Nat → Prop} {w : World} {O : OInfo} {σ : St} {a : Act} (hsr : SR M S w O σ a) (hok : (step Γ (EqFlat P) g base ro σ).1)
  {K : Act → World → Prop} {Q' : Exit → Act → World → Prop}
  (hK : ∀ S' w' O' a', Evol S S' w w' O O' → SR M S' w' O' (step Γ (EqFlat P) g base ro σ).2 a' → a'.defers = a.defers → K a' w') : wpOpIn F n P ops Q' i K a w := by
 obtain ⟨hdst, hdlt, hts, hgd, hx⟩ := resO_inv hro
 simp only at hdst hts hgd hx
 have hdlt' : ∀ d, o.dst = some d → d < a.tmps.size := by rw [hsr.size]; exact fun d hd => (hdlt d hd).1
 have hkept : ∀ (c : Value) t, t < M.md → (a.put o.dst c).tmps.getD t undef = M.T t := fun c t ht => (put_ne a o.dst c t fun d hd => by have := (hdlt d hd).2; simp only [FrI.nm] at this; omega).trans (hsr.kept t ht)
 simp only [wpOpIn, hi]
 rcases hx with ⟨q, b, hxq, hq⟩ | ⟨q, hxq, hgn, hq⟩ | ⟨f0, xs0, hxq, hgn, hq⟩
 ·
  simp only [step, hxq] at hok hK
  have fin : ∀ (v : V), (∀ S' w' O' a', Evol S S' w w' O O' → SR M S' w' O' ⟨upd σ.fr ro.dst v, σ.hp⟩ a' → a'.defers = a.defers → K a' w') →
    ∀ c S' w', Evol S S' w w' O O → Mat S' w' O σ.hp → Rep S' w' O v c → K (a.put o.dst c) w' := by
   intro v hK c S' w' hev hmat hrep
   refine hK S' w' O _ hev ⟨by rw [put_size]; exact hsr.size, hkept _, ?_, hmat⟩ (put_defers _ _ _)
   rw [hdst]
   exact hsr.fr.put hev.ext hdlt' hrep
  cases g with
  | false =>
   have hgn := hg rfl
   simp only [stepQ] at hok hK
   have hw : Region.wanted o (yielded ops a.tmps) = true := by simp [Region.wanted, hgn]
   rw [if_pos hw]
   exact q_sound hG hF hq hsr.mat (odsOk_plain hsr.fr o) hok (fin _ hK)
  | true =>
   rcases hgd with ⟨hgn, hgd⟩ | ⟨j, want, s, hgo, hs, hgd⟩
   ·have hw : Region.wanted o (yielded ops a.tmps) = true := by simp [Region.wanted, hgn]
    rw [if_pos hw]
    simp only [stepQ, hgd, condB] at hok hK
    exact q_step hG hF hq hsr.mat hsr.fr hts hok.1 hok.2 (fin _ hK)
   ·simp only [stepQ, hgd] at hok hK
    cases hc : condB σ.fr (some (s, want)) with
    | none => simp [hc] at hok
    | some c =>
     have hw := yield_cond hsr.fr (o := o) hgo hs hc
     simp only [hc] at hok hK
     rw [hw]
     cases c with
     | true =>
      rw [if_pos rfl]
      refine q_step hG hF hq hsr.mat hsr.fr hts (hok rfl).1 (hok rfl).2 ?_
      intro c S' w' hev hmat hrep
      exact fin _ hK c S' w' hev hmat (by simp only [Rep]; exact ⟨fun _ => hrep, fun h => by cases h⟩)
     | false =>
      rw [if_neg (by simp)]
      refine ⟨fun f _ => hF.1 f, ?_⟩
      exact fin _ hK undef S w (Evol.refl S w O) hsr.mat (by simp only [Rep]; exact ⟨fun h => (by cases h), fun _ => trivial⟩)
 ·
  have hw : Region.wanted o (yielded ops a.tmps) = true := by simp [Region.wanted, hgn]
  rw [if_pos hw]
  have hods : needW g ro σ.fr → OdsOk P S w O (opv g σ.fr) a.eval o := by
   intro hn
   cases g with
   | false => exact odsOk_plain hsr.fr o
   | true => simp only [needW] at hn; rw [hts] at hn; exact odsOk_guard hsr.fr o hn
  simp only [step, hxq, stepW] at hok hK
  cases hnv : nv σ.hp q (opv g σ.fr) with
  | none =>
   simp only [hnv] at hok hK
   refine s_sound hF hq hsr.mat (hods hok.1) hok.2 ?_
   intro c w' O' hev hmat hrep hno
   refine hK S w' O' _ hev ⟨by rw [put_size]; exact hsr.size, hkept _, ?_, hmat⟩ (put_defers _ _ _)
   rw [hdst]
   exact hsr.fr.put hev.ext hdlt' hrep
  | some t =>
   obtain ⟨ok, blk, mk⟩ := t
   simp only [hnv] at hok hK
   cases hnid : ro.nid with
   | none =>
    simp only [hnid] at hok hK
    refine n_sound (id := σ.hp.length) hF hq hsr.mat (mat_app hsr.mat [blk]) (hods hok.1) hnv hok.2 (mat_none hsr.mat) (by simp) ?_
    intro c w' O' hev hmat hrep _
    refine hK S w' O' _ hev ⟨by rw [put_size]; exact hsr.size, hkept _, ?_, hmat⟩ (put_defers _ _ _)
    rw [hdst]
    exact hsr.fr.put hev.ext hdlt' hrep
   | some k =>
    simp only [hnid] at hok hK
    obtain ⟨h1, h2⟩ := mat_hole hsr.mat hok.2.2 blk
    refine n_sound (id := base + k) hF hq hsr.mat h2 (hods hok.1) hnv hok.2.1 h1 (by rw [List.getElem?_set_self (getElemLt hok.2.2)]) ?_
    intro c w' O' hev hmat hrep _
    refine hK S w' O' _ hev ⟨by rw [put_size]; exact hsr.size, hkept _, ?_, hmat⟩ (put_defers _ _ _)
    rw [hdst]
    exact hsr.fr.put hev.ext hdlt' hrep
 ·
  have hw : Region.wanted o (yielded ops a.tmps) = true := by simp [Region.wanted, hgn]
  rw [if_pos hw]
  simp only [step, hxq, stepO] at hok hK
  have hods : OdsOk P S w O (opv g σ.fr) a.eval o := by
   cases g with
   | false => exact odsOk_plain hsr.fr o
   | true => have hn := hok.1; simp only [needW] at hn; rw [hts] at hn; exact odsOk_guard hsr.fr o hn
  refine oc_sound hG hF hq hsr.mat hods hok.2 ?_
  intro c S' w' O' hev hmat hrep
  refine hK S' w' O' _ hev ⟨by rw [put_size]; exact hsr.size, hkept _, ?_, hmat⟩ (put_defers _ _ _)
  rw [hdst]
  exact hsr.fr.put hev.ext hdlt' hrep
theorem ghO_at {hp : List Blk} {y : List V × Option (List (List V))} (h : ghO hp = some y) : hp[0]? = some (.gh y.1 y.2) := by
 unfold ghO at h
 split at h
 ·rename_i c' y' hy; cases h; exact hy
 ·cases h
theorem ghO_of {hp : List Blk} {y : List V × Option (List (List V))} (h : hp[0]? = some (.gh y.1 y.2)) : ghO hp = some y := by simp [ghO, h]
theorem ghO_app {hp hp' : List Blk} {y : List V × Option (List (List V))} (h : ghO hp = some y) : ghO (hp ++ hp') = some y := by
 refine ghO_of ?_
 have := ghO_at h
 rw [List.getElem?_append_left (getElemLt this)]
 exact this
theorem ghO_set {hp : List Blk} {y : List V × Option (List (List V))} (h : ghO hp = some y) {id : Nat} {b b' : Blk} (hid : hp[id]? = some b) (hb : ∀ c y, b ≠ .gh c y) : ghO (hp.set id b') = some y := by
 refine ghO_of ?_
 have := ghO_at h
 rw [List.getElem?_set_ne (by rintro rfl; rw [this] at hid; cases hid; exact hb _ _ rfl)]
 exact this
theorem ghO_kills : ∀ (L : List Nat) {hp : List Blk} {y : List V × Option (List (List V))}, ghO hp = some y → ghO (L.foldl killB hp) = some y := by
 intro L hp y h
 refine ghO_of ?_
 have := ghO_at h
 rw [kills_get, this]
 split <;> rfl
theorem ghO_plB {hp : List Blk} {y : List V × Option (List (List V))} (h : ghO hp = some y) {q : Option Nat} {bs : List Blk} (hq : plO hp q bs.length) : ghO (plB hp q bs) = some y := by
 cases q with
 | none => exact ghO_app h
 | some q =>
  refine ghO_of ?_
  have h0 := ghO_at h
  have hh := holesB_spec hq
  rcases Nat.eq_zero_or_pos bs.length with hl | hl
  ·have : bs = [] := List.eq_nil_of_length_eq_zero hl
   subst this; exact h0
  ·have hl2 := getElemLt (hh (bs.length - 1) (by omega))
   simp only [plB]
   rw [setBs_get _ _ _ _ (by simp; omega), if_neg]
   ·exact h0
   ·rintro ⟨hq0, _⟩
    have : q = 0 := by omega
    subst this
    have := hh 0 hl
    rw [Nat.add_zero, h0] at this
    cases this
theorem sv_gh {E : TypeId → Nat → Prop} {hp : List Blk} {q : W} {ρ : Od → V} {y : List V × Option (List (List V))} (h : ghO hp = some y) : ghO (putB hp (sv E hp q ρ).2.2) = some y := by
 cases q <;> simp only [sv] <;> try exact h
 all_goals
  split
  ·split
   ·rename_i hid
    exact ghO_set h hid (fun _ _ h => by cases h)
   ·exact h
  ·exact h
theorem step_gh {Γ : Gam} {E : TypeId → Nat → Prop} {g : Bool} {base : Nat} {o : RO} {σ : St} {y : List V × Option (List (List V))} (hok : (step Γ E g base o σ).1) (h : ghO σ.hp = some y) : ghO (step Γ E g base o σ).2.hp = some y := by
 unfold step at hok ⊢
 cases hx : o.x with
 | q q => exact h
 | w q =>
  simp only [hx, stepW] at hok ⊢
  cases hn : nv σ.hp q (opv g σ.fr) with
  | none => simp only [hn] at hok ⊢; exact sv_gh h
  | some t =>
   obtain ⟨ok, b, mk⟩ := t
   simp only [hn] at hok ⊢
   cases hnid : o.nid with
   | none => simp only [hnid] at hok ⊢; exact ghO_app h
   | some k => simp only [hnid] at hok ⊢; exact ghO_set h hok.2.2 (fun _ _ h => by cases h)
 | o f xs =>
  simp only [hx, stepO, ocV] at hok ⊢
  split
  ·rename_i k caps hf
   simp only [hf] at hok
   split
   ·rename_i ok r bs hΓ
    simp only [hΓ] at hok
    split
    ·rename_i hb
     simp only [hb] at hok
     exact ghO_plB h (by simpa using hok.2.2.2)
    ·rename_i hb
     simp only [hb] at hok
     exact ghO_plB (ghO_kills _ h) (kills_plO (by simpa using hok.2.2.2.2))
   ·exact h
  ·exact h
end
end Go.Fam
namespace Go.Fam
structure FP where
 rd : Option (List Nat)
 wr : List Nat
def fpV : V → List Nat | .ad id _ _ => [id] | .rf id _ _ _ _ => [id] | .mp id _ => [id] | _ => []
def rdV (hp : List Blk) : Nat → V → List Nat
 | 0, _ => []
 | n + 1, v => match v with
  | .ag cs => cs.flatMap (rdV hp n)
  | .tp cs => cs.flatMap (rdV hp n)
  | .fn _ cs => cs.flatMap (rdV hp n)
  | .ad id g off => id :: (match hp[id]? with
   | some (.cells g' vs) => if g' = g then (vs.drop off).flatMap (rdV hp n) else []
   | _ => [])
  | .rf id g _ _ _ => id :: (match hp[id]? with
   | some (.cells g' vs) => if g' = g then vs.flatMap (rdV hp n) else []
   | _ => [])
  | .mp id g => id :: (match hp[id]? with
   | some (.map _ _ vs) => if g = 0 then vs.flatMap (rdV hp n) else []
   | _ => [])
  | .gv _ v => rdV hp n v
  | _ => []
theorem rd_local {hp hp' : List Blk} : ∀ (n : Nat) (v : V), (∀ i ∈ rdV hp n v, hp[i]? = hp'[i]?) → vw hp n v = vw hp' n v ∧ rdV hp n v = rdV hp' n v := by
 intro n
 induction n with
 | zero => intro v _; exact ⟨rfl, rfl⟩
 | succ n ih =>
  have ihL : ∀ vs : List V, (∀ i ∈ vs.flatMap (rdV hp n), hp[i]? = hp'[i]?) → vs.map (vw hp n) = vs.map (vw hp' n) ∧ vs.flatMap (rdV hp n) = vs.flatMap (rdV hp' n) := by
   intro vs h
   have h' : ∀ v ∈ vs, vw hp n v = vw hp' n v ∧ rdV hp n v = rdV hp' n v := fun v hv => ih v fun i hi => h i (List.mem_flatMap.2 ⟨v, hv, hi⟩)
   refine ⟨List.map_congr_left fun v hv => (h' v hv).1, ?_⟩
   rw [List.flatMap_def, List.flatMap_def, List.map_congr_left fun v hv => (h' v hv).2]
  have ihM : ∀ vs : List V, (∀ i ∈ vs.flatMap (rdV hp n), hp[i]? = hp'[i]?) → ∀ v ∈ vs, vw hp n v = vw hp' n v := fun vs h v hv => (ih v fun i hi => h i (List.mem_flatMap.2 ⟨v, hv, hi⟩)).1
  intro v h
  cases v <;> simp only [vw, rdV] at h ⊢ <;> try exact ⟨trivial, trivial⟩
  case ag cs => obtain ⟨h1, h2⟩ := ihL cs h; rw [h1, h2]; exact ⟨rfl, rfl⟩
  case tp cs => obtain ⟨h1, h2⟩ := ihL cs h; rw [h1, h2]; exact ⟨rfl, rfl⟩
  case fn f cs => obtain ⟨h1, h2⟩ := ihL cs h; rw [h1, h2]; exact ⟨rfl, rfl⟩
  case gv c v => obtain ⟨h1, h2⟩ := ih v h; rw [h1, h2]; exact ⟨rfl, rfl⟩
  case ad id g off =>
   rw [← h id (by simp)]
   cases hb : hp[id]? with
   | none => simp
   | some b =>
    cases b <;> try (simp; done)
    case cells g' vs =>
     simp only [hb] at h ⊢
     by_cases hg : g' = g
     ·simp only [hg, if_true] at h ⊢
      obtain ⟨h1, h2⟩ := ihL (vs.drop off) fun i hi => h i (by simp only [List.mem_cons]; exact .inr hi)
      rw [h1, h2]; exact ⟨rfl, rfl⟩
     ·simp [hg]
  case mp id g =>
   rw [← h id (by simp)]
   cases hb : hp[id]? with
   | none => simp
   | some b =>
    cases b <;> try (simp; done)
    case map st ks vs =>
     simp only [hb] at h ⊢
     by_cases hg : g = 0
     ·simp only [hg, if_true] at h ⊢
      obtain ⟨h1, h2⟩ := ihL vs fun i hi => h i (by simp only [List.mem_cons]; exact .inr hi)
      rw [h1, h2]; exact ⟨rfl, rfl⟩
     ·simp [hg]
  case rf id g off len es =>
   rw [← h id (by simp)]
   cases hb : hp[id]? with
   | none => simp
   | some b =>
    cases b <;> try (simp; done)
    case cells g' vs =>
     simp only [hb] at h ⊢
     by_cases hg : g' = g
     ·simp only [hg, if_true, true_and] at h ⊢
      have h0 : ∀ i ∈ vs.flatMap (rdV hp n), hp[i]? = hp'[i]? := fun i hi => h i (by simp only [List.mem_cons]; exact .inr hi)
      obtain ⟨_, h2⟩ := ihL vs h0
      have h3 : (chunk es vs off len).map (fun r => r.map (vw hp n)) = (chunk es vs off len).map (fun r => r.map (vw hp' n)) := by
       refine List.map_congr_left fun r hr => List.map_congr_left fun v hv => ihM vs h0 v ?_
       unfold chunk at hr
       obtain ⟨k, _, rfl⟩ := List.mem_map.1 hr
       exact List.mem_of_mem_drop (List.mem_of_mem_take hv)
      rw [h2, h3]; exact ⟨rfl, rfl⟩
     ·simp [hg]
def fpQ (hp : List Blk) (q : Q) (ρ : Od → V) : Option (List Nat) := match q with
 | .ld _ _ x | .fad _ x | .nilc x | .len x | .iad _ x _ | .iaa _ _ x _ | .slc _ x _ _ => some (fpV (ρ x))
 | .call f xs => match ρ f with
  | .fn _ caps => some ((xs.map ρ ++ caps).flatMap (rdV hp 8))
  | _ => some []
 | .bsl _ _ _ ps => if hasRefL (ps.map fun p => ρ p.2.2) then none else some []
 | .box x => if hasRef (ρ x) then none else some []
 | .lkp _ _ _ _ m _ => some (fpV (ρ m))
 | .mlen m => some (fpV (ρ m))
 | .ent _ => none
 | _ => some []
def putBs (hp : List Blk) : List (Nat × Blk) → List Blk
 | [] => hp
 | x :: l => putBs (hp.set x.1 x.2) l
def setsL (q : Nat) : List Blk → List (Nat × Blk)
 | [] => []
 | b :: l => (q, b) :: setsL (q + 1) l
def killL (hp : List Blk) : List Nat → List (Nat × Blk)
 | [] => []
 | id :: l => (id, kill1 (hp[id]?.getD .hole)) :: killL hp l
def effO (Γ : Gam) (g : Bool) (base : Nat) (o : RO) (f : Od) (args : List Od) (σ : St) : Prop × V × List (Nat × Blk) :=
 match opv g σ.fr f with
 | .fn k caps => match Γ (1000000 + k) ((args.map (opv g σ.fr) ++ caps).map (vw σ.hp 8)) with
  | (ok, .tp [r, .tp bs]) => match o.nid with
   | none => match hasRefL (args.map (opv g σ.fr) ++ caps) && !(rflat r && (bs.map vB).all rflatB) with
    | false => (needW g o σ.fr ∧ k < 1000000 ∧ ok ∧ bs = [] ∧ hasRef r = false, r, [])
    | true => (needW g o σ.fr ∧ k < 1000000 ∧ ok ∧ (ridsL (args.map (opv g σ.fr) ++ caps)).all (leafB σ.hp) = true ∧ bs = [] ∧ hasRef r = false, r, killL σ.hp (ridsL (args.map (opv g σ.fr) ++ caps)))
   | some j => match hasRefL (args.map (opv g σ.fr) ++ caps) && !(rflat r && (bs.map vB).all rflatB) with
    | false => (needW g o σ.fr ∧ k < 1000000 ∧ ok ∧ holesB σ.hp (base + j) bs.length = true, shV (base + j) r, setsL (base + j) ((bs.map vB).map (shB (base + j))))
    | true => (needW g o σ.fr ∧ k < 1000000 ∧ ok ∧ (ridsL (args.map (opv g σ.fr) ++ caps)).all (leafB σ.hp) = true ∧ holesB σ.hp (base + j) bs.length = true, shV (base + j) r, killL σ.hp (ridsL (args.map (opv g σ.fr) ++ caps)) ++ setsL (base + j) ((bs.map vB).map (shB (base + j))))
  | _ => (False, .u, [])
 | _ => (False, .u, [])
def upTo : Nat → Nat → List Nat
 | _, 0 => []
 | q, n + 1 => q :: upTo (q + 1) n
theorem mem_upTo {x : Nat} : ∀ {n q : Nat}, x ∈ upTo q n ↔ q ≤ x ∧ x < q + n
 | 0, q => by simp [upTo]
 | n + 1, q => by simp only [upTo, List.mem_cons, mem_upTo]; omega
def optL : Option (Nat × Blk) → List (Nat × Blk) | none => [] | some x => [x]
def eff (Γ : Gam) (E : TypeId → Nat → Prop) (g : Bool) (base : Nat) (o : RO) (σ : St) : Prop × V × List (Nat × Blk) :=
 match o.x with
 | .q q => ((stepQ Γ E g o q σ).1, (stepQ Γ E g o q σ).2, [])
 | .w q => match nv σ.hp q (opv g σ.fr) with
  | some (ok, b, mk) => match o.nid with
   | none => (False, .u, [])
   | some k => (needW g o σ.fr ∧ ok ∧ σ.hp[base + k]? = some .hole, mk (base + k), [(base + k, b)])
  | none => (needW g o σ.fr ∧ (sv E σ.hp q (opv g σ.fr)).1, (sv E σ.hp q (opv g σ.fr)).2.1, optL (sv E σ.hp q (opv g σ.fr)).2.2)
 | .o f args => effO Γ g base o f args σ
def nextD (Γ : Gam) (E : TypeId → Nat → Prop) (g : Bool) (base : Nat) (o : RO) (σ : St) : St :=
 ⟨upd σ.fr o.dst (eff Γ E g base o σ).2.1, putBs σ.hp (eff Γ E g base o σ).2.2⟩
def fpR (Γ : Gam) (g : Bool) (base : Nat) (o : RO) (σ : St) : FP := match o.x with
 | .q q => ⟨fpQ σ.hp q (opv g σ.fr), []⟩
 | .w q => match q with
  | .st _ a _ => ⟨some [], fpV (opv g σ.fr a)⟩
  | .mup _ _ m _ _ => ⟨some [], fpV (opv g σ.fr m)⟩
  | .men _ _ _ m _ => ⟨some [], fpV (opv g σ.fr m)⟩
  | .mes m _ _ => ⟨some [], fpV (opv g σ.fr m)⟩
  | .cpy _ x y => ⟨some (fpV (opv g σ.fr y)), fpV (opv g σ.fr x)⟩
  | .app _ x y => match opv g σ.fr x with
   | .rf id _ _ _ _ => ⟨some (fpV (opv g σ.fr y)), [id]⟩
   | _ => ⟨some (fpV (opv g σ.fr y)), [base + o.nid.getD 0]⟩
  | .rng x => ⟨some (fpV (opv g σ.fr x)), [base + o.nid.getD 0]⟩
  | _ => ⟨some [], [base + o.nid.getD 0]⟩
 | .o f args => match opv g σ.fr f with
  | .fn k caps => ⟨match hasRefL (args.map (opv g σ.fr) ++ caps) with | true => none | false => some [],
    ridsL (args.map (opv g σ.fr) ++ caps) ++ (match o.nid, Γ (1000000 + k) ((args.map (opv g σ.fr) ++ caps).map (vw σ.hp 8)) with | some j, (_, .tp [_, .tp bs]) => upTo (base + j) bs.length | _, _ => [])⟩
  | _ => ⟨none, []⟩
def slotsOf : List Od → List Nat
 | [] => []
 | .t n :: l => n :: slotsOf l
 | .k _ :: l => slotsOf l
def RO.reads (o : RO) : List Nat := o.ts ++ (match o.gd with | some (s, _) => [s] | none => []) ++ slotsOf (match o.x with | .q q => q.ods | .w q => q.ods | .o f xs => f :: xs)
def apartB (a b : RO) : Bool :=
 (match a.dst with | some d => !(b.reads.contains d) && b.dst != some d | none => true) &&
 (match b.dst with | some d => !(a.reads.contains d) | none => true)
def hits (ws : List Nat) (f : FP) : Bool := !ws.isEmpty && (match f.rd with
 | none => true
 | some r => ws.any fun i => r.contains i || f.wr.contains i)
def disjB (a b : FP) : Bool := !(hits a.wr b) && !(hits b.wr a)
def AgreeOn (f : FP) (hp hp' : List Blk) : Prop := (f.rd = none → hp = hp') ∧ (∀ r, f.rd = some r → ∀ i ∈ r, hp[i]? = hp'[i]?) ∧ (∀ i ∈ f.wr, hp[i]? = hp'[i]?)
theorem vw_heap {hp hp' : List Blk} : ∀ (n : Nat) (v : V), hasRef v = false → vw hp n v = vw hp' n v := by
 intro n
 induction n with
 | zero => intro v _; rfl
 | succ n ih =>
  have ihL : ∀ vs : List V, hasRefL vs = false → vs.map (vw hp n) = vs.map (vw hp' n) := by
   intro vs h
   apply List.map_congr_left
   intro v hv
   exact ih v (hasRefL_mem vs h v hv)
  intro v h
  cases v <;> simp only [vw] <;> simp only [hasRef] at h <;> first | rfl | (rw [ihL _ h]) | (rw [ih _ h]) | (cases h)
theorem vw_heapL {hp hp' : List Blk} {n : Nat} {vs : List V} (h : hasRefL vs = false) : vs.map (vw hp n) = vs.map (vw hp' n) := by
 apply List.map_congr_left
 intro v hv
 exact vw_heap n v (hasRefL_mem vs h v hv)
theorem ldV_local {hp hp' : List Blk} {ag : Bool} {n : Nat} {x : V} (h : ∀ i ∈ fpV x, hp[i]? = hp'[i]?) : ldV hp ag n x = ldV hp' ag n x := by
 cases x <;> simp only [ldV]
 case ad id g off => rw [h id (by simp [fpV])]
theorem iadV_local {hp hp' : List Blk} {es : Nat} {x i : V} (h : ∀ i ∈ fpV x, hp[i]? = hp'[i]?) : iadV hp es x i = iadV hp' es x i := by
 cases i <;> simp only [iadV]
 cases x <;> simp only
 case rf id g off len es' => rw [h id (by simp [fpV])]
theorem lenV_local {hp hp' : List Blk} {x : V} (h : ∀ i ∈ fpV x, hp[i]? = hp'[i]?) : lenV hp x = lenV hp' x := by
 cases x <;> simp only [lenV]
 case rf id g off len es' => rw [h id (by simp [fpV])]
theorem curG_local {hp hp' : List Blk} {id g : Nat} (h : hp[id]? = hp'[id]?) : curG hp id g = curG hp' id g := by simp only [curG, h]
theorem qv_local {Γ : Gam} {E : TypeId → Nat → Prop} {hp hp' : List Blk} {q : Q} {ρ ρ' : Od → V} (hρ : ∀ od ∈ q.ods, ρ od = ρ' od) (hh : ∀ r, fpQ hp q ρ = some r → ∀ i ∈ r, hp[i]? = hp'[i]?) (hn : fpQ hp q ρ = none → hp = hp') :
  qv Γ E hp q ρ = qv Γ E hp' q ρ' ∧ fpQ hp q ρ = fpQ hp' q ρ' := by
 have h1 : ∀ x xs, q.ods = x :: xs → ρ x = ρ' x := fun x xs h => hρ x (by simp [h])
 have h2 : ∀ x y xs, q.ods = x :: y :: xs → ρ y = ρ' y := fun x y xs h => hρ y (by simp [h])
 have h3 : ∀ x y z xs, q.ods = x :: y :: z :: xs → ρ z = ρ' z := fun x y z xs h => hρ z (by simp [h])
 cases q with
 | mv x => simp only [qv, fpQ, h1 x _ rfl, and_self]
 | bin op x y => simp only [qv, fpQ, h1 x _ rfl, h2 x y _ rfl, and_self]
 | bq ng x y => simp only [qv, fpQ, h1 x _ rfl, h2 x y _ rfl, and_self]
 | eqs ng t x y => simp only [qv, fpQ, h1 x _ rfl, h2 x y _ rfl, and_self]
 | not x => simp only [qv, fpQ, h1 x _ rfl, and_self]
 | neg x => simp only [qv, fpQ, h1 x _ rfl, and_self]
 | cvt x => simp only [qv, fpQ, h1 x _ rfl, and_self]
 | cvk k x => simp only [qv, fpQ, h1 x _ rfl, and_self]
 | ext x k => simp only [qv, fpQ, h1 x _ rfl, and_self]
 | fld ag n off x => simp only [qv, fpQ, h1 x _ rfl, and_self]
 | mn x y => simp only [qv, fpQ, h1 x _ rfl, h2 x y _ rfl, and_self]
 | mx x y => simp only [qv, fpQ, h1 x _ rfl, h2 x y _ rfl, and_self]
 | pick c x y => simp only [qv, fpQ, h1 c _ rfl, h2 c x _ rfl, h3 c x y _ rfl, and_self]
 | ld ag n x =>
  simp only [qv, fpQ, h1 x _ rfl, and_true]
  exact ldV_local (by have := hh _ rfl; rwa [h1 x _ rfl] at this)
 | len x =>
  simp only [qv, fpQ, h1 x _ rfl, and_true]
  exact lenV_local (by have := hh _ rfl; rwa [h1 x _ rfl] at this)
 | iad es x i =>
  simp only [qv, fpQ, h1 x _ rfl, h2 x i _ rfl, and_true]
  exact iadV_local (by have := hh _ rfl; rwa [h1 x _ rfl] at this)
 | iva n x i => simp only [qv, fpQ, h1 x _ rfl, h2 x i _ rfl, and_self]
 | iaa es n x i =>
  simp only [qv, fpQ, h1 x _ rfl, h2 x i _ rfl, and_true]
  have := hh _ rfl
  rw [h1 x _ rfl] at this
  cases hi : ρ' i <;> simp only
  cases hx : ρ' x <;> simp only
  case ad id g o => rw [curG_local (this id (by simp [hx, fpV]))]
 | fad off x =>
  simp only [qv, fpQ, h1 x _ rfl, and_true]
  have := hh _ rfl
  rw [h1 x _ rfl] at this
  cases hx : ρ' x <;> simp only
  case ad id g o => rw [curG_local (this id (by simp [hx, fpV]))]
 | nilc x =>
  simp only [qv, fpQ, h1 x _ rfl, and_true]
  have := hh _ rfl
  rw [h1 x _ rfl] at this
  cases hx : ρ' x <;> simp only
  case ad id g o => rw [curG_local (this id (by simp [hx, fpV]))]
 | lkp zc ok kt sk m k =>
  simp only [qv, fpQ, h1 m _ rfl, h2 m k _ rfl, and_true]
  have := hh _ rfl
  rw [h1 m _ rfl] at this
  unfold lkpV
  cases hm : ρ' m <;> try rfl
  case pm st ks vs =>
   cases hk : keyL (ρ' k) <;> rfl
  case mp id g =>
   have := this id (by simp [hm, fpV])
   cases hk : keyL (ρ' k) with
   | none => rfl
   | some t => simp only [this]
 | mlen m =>
  simp only [qv, fpQ, h1 m _ rfl, and_true]
  have := hh _ rfl
  rw [h1 m _ rfl] at this
  unfold mlenV
  cases hm : ρ' m <;> try rfl
  case mp id g => simp only [this id (by simp [hm, fpV])]
 | ent x =>
  have := hn rfl
  subst this
  simp only [qv, fpQ, h1 x _ rfl, and_self]
 | mkf f caps =>
  have : caps.map ρ = caps.map ρ' := List.map_congr_left fun x hx => hρ x (by simpa [Q.ods] using hx)
  simp only [qv, fpQ, this, and_self]
 | mkb f caps =>
  have : caps.map ρ = caps.map ρ' := List.map_congr_left fun x hx => hρ x (by simpa [Q.ods] using hx)
  simp only [qv, fpQ, this, and_self]
 | bld zc ps =>
  have : ps.map (fun p => (p.1, p.2.1, ρ p.2.2)) = ps.map (fun p => (p.1, p.2.1, ρ' p.2.2)) := List.map_congr_left fun p hp => by
   rw [hρ p.2.2 (by simp only [Q.ods, List.mem_map]; exact ⟨p, hp, rfl⟩)]
  simp only [qv, fpQ, this, and_self]
 | slc es x lo hi =>
  have e1 : lo.map ρ = lo.map ρ' := by cases lo with | none => rfl | some y => simp [hρ y (by simp [Q.ods])]
  have e2 : hi.map ρ = hi.map ρ' := by cases hi with | none => rfl | some y => simp [hρ y (by simp [Q.ods])]
  simp only [qv, fpQ, h1 x _ rfl, e1, e2, and_true]
  have := hh _ rfl
  rw [h1 x _ rfl] at this
  cases hx : ρ' x <;> try rfl
  case rf id g off len es' => simp only [slcV, this id (by simp [hx, fpV])]
 | slx es x hi mx =>
  simp only [qv, fpQ, hρ x (by simp [Q.ods]), hρ hi (by simp [Q.ods]), hρ mx (by simp [Q.ods]), and_self]
 | box x =>
  have e := h1 x _ rfl
  simp only [qv, fpQ] at hh hn ⊢
  rw [e] at hh hn ⊢
  by_cases hr : hasRef (ρ' x) = true
  ·have := hn (by simp [hr]); subst this; exact ⟨rfl, rfl⟩
  ·have hr' : hasRef (ρ' x) = false := by simpa using hr
   rw [vw_heap (hp := hp) (hp' := hp') 8 _ hr']
   exact ⟨rfl, rfl⟩
 | bsl es n zc ps =>
  have e0 : ps.map (fun p => ρ p.2.2) = ps.map (fun p => ρ' p.2.2) := List.map_congr_left fun p hp => hρ p.2.2 (by simp only [Q.ods, List.mem_map]; exact ⟨p, hp, rfl⟩)
  have e1 : ∀ p ∈ ps, ρ p.2.2 = ρ' p.2.2 := fun p hp => hρ p.2.2 (by simp only [Q.ods, List.mem_map]; exact ⟨p, hp, rfl⟩)
  simp only [qv, fpQ] at hh hn ⊢
  rw [e0] at hh hn ⊢
  by_cases hr : hasRefL (ps.map fun p => ρ' p.2.2) = true
  ·have := hn (by simp [hr]); subst this
   have : ps.map (fun p => (p.1, p.2.1, vw hp 8 (ρ p.2.2))) = ps.map (fun p => (p.1, p.2.1, vw hp 8 (ρ' p.2.2))) := List.map_congr_left fun p hp => by rw [e1 p hp]
   rw [this]; exact ⟨rfl, rfl⟩
  ·have hr' : hasRefL (ps.map fun p => ρ' p.2.2) = false := by simpa using hr
   have : ps.map (fun p => (p.1, p.2.1, vw hp 8 (ρ p.2.2))) = ps.map (fun p => (p.1, p.2.1, vw hp' 8 (ρ' p.2.2))) := List.map_congr_left fun p hp => by
    rw [e1 p hp, vw_heap 8 _ (hasRefL_mem _ hr' _ (List.mem_map.2 ⟨p, hp, rfl⟩))]
   rw [this]; exact ⟨rfl, rfl⟩
 | call f xs =>
  have e0 := h1 f _ rfl
  have e1 : xs.map ρ = xs.map ρ' := List.map_congr_left fun x hx => hρ x (by simp [Q.ods, hx])
  simp only [qv, fpQ, callV] at hh hn ⊢
  rw [e0, e1] at hh hn ⊢
  cases hf : ρ' f <;> simp only [and_self]
  case fn g caps =>
   simp only [hf] at hh hn
   have hl : ∀ v ∈ xs.map ρ' ++ caps, vw hp 8 v = vw hp' 8 v ∧ rdV hp 8 v = rdV hp' 8 v := fun v hv => rd_local 8 v fun i hi => hh _ rfl i (List.mem_flatMap.2 ⟨v, hv, hi⟩)
   have h1 : (xs.map ρ' ++ caps).map (vw hp 8) = (xs.map ρ' ++ caps).map (vw hp' 8) := List.map_congr_left fun v hv => (hl v hv).1
   have h2 : (xs.map ρ' ++ caps).flatMap (rdV hp 8) = (xs.map ρ' ++ caps).flatMap (rdV hp' 8) := by
    rw [List.flatMap_def, List.flatMap_def, List.map_congr_left fun v hv => (hl v hv).2]
   rw [h1, h2]
   exact ⟨rfl, rfl⟩
theorem newsV_local {hp hp' : List Blk} {es : Nat} {y : V} (h : ∀ i ∈ fpV y, hp[i]? = hp'[i]?) : newsV hp es y = newsV hp' es y := by
 cases y <;> simp only [newsV]
 case rf id g off len es' => rw [h id (by simp [fpV])]
theorem mem_slots : ∀ (l : List Od) (n : Nat), Od.t n ∈ l → n ∈ slotsOf l
 | [], _, h => by cases h
 | .t m :: l, n, h => by
  rcases List.mem_cons.1 h with h | h
  ·cases h; simp [slotsOf]
  ·simp [slotsOf, mem_slots l n h]
 | .k v :: l, n, h => by
  rcases List.mem_cons.1 h with h | h
  ·cases h
  ·simp [slotsOf, mem_slots l n h]
theorem opv_agree {g : Bool} {fr fr' : Nat → V} {l : List Od} (h : ∀ n ∈ slotsOf l, fr n = fr' n) : ∀ od ∈ l, opv g fr od = opv g fr' od := by
 intro od hod
 cases od with
 | k v => cases g <;> rfl
 | t n =>
  have := h n (mem_slots l n hod)
  cases g <;> simp only [opv, evO, this]
mutual
theorem rids_nor : ∀ v : V, hasRef v = false → rids v = []
 | .u, _ | .b _, _ | .i _, _ | .z _, _ | .sl _ _, _ | .sx _ _, _ | .pa _, _ | .pn, _ | .yl _, _ | .w _ _, _ | .pm _ _ _, _ | .fb _ _, _ | .it _ _, _ => rfl
 | .ag cs, h | .tp cs, h => by simp only [hasRef] at h; simp only [rids, rids_noref cs h]
 | .fn _ cs, h => by simp only [hasRef] at h; simp only [rids, rids_noref cs h]
 | .gv _ v, h => by simp only [hasRef] at h; simp only [rids, rids_nor v h]
 | .ad _ _ _, h | .rf _ _ _ _ _, h | .mp _ _, h => by simp [hasRef] at h
theorem rids_noref : ∀ vs : List V, hasRefL vs = false → ridsL vs = []
 | [], _ => rfl
 | v :: vs, h => by
  simp only [hasRefL, Bool.or_eq_false_iff] at h
  simp only [ridsL, rids_nor v h.1, rids_noref vs h.2, List.append_nil]
end
theorem eff_local {Γ : Gam} {E : TypeId → Nat → Prop} {g : Bool} {base : Nat} {o : RO} {σ σ' : St} (hfr : ∀ n ∈ o.reads, σ.fr n = σ'.fr n) (hag : AgreeOn (fpR Γ g base o σ) σ.hp σ'.hp) :
  eff Γ E g base o σ = eff Γ E g base o σ' ∧ fpR Γ g base o σ = fpR Γ g base o σ' := by
 have hts : ∀ n ∈ o.ts, σ.fr n = σ'.fr n := fun n hn => hfr n (by simp [RO.reads, hn])
 have hgd : ∀ s want, o.gd = some (s, want) → σ.fr s = σ'.fr s := fun s want h => hfr s (by simp [RO.reads, h])
 have htsall : (o.ts.all fun n => (ug (σ.fr n)).1) = (o.ts.all fun n => (ug (σ'.fr n)).1) := by
  rw [Bool.eq_iff_iff, List.all_eq_true, List.all_eq_true]
  exact ⟨fun h n hn => by rw [← hts n hn]; exact h n hn, fun h n hn => by rw [hts n hn]; exact h n hn⟩
 cases hx : o.x with
 | q q =>
  have hod : ∀ od ∈ q.ods, ∀ b : Bool, opv b σ.fr od = opv b σ'.fr od := fun od h b => opv_agree (fun n hn => hfr n (by simp [RO.reads, hx, hn])) od h
  simp only [fpR, hx] at hag ⊢
  obtain ⟨ha1, ha2, _⟩ := hag
  obtain ⟨e1, e2⟩ := qv_local (Γ := Γ) (E := E) (hp := σ.hp) (hp' := σ'.hp) (q := q) (ρ := opv g σ.fr) (ρ' := opv g σ'.fr) (fun od h => hod od h g) ha2 ha1
  refine ⟨?_, by rw [e2]⟩
  simp only [eff, hx, stepQ]
  cases g with
  | false => simp only [e1]
  | true =>
   have hcond : condB σ.fr o.gd = condB σ'.fr o.gd := by
    cases hg : o.gd with
    | none => rfl
    | some sw => obtain ⟨s, want⟩ := sw; simp only [condB, hgd s want hg]
   have hneed : needQ σ.fr o.ts q = needQ σ'.fr o.ts q := by
    cases q with
    | pick x y z =>
     have h0 : ∀ od ∈ [x, y, z], evO σ.fr od = evO σ'.fr od := fun od h => by have := hod od h false; simpa only [opv] using this
     simp only [needQ]
     rw [h0 x (by simp), h0 y (by simp), h0 z (by simp)]
    | _ => simp only [needQ, htsall]
   simp only [e1, hcond, hneed]
 | w q =>
  have hod : ∀ od ∈ q.ods, opv g σ.fr od = opv g σ'.fr od := opv_agree (fun n hn => hfr n (by simp [RO.reads, hx, hn]))
  have hneed : needW g o σ.fr = needW g o σ'.fr := by cases g <;> simp only [needW, htsall]
  simp only [eff, hx, fpR] at hag ⊢
  cases q with
  | alc zc =>
   simp only [nv] at hag ⊢
   cases hn : o.nid with
   | none => simp
   | some k =>
    have := hag.2.2 (base + k) (by simp [hn])
    first | (simp only [hneed, this, and_self]; done) | simp only [this, and_self]
  | bxo x =>
   have e := hod x (by simp [W.ods])
   simp only [nv, e] at hag ⊢
   cases hn : o.nid with
   | none => simp
   | some k =>
    have := hag.2.2 (base + k) (by simp [hn])
    first | (simp only [hneed, this, and_self]; done) | simp only [this, and_self]
  | bso es n zc ps =>
   have e : ps.map (fun p => (p.1, p.2.1, opv g σ.fr p.2.2)) = ps.map (fun p => (p.1, p.2.1, opv g σ'.fr p.2.2)) := List.map_congr_left fun p hp => by
    rw [hod p.2.2 (by simp only [W.ods, List.mem_map]; exact ⟨p, hp, rfl⟩)]
   simp only [nv, e] at hag ⊢
   cases hn : o.nid with
   | none => simp
   | some k =>
    have := hag.2.2 (base + k) (by simp [hn])
    first | (simp only [hneed, this, and_self]; done) | simp only [this, and_self]
  | mks es zc l c =>
   have e1 := hod l (by simp [W.ods])
   have e2 := hod c (by simp [W.ods])
   simp only [nv, sv, e1, e2, hneed] at hag ⊢
   cases opv g σ'.fr l <;> try (simp; done)
   cases opv g σ'.fr c <;> try (simp; done)
   cases hn : o.nid with
   | none => simp
   | some k =>
    have := hag.2.2 (base + k) (by simp [hn])
    first | (simp only [hneed, this, and_self]; done) | simp only [this, and_self]
  | st n a x =>
   have e1 := hod a (by simp [W.ods])
   have e2 := hod x (by simp [W.ods])
   simp only [nv, sv, e1, e2] at hag ⊢
   refine ⟨?_, trivial⟩
   cases ha : opv g σ'.fr a <;> simp only [hneed]
   case ad id g1 off =>
    have := hag.2.2 id (by simp [ha, fpV])
    rw [this]
  | mup kt sk m k v =>
   have e1 := hod m (by simp [W.ods])
   have e2 := hod k (by simp [W.ods])
   have e3 := hod v (by simp [W.ods])
   simp only [nv, sv, e1, e2, e3] at hag ⊢
   refine ⟨?_, trivial⟩
   cases ha : opv g σ'.fr m <;> simp only [hneed]
   case mp id g1 =>
    have := hag.2.2 id (by simp [ha, fpV])
    cases hk : keyL (opv g σ'.fr k) <;> simp only [this]
  | men kt sk zc m k =>
   have e1 := hod m (by simp [W.ods])
   have e2 := hod k (by simp [W.ods])
   simp only [nv, sv, e1, e2] at hag ⊢
   refine ⟨?_, trivial⟩
   cases ha : opv g σ'.fr m <;> simp only [hneed]
   case mp id g1 =>
    have := hag.2.2 id (by simp [ha, fpV])
    cases hk : keyL (opv g σ'.fr k) <;> simp only [this]
  | mes m s v =>
   have e1 := hod m (by simp [W.ods])
   have e2 := hod s (by simp [W.ods])
   have e3 := hod v (by simp [W.ods])
   simp only [nv, sv, e1, e2, e3] at hag ⊢
   refine ⟨?_, trivial⟩
   cases ha : opv g σ'.fr m <;> simp only [hneed]
   case mp id g1 =>
    have := hag.2.2 id (by simp [ha, fpV])
    cases hk : opv g σ'.fr s <;> simp only [this]
  | mkm st =>
   simp only [nv] at hag ⊢
   cases hn : o.nid with
   | none => simp
   | some k =>
    have := hag.2.2 (base + k) (by simp [hn])
    first | (simp only [hneed, this, and_self]; done) | simp only [this, and_self]
  | rng x =>
   have e1 := hod x (by simp [W.ods])
   simp only [nv, sv, e1] at hag ⊢
   cases ha : opv g σ'.fr x <;> simp only [hneed, and_self]
   case mp id g1 =>
    have := hag.2.1 _ rfl id (by simp [ha, fpV])
    rw [this]
    cases hid : σ'.hp[id]? with
    | none => simp only [and_self]
    | some b =>
     cases b <;> simp only [and_self]
     case map st ks vs =>
      cases hn : o.nid with
      | none => simp
      | some k =>
       have := hag.2.2 (base + k) (by simp [hn])
       simp only [this, and_self]
  | cpy es x y =>
   have e1 := hod x (by simp [W.ods])
   have e2 := hod y (by simp [W.ods])
   simp only [nv, sv, e1, e2] at hag ⊢
   refine ⟨?_, trivial⟩
   have hnews : newsV σ.hp es (opv g σ'.fr y) = newsV σ'.hp es (opv g σ'.fr y) := newsV_local fun i hi => hag.2.1 _ rfl i hi
   rw [hnews]
   cases ha : opv g σ'.fr x <;> simp only [hneed]
   case rf id g1 off len es' =>
    have := hag.2.2 id (by simp [ha, fpV])
    cases newsV σ'.hp es (opv g σ'.fr y) with
    | none => rfl
    | some t =>
     simp only
     rw [this]
  | app es x y =>
   have e1 := hod x (by simp [W.ods])
   have e2 := hod y (by simp [W.ods])
   simp only [nv, sv, e1, e2] at hag ⊢
   refine ⟨?_, trivial⟩
   have hy : ∀ i ∈ fpV (opv g σ'.fr y), σ.hp[i]? = σ'.hp[i]? := by
    intro i hi
    cases hxx : opv g σ'.fr x <;> simp only [hxx] at hag <;> exact hag.2.1 _ rfl i hi
   have hnews : newsV σ.hp es (opv g σ'.fr y) = newsV σ'.hp es (opv g σ'.fr y) := newsV_local hy
   rw [hnews]
   cases hxx : opv g σ'.fr x <;> simp only [hxx, hneed] at hag ⊢
   case z e0 =>
    cases newsV σ'.hp es (opv g σ'.fr y) with
    | none => rfl
    | some t =>
     cases hn : o.nid with
     | none => simp
     | some k =>
      have := hag.2.2 (base + k) (by simp [hn])
      simp only [this]
   case sx es1 rows1 =>
    cases newsV σ'.hp es (opv g σ'.fr y) with
    | none => rfl
    | some t =>
     cases hn : o.nid with
     | none => simp
     | some k =>
      have := hag.2.2 (base + k) (by simp [hn])
      simp only [this]
   case rf id g1 off len es' =>
    have := hag.2.2 id (by simp)
    cases newsV σ'.hp es (opv g σ'.fr y) with
    | none => rfl
    | some t =>
     simp only
     rw [this]
 | o f xs =>
  have hod : ∀ od ∈ f :: xs, opv g σ.fr od = opv g σ'.fr od := opv_agree (fun n hn => hfr n (by simp [RO.reads, hx, hn]))
  have hneed : needW g o σ.fr = needW g o σ'.fr := by cases g <;> simp only [needW, htsall]
  have e0 := hod f (by simp)
  have e1 : xs.map (opv g σ.fr) = xs.map (opv g σ'.fr) := List.map_congr_left fun x h => hod x (by simp [h])
  simp only [fpR, hx, e0, e1] at hag ⊢
  simp only [eff, hx, effO, e0, e1, hneed]
  cases hf : opv g σ'.fr f <;> simp only [hf] at hag ⊢ <;> try (first | (exact ⟨trivial, trivial⟩) | (simp; done))
  rename_i k caps
  cases hr : hasRefL (xs.map (opv g σ'.fr) ++ caps) with
  | true =>
   have hh : σ.hp = σ'.hp := hag.1 (by simp [hr])
   simp only [hh, and_self]
  | false =>
   have ev : ((xs.map (opv g σ'.fr) ++ caps).map (vw σ.hp 8)) = ((xs.map (opv g σ'.fr) ++ caps).map (vw σ'.hp 8)) := vw_heapL hr
   have hids : ridsL (xs.map (opv g σ'.fr) ++ caps) = [] := rids_noref _ hr
   simp only [ev, Bool.false_and]
   refine ⟨?_, by simp⟩
   split
   ·rename_i ok r bs hΓ
    cases hn : o.nid with
    | none => rfl
    | some j =>
     have hw := hag.2.2
     simp only [ev, hΓ, hn] at hw
     have : holesB σ.hp (base + j) bs.length = holesB σ'.hp (base + j) bs.length := by
      have e : ∀ i, i < bs.length → σ.hp[base + j + i]? = σ'.hp[base + j + i]? := fun i hi => hw (base + j + i) (by simp only [List.mem_append, mem_upTo]; omega)
      rw [Bool.eq_iff_iff]
      exact ⟨fun h => holesB_of fun i hi => by rw [← e i hi]; exact holesB_spec h i hi, fun h => holesB_of fun i hi => by rw [e i hi]; exact holesB_spec h i hi⟩
     simp only [this]
   ·rfl
end Go.Fam
