import Derived.Test.YtjimcmcffjibmaaGreatG0
set_option linter.all false
set_option maxHeartbeats 4000000
open List renaming map_congr_left → Qe,getElem?_set_ne → Qh,eq_nil_of_length_eq_zero → Qj,getElem?_set_self → Qk,mem_append → Ql,mem_of_mem_take → Qm,mem_of_mem_drop → Qn,all_eq_true → Qo,map_nil → Qp,getElem?_eq_none → Qq,mem_cons → Qr,map_cons → Qs,getElem?_append_left → Qu,length_take → Qy,map_toArray → Qz,replicate → Q2,mem_map → Q4,length_cons → Q5,flatMap_def → Q6,getElem?_append_right → Q9,mem_singleton → Zb,getElem?_eq_some_iff → Zc,eq_of_mem_replicate → Zd,mem_flatMap → Ze,cons_append → Zf,append_nil → Zg,idxOf_eq_length → Zi,size_toArray → Zl,getElem?_map → Zn,any_eq_false → Zo,mem_flatten → Zp,mem_toArray → Zq,not_mem_nil → Zr,foldl_cons → Zt,take_take → Zv,take_zero → Zw
open Nat renaming le_refl → Qf,mul_le_mul_right → Qi,min_eq_left → Qv,add_sub_cancel_left → Q0,pos_of_ne_zero → Q1,add_zero → Q3,zero_add → Q7,min → Q8,lt_of_lt_of_le → Za,add_mul → Zh,eq_zero_or_pos → Zk,min_zero → Zm,min_le_left → Zs
open Bool renaming and_eq_true → Qt,or_eq_false_iff → Qx,true_and → Zj,eq_iff_iff → Zu,not_false → Zx
open Option renaming bind_eq_some_iff → Qa,some → Qb,bind_eq_bind → Qc,pure_def → Qd,map_eq_some_iff → Qg,map_some → Qw
namespace Go.Fam
variable {S : Nat → Prop} {w : World} {O : OInfo} {hp : List Blk}
def updO (O : OInfo) (id : Nat) (x : Nat × Option Nat) : OInfo := fun k => if k = id then some x else O k
inductive W where
 | alc (zc : List V) | bxo (x : Od) | bso (es n : Nat) (zc : List V) (parts : List (Nat × Nat × Od)) | mks (es : Nat) (zc : List V) (l c : Od)
 | st (n : Nat) (a x : Od) | app (es bt : Nat) (x y : Od) | cpy (es : Nat) (x y : Od)
 | mkm (st : Bool) | rng (x : Od) | mup (kt : TypeId) (sk : Bool) (m k v : Od) | men (kt : TypeId) (sk : Bool) (zc : V) (m k : Od) | mes (m s v : Od)
def W.ods : W → List Od
 | .alc _ => []
 | .bxo x => [x]
 | .bso _ _ _ ps => ps.map (·.2.2)
 | .mks _ _ l c => [l,c]
 | .st _ a x => [a,x]
 | .app _ _ x y => [x,y]
 | .cpy _ x y => [x,y]
 | .mkm _ => []
 | .rng x => [x]
 | .mup _ _ m k v => [m,k,v]
 | .men _ _ _ m k => [m,k]
 | .mes m s v => [m,s,v]
def Qcb (hp : List Blk) (es : Nat) (y : V) : Option (List V × Nat) :=
 match y with
 | .z _ => some ([],0)
 | .sl es' rows => if es' = es then some (rows.flatten,rows.length) else none
 | .rf id g off len es' => match hp[id]? with
  | some (.cells g' vs) => if g' = g ∧ es' = es ∧ off + len * es ≤ vs.length then some ((vs.drop off).take (len * es),len) else none
  | _ => none
 | _ => none
def Qam (n : Nat) : Prop := n ≤ 2147483648
def Qld (bt n : Nat) : Prop := n ≤ 2147483648 ∨ n ≤ 140737488355328 ∧ n * bt ≤ 140737488355328
def Qvm (bt : Nat) {n : Nat} (h : Qam n) : Qld bt n := .inl h
def Qo8 {bt n : Nat} (h : Qld bt n) (hb : bt ≤ 65536) : n ≤ 140737488355328 ∧ n * bt ≤ 140737488355328 := by
 rcases h with h | h
 ·exact ⟨Nat.le_trans h (by decide),Nat.le_trans (Nat.mul_le_mul h hb) (by decide)⟩
 ·exact h
def nv (hp : List Blk) (q : W) (ρ : Od → V) : Option (Prop × Blk × (Nat → V)) :=
 match q with
 | .alc zc => some (True,.cells 0 zc,fun id => .ad id 0 0)
 | .bxo x => some (Qrk (ρ x) = true ∧ (ρ x).cells.all Qcg = true,.cells 0 (ρ x).cells,fun id => .ad id 0 0)
 | .bso es n zc ps =>
  let vs := ps.map fun p => (p.1,p.2.1,ρ p.2.2)
  some (Qck (n * es) vs ∧ Qc8 vs,.cells 0 (Qbg vs (Q2 n zc).flatten),fun id => .rf id 0 0 n es)
 | .mks es zc l c => match ρ l,ρ c with
  | .i l,.i c => some (0 ≤ l ∧ l ≤ c ∧ c ≤ 2147483648,.cells 0 (Q2 l.toNat zc).flatten,fun id => .rf id 0 0 l.toNat es)
  | _,_ => none
 | .app es bt x y => match ρ x,Qcb hp es (ρ y) with
  | .z _,some (vs,n) => some (Qld bt n,.cells 0 vs,fun id => .rf id 0 0 n es)
  | .sx es' rows,some (vs,n) => some (es' = es ∧ 0 < n ∧ Qld bt (rows.length + n),.cells 0 (rows.flatten ++ vs),fun id => .rf id 0 0 (rows.length + n) es)
  | _,_ => none
 | .mkm st => some (True,.map st [] [],fun id => .mp id 0)
 | .rng x => match ρ x with
  | .mp id g => match hp[id]? with
   | some (.map _ ks _) => some (g = 0,.iter id ks.length (List.range ks.length) none,fun i => .it i 0)
   | _ => none
  | _ => none
 | _ => none
def sv (E : TypeId → Nat → Prop) (hp : List Blk) (q : W) (ρ : Od → V) : Prop × V × Option (Nat × Blk) :=
 match q with
 | .st n a x => match ρ a with
  | .ad id g off => match hp[id]? with
   | some (.cells g' vs) => (g' = g ∧ off + n ≤ vs.length ∧ (ρ x).cells.length = n ∧ Qrk (ρ x) = true ∧ (ρ x).cells.all Qcg = true,.u,some (id,.cells g (putAt off (ρ x).cells vs)))
   | _ => (False,.u,none)
  | _ => (False,.u,none)
 | .app es bt x y => match ρ x,Qcb hp es (ρ y) with
  | .rf id g off len es',some (vs,n) => match hp[id]? with
   | some (.cells g' cs) => (g' = g ∧ es' = es ∧ off = 0 ∧ cs.length = len * es ∧ Qld bt (len + n),.rf id (g + 1) 0 (len + n) es,some (id,.cells (g + 1) (cs ++ vs)))
   | _ => (False,.u,none)
  | _,_ => (False,.u,none)
 | .cpy es x y => match ρ x,Qcb hp es (ρ y) with
  | .rf id g off len es',some (vs,n) => match hp[id]? with
   | some (.cells g' cs) => (g' = g ∧ es' = es ∧ off + len * es ≤ cs.length,.i (min n len : Nat),some (id,.cells g (putAt off (vs.take (min n len * es)) cs)))
   | _ => (False,.u,none)
  | _,_ => (False,.u,none)
 | .mup kt sk m k v => match ρ m,keyL (ρ k) with
  | .mp id g,some (s,l) => match hp[id]? with
   | some (.map st ks vs) => (g = 0 ∧ Qg7 E kt sk st ks s l,.u,some (id,.map st (putK ks l) (Qfv ks vs l (ρ v))))
   | _ => (False,.u,none)
  | _,_ => (False,.u,none)
 | .men kt sk zc m k => match ρ m,keyL (ρ k) with
  | .mp id g,some (s,l) => match hp[id]? with
   | some (.map st ks vs) => (g = 0 ∧ Qg7 E kt sk st ks s l,.tp [(vs[ks.idxOf l]?).getD zc,.i (ks.idxOf l)],some (id,.map st (putK ks l) (if l ∈ ks then vs else vs ++ [zc])))
   | _ => (False,.u,none)
  | _,_ => (False,.u,none)
 | .mes m s v => match ρ m,ρ s with
  | .mp id g,.i i => match hp[id]? with
   | some (.map st ks vs) => (g = 0 ∧ 0 ≤ i ∧ i < ks.length,.u,some (id,.map st ks (vs.set i.toNat (ρ v))))
   | _ => (False,.u,none)
  | _,_ => (False,.u,none)
 | _ => (False,.u,none)
def putB (hp : List Blk) : Option (Nat × Blk) → List Blk
 | none => hp
 | some (id,b) => hp.set id b
def Qj4 (P : Program) (t : TypeId) : Bool := match P.info? t with | some i => decide (i.bytes ≤ 65536) | none => false
def resW (P : Program) (o : Oper) : Option W :=
 match o.op with
 | .alloc t => if zOk P t then some (.alc (zV P 9 t)) else none
 | .box t x => (rOd P t x).map .bxo
 | .buildSlice t n ps => do
  let e ← elB P t
  let es ← szB P e
  if es ≠ 0 ∧ n * es ≤ 16777216 ∧ zOk P e = true then do return .bso es n (zV P 9 e) (← Qma P (fun i => some (i * es,es,e)) ps.toList) else none
 | .makeSlice t l c => do
  let e ← elB P t
  let es ← szB P e
  if es ≠ 0 ∧ zOk P e = true ∧ Qj4 P e = true then do return .mks es (zV P 9 e) (← rOd P 0 l) (← rOd P 0 c) else none
 | .store t a x => do return .st (← szB P t) (← rOd P 0 a) (← rOd P t x)
 | .call c => match c.callee with
  | .builtin .append => match c.args.toList,c.argTypes.toList with
   | [x,y],[t,u] => do
    let e ← elB P t
    let es ← szB P e
    let _ ← elB P u
    if es ≠ 0 ∧ zOk P e = true ∧ Qj4 P e = true then do return .app es (P.bytesOf e) (← rOd P t x) (← rOd P u y) else none
   | _,_ => none
  | .builtin .copy => match c.args.toList,c.argTypes.toList with
   | [x,y],[t,u] => do
    let e ← elB P t
    let es ← szB P e
    return .cpy es (← rOd P t x) (← rOd P u y)
   | _,_ => none
  | _ => none
 | .makeMap t none => do
  let (kt,_) ← mapB P t
  return .mkm (!Qia P kt)
 | .range t x => do
  let _ ← mapB P t
  return .rng (← rOd P t x)
 | .mapUpdate t m k v | .insert t m k v => do
  let (kt,et) ← mapB P t
  return .mup kt (!Qia P kt) (← rOd P t m) (← rOd P kt k) (← rOd P et v)
 | .mapEntry t m k => do
  let (kt,et) ← mapB P t
  if zOk P et && Qte P et then return .men kt (!Qia P kt) (zE P et) (← rOd P t m) (← rOd P kt k) else none
 | .entryStore t m s v => do
  let (_,et) ← mapB P t
  return .mes (← rOd P t m) (← rOd P 0 s) (← rOd P et v)
 | _ => none
section
variable {P : Program} {F : Fence} {n : Nat}
def Qvi (hm : Mat S w O hp) {id : Nat} (hO : O id = none) (w' : World) (jZ : ∀ k,k < w.heap.size → w'.heap[k]? = w.heap[k]?) (x : Nat × Option Nat) :
  Ext S S w w' O (updO O id x) := by
 refine ⟨fun k hk => ⟨hk,jZ k (hm.lt k hk)⟩,fun j g ob hj => ⟨g,ob,?_,Qf _,fun _ => ⟨rfl,fun b cur e hb hh => ⟨cur,(jZ b (by subst hb; exact (hm.own j g b hj).1)).trans hh,rfl⟩⟩⟩⟩
 unfold updO
 rw [if_neg (by rintro rfl; rw [hO] at hj; cases hj)]
 exact hj
def Qra {w w1 : World} (hm : Mat S w O hp) {id : Nat} (hO : O id = none) {x : Blk} (jF : hp[id]? = some x)
  (h1 : w1.heap = w.heap) (h2 : w1.os = w.os) (h3 : w1.tape = w.tape) (h4 : w1.output = w.output) {o : Obj} (hfz : ∀ a,(w1.alloc o).frozen? a = w1.frozen? a)
  (jA : ∀ O',Ext S S w (w1.alloc o) O O' → (w1.alloc o).heap[w.heap.size]? = some o → Qb6 S (w1.alloc o) O' 0 (some w.heap.size) (some x)) :
  Evol S S w (w1.alloc o) O (updO O id (0,some w.heap.size)) ∧ Mat S (w1.alloc o) (updO O id (0,some w.heap.size)) hp ∧
   (w1.alloc o).heap[w.heap.size]? = some o := by
 have hsz : w1.heap.size = w.heap.size := by rw [h1]
 have jQ : (w1.alloc o).heap[w.heap.size]? = some o := by rw [← hsz]; exact heap_alloc_new w1 _
 have jZ : ∀ k,k < w.heap.size → (w1.alloc o).heap[k]? = w.heap[k]? := fun k hk => (heap_alloc_old w1 _ (by omega)).trans (by rw [h1])
 have hx := Qvi hm hO (w1.alloc o) jZ (0,some w.heap.size)
 have jG : ∀ j g ob,updO O id (0,some w.heap.size) j = some (g,ob) → (j = id ∧ g = 0 ∧ ob = some w.heap.size) ∨ (j ≠ id ∧ O j = some (g,ob)) := by
  intro j g ob h
  unfold updO at h
  split at h
  ·rename_i hj; left; simp at h; exact ⟨hj,h.1.symm,h.2.symm⟩
  ·rename_i hj; exact .inr ⟨hj,h⟩
 refine ⟨⟨hx,h2,h3,h4,by simp [hsz],fun a _ => (hfz a).trans (Qli h1 a),fun k hk _ => jZ k hk,?_,fun k hk => .inl hk⟩,⟨?_,?_,?_,?_⟩,jQ⟩
 ·rintro k ⟨j,g,hj⟩
  rcases jG j g _ hj with ⟨_,_,h⟩ | ⟨_,h⟩
  ·cases h; exact .inr (Qf _)
  ·exact .inl ⟨j,g,h⟩
 ·intro k hk; have := hm.lt k hk; simp [hsz]; omega
 ·intro j g b hj
  rcases jG j g _ hj with ⟨_,_,h⟩ | ⟨_,h⟩
  ·cases h; exact ⟨by simp [hsz],fun hS => by have := hm.lt _ hS; omega⟩
  ·have := hm.own j g b h; exact ⟨by simp [hsz]; omega,this.2⟩
 ·intro j j' g g' b hj hj'
  rcases jG j g _ hj with ⟨h0,_,h⟩ | ⟨h0,h⟩ <;> rcases jG j' g' _ hj' with ⟨h0',_,h'⟩ | ⟨h0',h'⟩
  ·omega
  ·cases h; have := (hm.own j' g' _ h').1; omega
  ·cases h'; have := (hm.own j g _ h).1; omega
  ·exact hm.inj j j' g g' b h h'
 ·intro j g ob hj
  rcases jG j g _ hj with ⟨rfl,rfl,rfl⟩ | ⟨h0,h⟩
  ·rw [jF]
   exact jA _ hx jQ
  ·exact (hm.blk j g ob h).ext hx fun b hb => jZ b (hm.own j g b (by rw [h,hb])).1
def Zeo {w w1 : World} (hm : Mat S w O hp) {id : Nat} (hO : O id = none) {vs : List V} (jF : hp[id]? = some (.cells 0 vs))
  (h1 : w1.heap = w.heap) (h2 : w1.os = w.os) (h3 : w1.tape = w.tape) (h4 : w1.output = w.output) {cells : Array Value} {e : TypeId} (hr : RepL S w O vs cells.toList) (hone : ∀ c ∈ cells.toList,c.oneCell' = true) :
  Evol S S w (w1.alloc (.cells cells e)) O (updO O id (0,some w.heap.size)) ∧ Mat S (w1.alloc (.cells cells e)) (updO O id (0,some w.heap.size)) hp ∧
   (w1.alloc (.cells cells e)).heap[w.heap.size]? = some (.cells cells e (0,0)) :=
 Qra hm hO jF h1 h2 h3 h4 (fun a => Qg1 w1 cells e a) fun O' hx jQ => ⟨rfl,cells,e,jQ,RepL.ext hx _ _ hr,hone⟩
def Qd6 (w : World) (o : Obj) (ho : o.isCells = false) (a : Addr) : (w.alloc o).frozen? a = w.frozen? a := by
 by_cases h : a.block = w.heap.size
 ·have h1 : (w.alloc o).heap[a.block]? = some o := by rw [h]; exact heap_alloc_new w _
  have h2 : w.heap[a.block]? = none := by rw [h]; simp
  simp only [World.frozen?,h1,h2]
  cases o <;> first | rfl | (simp [Obj.isCells] at ho)
 ·simp only [World.frozen?,Qfo w _ h]
def Qos (hm : Mat S w O hp) {id g b : Nat} (hO : O id = some (g,some b)) {o o' : Obj} (hb : w.heap[b]? = some o) (hc : o.isCells = false) (hc' : o'.isCells = false)
  (hlt : id < hp.length) {x : Blk} (jA : Ext S S w (w.putObj b o') O O → (w.putObj b o').heap[b]? = some o' → Qb6 S (w.putObj b o') O g (some b) (some x)) :
  Evol S S w (w.putObj b o') O O ∧ Mat S (w.putObj b o') O (hp.set id x) := by
 have hbl : b < w.heap.size := (Array.getElem?_eq_some_iff.1 hb).1
 have jQ : (w.putObj b o').heap[b]? = some o' := World.putObj_heap_same hbl
 have kT : ∀ k,k ≠ b → (w.putObj b o').heap[k]? = w.heap[k]? := fun k hk => World.putObj_heap_other hk
 have hfz : ∀ a,(w.putObj b o').frozen? a = w.frozen? a := by
  intro a
  by_cases h : a.block = b
  ·simp only [World.frozen?,h,jQ,hb]
   cases o <;> cases o' <;> first | rfl | (simp [Obj.isCells] at hc; done) | (simp [Obj.isCells] at hc'; done)
  ·simp only [World.frozen?,kT _ h]
 have hx : Ext S S w (w.putObj b o') O O := by
  refine ⟨fun k hk => ⟨hk,kT k (by rintro rfl; exact (hm.own id g k hO).2 hk)⟩,fun j g2 ob hj => ⟨g2,ob,hj,Qf _,fun _ => ⟨rfl,fun b' cur' e' hb' hh => ⟨cur',?_,rfl⟩⟩⟩⟩
  rw [kT b' (by rintro rfl; rw [hb] at hh; cases hh; simp [Obj.isCells] at hc)]
  exact hh
 refine ⟨⟨hx,rfl,rfl,rfl,by simp,fun a _ => hfz a,fun k hk jX => kT k (by rintro rfl; exact jX ⟨id,g,hO⟩),fun k h => .inl h,fun k hk => .inl hk⟩,⟨?_,?_,hm.inj,?_⟩⟩
 ·intro k hk; simpa using hm.lt k hk
 ·intro j g2 b' hj; simpa using hm.own j g2 b' hj
 ·intro j g2 ob hj
  by_cases h0 : j = id
  ·subst h0
   rw [hO] at hj; cases hj
   rw [Qk hlt]
   exact jA hx jQ
  ·rw [Qh (Ne.symm h0)]
   refine (hm.blk j g2 ob hj).ext hx fun b' hb' => kT b' ?_
   rintro rfl
   exact h0 (hm.inj j id _ _ _ (by rw [hj,hb']) hO)
def Qre (hm : Mat S w O hp) {id g b : Nat} (hO : O id = some (g,some b)) {cur new : Array Value} {e : TypeId} (hb : w.heap[b]? = some (.cells cur e (0,0)))
  (hsz : new.size = cur.size) {us : List V} (hone : ∀ c ∈ new.toList,c.oneCell' = true) (g' : Nat) (hg : g ≤ g')
  (hr : RepL S (w.setRow b new) (updO O id (g',some b)) us new.toList) (hlt : id < hp.length) :
  Evol S S w (w.setRow b new) O (updO O id (g',some b)) ∧ Mat S (w.setRow b new) (updO O id (g',some b)) (hp.set id (.cells g' us)) := by
 have jQ : (w.setRow b new).heap[b]? = some (.cells new e (0,0)) := setRow_heap w b cur new e _ hb
 have kT : ∀ k,k ≠ b → (w.setRow b new).heap[k]? = w.heap[k]? := fun k hk => setRow_other w b k new hk
 have hfz : ∀ a,(w.setRow b new).frozen? a = w.frozen? a := by
  intro a
  by_cases h : a.block = b
  ·simp [World.frozen?,h,jQ,hb]
  ·simp only [World.frozen?,kT _ h]
 have aV : ∀ k,S k → k ≠ b := fun k hk h => by subst h; exact (hm.own id g k hO).2 hk
 have jG : ∀ j g2 ob,updO O id (g',some b) j = some (g2,ob) → (j = id ∧ g2 = g' ∧ ob = some b) ∨ (j ≠ id ∧ O j = some (g2,ob)) := by
  intro j g2 ob h
  unfold updO at h
  split at h
  ·rename_i hj; left; simp at h; exact ⟨hj,h.1.symm,h.2.symm⟩
  ·rename_i hj; exact .inr ⟨hj,h⟩
 have hx : Ext S S w (w.setRow b new) O (updO O id (g',some b)) := by
  refine ⟨fun k hk => ⟨hk,kT k (aV k hk)⟩,fun j g2 ob hj => ?_⟩
  by_cases xE : j = id
  ·subst xE
   rw [hO] at hj
   cases hj
   refine ⟨g',some b,by simp [updO],hg,fun _ => ⟨rfl,fun b' cur' e' hb' hh => ?_⟩⟩
   cases hb'
   rw [hb] at hh
   cases hh
   exact ⟨new,jQ,hsz⟩
  ·refine ⟨g2,ob,by simp [updO,xE,hj],Qf _,fun _ => ⟨rfl,fun b' cur' e' hb' hh => ⟨cur',?_,rfl⟩⟩⟩
   rw [kT b' (by rintro rfl; subst hb'; exact xE (hm.inj j id g2 g _ hj hO))]
   exact hh
 refine ⟨⟨hx,rfl,rfl,rfl,by simp,fun a _ => hfz a,fun k hk jX => kT k (by rintro rfl; exact jX ⟨id,g,hO⟩),?_,fun k hk => .inl hk⟩,⟨?_,?_,?_,?_⟩⟩
 ·rintro k ⟨j,g2,hj⟩
  rcases jG j g2 _ hj with ⟨_,_,h⟩ | ⟨_,h⟩
  ·cases h; exact .inl ⟨id,g,hO⟩
  ·exact .inl ⟨j,g2,h⟩
 ·intro k hk; simpa using hm.lt k hk
 ·intro j g2 b' hj
  rcases jG j g2 _ hj with ⟨_,_,h⟩ | ⟨_,h⟩
  ·cases h; simpa using hm.own id g b hO
  ·simpa using hm.own j g2 b' h
 ·intro j j' g2 g2' b' hj hj'
  rcases jG j g2 _ hj with ⟨h0,_,h⟩ | ⟨h0,h⟩ <;> rcases jG j' g2' _ hj' with ⟨h0',_,h'⟩ | ⟨h0',h'⟩
  ·omega
  ·cases h; exact absurd (hm.inj j' id _ _ _ h' hO) h0'
  ·cases h'; exact absurd (hm.inj j id _ _ _ h hO) h0
  ·exact hm.inj j j' _ _ b' h h'
 ·intro j g2 ob hj
  rcases jG j g2 _ hj with ⟨rfl,rfl,rfl⟩ | ⟨h0,h⟩
  ·simp only [Qk hlt,Qb6]
   exact ⟨trivial,new,e,jQ,hr,hone⟩
  ·rw [Qh (Ne.symm h0)]
   refine (hm.blk j g2 ob h).ext hx fun b' hb' => kT b' ?_
   rintro rfl
   exact h0 (hm.inj j id _ _ _ (by rw [h,hb']) hO)
def Qi5 (hm : Mat S w O hp) {es : Nat} {y : V} {cy : Value} (hy : Rep S w O y cy) {vs : List V} {k : Nat} (hn : Qcb hp es y = some (vs,k)) :
  ∃ news : List Value,(∀ w1 : World,w1.heap = w.heap → (Builtin.firstCells es k cy).run P w1 = .ok news.toArray w1) ∧ RepL S w O vs news ∧ news.length = k * es ∧ vs.length = k * es ∧ (∀ c ∈ news,c.oneCell' = true) ∧
   (∃ a cap,cy = .slice a k cap) := by
 cases y <;> first | (simp [Qcb] at hn; done) | skip
 case z es' =>
  simp [Qcb] at hn
  obtain ⟨rfl,rfl⟩ := hn
  simp only [Rep] at hy
  obtain ⟨a,rfl⟩ := hy
  refine ⟨[],fun w1 _ => ?_,by simp [RepL],by simp,by simp,by simp,a,0,rfl⟩
  cases a <;> simp [Builtin.firstCells,loadCells,loadCellsFrom]
 case sl es' rows =>
  simp only [Qcb] at hn
  split at hn
  ·rename_i he
   subst he
   simp only [Qb.injEq,Prod.mk.injEq] at hn
   obtain ⟨rfl,rfl⟩ := hn
   simp only [Rep] at hy
   obtain ⟨a,cap,rfl,zJ,hr⟩ := hy
   rcases hr with rfl | ⟨blk,off,cur,e,fr,rfl,hS,hh,hrow⟩
   ·refine ⟨[],fun w1 _ => ?_,by simp [RepL],by simp,by simp,by simp,a,cap,rfl⟩
    cases a <;> simp [Builtin.firstCells,loadCells,loadCellsFrom]
   ·obtain ⟨⟨h1,h1'⟩,h2⟩ := Qau.flat _ _ hrow
    have hl := RepL.length _ _ h1
    rw [h2] at hl
    refine ⟨(cur.toList.drop off).take (rows.length * es'),fun w1 kJ => ?_,?_,by rw [Qy,Qv hl],h2,h1',_,cap,rfl⟩
    ·simp only [Builtin.firstCells]
     exact Qbv (by rw [kJ]; exact hh) _ (by omega)
    ·exact RepL.ext (S := S) (O := noO) (w := w) ⟨fun _ h => ⟨h,rfl⟩,fun _ _ _ h => by cases h⟩ _ _ (RepL.take_both _ _ _ h1 (by omega))
  ·cases hn
 case rf id g off len es' =>
  simp only [Qcb] at hn
  split at hn
  ·rename_i g' us jF
   split at hn
   ·rename_i hc
    obtain ⟨rfl,rfl,jV⟩ := hc
    simp only [Qb.injEq,Prod.mk.injEq] at hn
    obtain ⟨rfl,rfl⟩ := hn
    simp only [Rep] at hy
    obtain ⟨_,gO,ob,hO,kA,hr⟩ := hy
    have hb := hm.blk id gO ob hO
    rw [jF] at hb
    simp only [Qb6] at hb
    rcases hr hb.1 with ⟨b,cap,cur',e',rfl,hh',rfl,uJ,hsz⟩ | ⟨rfl,rfl,a,rfl⟩
    ·obtain ⟨cur,e,hh,kH,h1⟩ := hb.2
     have hd := kH.drop off
     have hl := RepL.length _ _ hd
     have xB : len * es' ≤ (us.drop off).length := by simp; omega
     refine ⟨(cur.toList.drop off).take (len * es'),fun w1 kJ => ?_,?_,by simp at hl xB ⊢; omega,by simp at xB ⊢; omega,fun c hc => h1 c (Qn (Qm hc)),_,cap,rfl⟩
     ·simp only [Builtin.firstCells]
      exact Qbv (by rw [kJ]; exact hh) _ (by omega)
     ·exact RepL.take_both _ _ _ (hd.take _) (by simp; omega)
    ·refine ⟨[],fun w1 _ => ?_,by simp [RepL],by simp,by simp,by simp,a,0,rfl⟩
     cases a <;> simp [Builtin.firstCells,loadCells,loadCellsFrom]
   ·cases hn
  ·cases hn
def Qpg (hm : Mat S w O hp) {es : Nat} {y : V} {cy : Value} (hy : Rep S w O y cy) {vs : List V} {k : Nat} (hn : Qcb hp es y = some (vs,k)) :
  ∃ news : List Value,(∀ w1 : World,w1.heap = w.heap → ∀ m,m ≤ k → (Builtin.firstCells es m cy).run P w1 = .ok (news.take (m * es)).toArray w1) ∧ RepL S w O vs news ∧ news.length = k * es ∧ vs.length = k * es ∧ (∀ c ∈ news,c.oneCell' = true) ∧
   (∃ a cap,cy = .slice a k cap) := by
 cases y <;> first | (simp [Qcb] at hn; done) | skip
 case z es' =>
  simp [Qcb] at hn
  obtain ⟨rfl,rfl⟩ := hn
  simp only [Rep] at hy
  obtain ⟨a,rfl⟩ := hy
  refine ⟨[],fun w1 _ m y3 => ?_,by simp [RepL],by simp,by simp,by simp,a,0,rfl⟩
  obtain rfl : m = 0 := by omega
  cases a <;> simp [Builtin.firstCells,loadCells,loadCellsFrom]
 case sl es' rows =>
  simp only [Qcb] at hn
  split at hn
  ·rename_i he
   subst he
   simp only [Qb.injEq,Prod.mk.injEq] at hn
   obtain ⟨rfl,rfl⟩ := hn
   simp only [Rep] at hy
   obtain ⟨a,cap,rfl,zJ,hr⟩ := hy
   rcases hr with rfl | ⟨blk,off,cur,e,fr,rfl,hS,hh,hrow⟩
   ·refine ⟨[],fun w1 _ m y3 => ?_,by simp [RepL],by simp,by simp,by simp,a,cap,rfl⟩
    obtain rfl : m = 0 := by simpa using y3
    cases a <;> simp [Builtin.firstCells,loadCells,loadCellsFrom]
   ·obtain ⟨⟨h1,h1'⟩,h2⟩ := Qau.flat _ _ hrow
    have hl := RepL.length _ _ h1
    rw [h2] at hl
    refine ⟨(cur.toList.drop off).take (rows.length * es'),fun w1 kJ m y3 => ?_,?_,by rw [Qy,Qv hl],h2,h1',_,cap,rfl⟩
    ·simp only [Builtin.firstCells]
     have xR : m * es' ≤ rows.length * es' := Qi _ y3
     rw [Zv,Qv xR]
     exact Qbv (by rw [kJ]; exact hh) _ (by omega)
    ·exact RepL.ext (S := S) (O := noO) (w := w) ⟨fun _ h => ⟨h,rfl⟩,fun _ _ _ h => by cases h⟩ _ _ (RepL.take_both _ _ _ h1 (by omega))
  ·cases hn
 case rf id g off len es' =>
  simp only [Qcb] at hn
  split at hn
  ·rename_i g' us jF
   split at hn
   ·rename_i hc
    obtain ⟨rfl,rfl,jV⟩ := hc
    simp only [Qb.injEq,Prod.mk.injEq] at hn
    obtain ⟨rfl,rfl⟩ := hn
    simp only [Rep] at hy
    obtain ⟨_,gO,ob,hO,kA,hr⟩ := hy
    have hb := hm.blk id gO ob hO
    rw [jF] at hb
    simp only [Qb6] at hb
    rcases hr hb.1 with ⟨b,cap,cur',e',rfl,hh',rfl,uJ,hsz⟩ | ⟨rfl,rfl,a,rfl⟩
    ·obtain ⟨cur,e,hh,kH,h1⟩ := hb.2
     have hd := kH.drop off
     have hl := RepL.length _ _ hd
     have xB : len * es' ≤ (us.drop off).length := by simp; omega
     refine ⟨(cur.toList.drop off).take (len * es'),fun w1 kJ m y3 => ?_,?_,by simp at hl xB ⊢; omega,by simp at xB ⊢; omega,fun c hc => h1 c (Qn (Qm hc)),_,cap,rfl⟩
     ·simp only [Builtin.firstCells]
      have xR : m * es' ≤ len * es' := Qi _ y3
      rw [Zv,Qv xR]
      exact Qbv (by rw [kJ]; exact hh) _ (by omega)
     ·exact RepL.take_both _ _ _ (hd.take _) (by simp; omega)
    ·refine ⟨[],fun w1 _ m y3 => ?_,by simp [RepL],by simp,by simp,by simp,a,0,rfl⟩
     obtain rfl : m = 0 := by omega
     cases a <;> simp [Builtin.firstCells,loadCells,loadCellsFrom]
   ·cases hn
  ·cases hn
def Qov {t u e e' : TypeId} {i : TypeInfo} {z : Value} (ht : P.underlying t = some (.slice e)) (hu : P.underlying u = some (.slice e')) (hi : P.info? e = some i) (hz : i.zero = some z) {ty : TypeId}
  {w : World} {a c : Option Addr} {sLen sCap k cap : Nat} {olds news : List Value}
  (ho : ∀ w1 : World,w1.heap = w.heap → (Builtin.firstCells i.size sLen (.slice a sLen sCap)).run P w1 = .ok olds.toArray w1)
  (hn : ∀ w1 : World,w1.heap = w.heap → (Builtin.firstCells i.size k (.slice c k cap)).run P w1 = .ok news.toArray w1)
  (hg : sCap < sLen + k) (n9 : sLen + k ≤ 140737488355328 ∧ (sLen + k) * i.bytes ≤ 140737488355328) :
  (Builtin.append_ #[t,u] ty #[.slice a sLen sCap,.slice c k cap]).run P w =
   .ok (.slice (some ⟨w.heap.size,0,none⟩) (sLen + k) (grownCap w (sLen + k) sCap e))
    (w.drew.alloc (.cells (olds.toArray ++ news.toArray ++ Builtin.zeroCells z.cells (grownCap w (sLen + k) sCap e - (sLen + k))) e)) := by
 have y0 : ¬ (sLen + k ≤ sCap) := by omega
 have iQ : ¬ (9223372036854775807 < ((sLen : Int) + (k : Int))) := by omega
 obtain ⟨jV,aW⟩ := n9
 have cL := growslice_fits (old := sCap) hg aW
 have iR : ¬ (281474976710656 < Builtin.nextslicecap (sLen + k) sCap * i.bytes) := by omega
 have ho' := ho w.drew rfl
 have hn' := hn w.drew rfl
 simp [Builtin.append_,run_underlying ht,run_underlying hu,sizeOf,typeInfo,zeroValue,hi,hz,Builtin.lenOf,y0,iQ,iR,Question.forced,ho',hn',newRow,grownCap]
 congr 2
 apply Array.ext'
 simp [List.append_assoc]
def Qzi {t u e e' : TypeId} {i : TypeInfo} (ht : P.underlying t = some (.slice e)) (hu : P.underlying u = some (.slice e')) (hi : P.info? e = some i) {ty : TypeId}
  {w : World} {g sLen sCap k cap : Nat} {c : Option Addr} {cur : Array Value} {eb : TypeId} {news : List Value} (hb : w.heap[g]? = some (.cells cur eb (0,0)))
  (hn : ∀ w1 : World,w1.heap = w.heap → (Builtin.firstCells i.size k (.slice c k cap)).run P w1 = .ok news.toArray w1)
  (h1 : ∀ x ∈ news,x.oneCell' = true) (y4 : sLen + k ≤ sCap) (jV : sLen * i.size + news.length ≤ cur.size) :
  (Builtin.append_ #[t,u] ty #[.slice (some ⟨g,0,none⟩) sLen sCap,.slice c k cap]).run P w =
   .ok (.slice (some ⟨g,0,none⟩) (sLen + k) sCap) (w.setRow g (cur.toList.take (sLen * i.size) ++ news ++ cur.toList.drop (sLen * i.size + news.length)).toArray) := by
 have hn' := hn w rfl
 have jN := run_storeCells_at P g (sLen * i.size) eb news 0 cur w hb (by simpa using jV) h1
 simp only [Q3] at jN
 have vI : (⟨g,0,none⟩ : Addr).add (sLen * i.size) = ⟨g,sLen * i.size,none⟩ := by unfold Addr.add; split <;> simp_all
 simp [Builtin.append_,run_underlying ht,run_underlying hu,sizeOf,typeInfo,hi,Builtin.lenOf,y4,hn',vI,jN]
def Qp4 {w w1 : World} (hm : Mat S w O hp) {id : Nat} (hO : O id = none) (jF : hp[id]? = some (.cells 0 [])) (h1 : w1 = w) :
  Evol S S w w1 O (updO O id (0,none)) ∧ Mat S w1 (updO O id (0,none)) hp := by
 subst h1
 have hx := Qvi hm hO w1 (fun _ _ => rfl) (0,none)
 have jG : ∀ j g ob,updO O id (0,none) j = some (g,ob) → (j = id ∧ g = 0 ∧ ob = none) ∨ (j ≠ id ∧ O j = some (g,ob)) := by
  intro j g ob h
  unfold updO at h
  split at h
  ·rename_i hj; left; simp at h; exact ⟨hj,h.1.symm,h.2.symm⟩
  ·rename_i hj; exact .inr ⟨hj,h⟩
 have hown : ∀ j g b,updO O id (0,none) j = some (g,some b) → O j = some (g,some b) := by
  intro j g b h
  rcases jG j g _ h with ⟨_,_,h'⟩ | ⟨_,h'⟩
  ·cases h'
  ·exact h'
 refine ⟨⟨hx,rfl,rfl,rfl,Qf _,fun _ _ => rfl,fun _ _ _ => rfl,fun k ⟨j,g,h⟩ => .inl ⟨j,g,hown j g k h⟩,fun _ h => .inl h⟩,⟨hm.lt,fun j g b h => hm.own j g b (hown _ _ _ h),fun j j' g g' b h h' => hm.inj j j' g g' b (hown _ _ _ h) (hown _ _ _ h'),?_⟩⟩
 intro j g ob h
 rcases jG j g _ h with ⟨rfl,rfl,rfl⟩ | ⟨_,h'⟩
 ·rw [jF]; exact ⟨rfl,rfl⟩
 ·exact (hm.blk j g ob h').ext hx fun _ _ => rfl
def Qnr {id b off : Nat} : Rep S w (updO O id (0,some b)) (.ad id 0 off) (.pointer (some ⟨b,off,none⟩)) := by
 simp only [Rep]
 exact ⟨rfl,0,some b,by simp [updO],Qf _,fun _ => ⟨b,rfl,rfl⟩⟩
def Qp2 {id j : Nat} {x : Nat × Option Nat} (h : j ≠ id) : updO O id x j = O j := by simp [updO,h]
def Qtf {t : TypeId} {i : TypeInfo} {z : Value} (hi : P.info? t = some i) (hz : i.zero = some z) (w : World) : (zeroValue t).run P w = .ok z w := by simp [zeroValue,typeInfo,hi,hz]
def Qfm {z : Value} (h : ∀ c ∈ z.cells.toList,c.oneCell' = true) (hz : 0 < z.cells.size) (k : Nat) : ∀ c ∈ (Builtin.zeroCells z.cells k).toList,c.oneCell' = true := by
 unfold Builtin.zeroCells
 rw [Qmb _ hz]
 intro c hc
 rw [Zp] at hc
 obtain ⟨l,hl,hc⟩ := hc
 rw [Zd hl] at hc
 exact h c hc
def Qr8 (hF : Qbz F) {o : Oper} {q : W} (hr : resW P o = some q) {gW hp : List Blk} (u5 : Mat S w O gW) (hm : Mat S w O hp)
  {a : Act} {ρ : Od → V} (hρ : Qdp P S w O ρ a.eval o) {ok : Prop} {x : Blk} {mk : Nat → V} (hv : nv gW q ρ = some (ok,x,mk)) (jA : ok) {id : Nat} (hO : O id = none) (jF : hp[id]? = some x)
  {K : Act → World → Prop} {Q' : Exit → Act → World → Prop}
  (hK : ∀ c w' O',Evol S S w w' O O' → Mat S w' O' hp → Rep S w' O' (mk id) c → (∀ j,j ≠ id → O' j = O j) → K (a.put o.dst c) w') : o.wpIn F n P a w K Q' := by
 unfold resW at hr
 unfold Qdp at hρ
 have fin : ∀ (vs : List V) (w1 : World) (cells : Array Value) (e : TypeId) (c : Value),x = .cells 0 vs → w1.heap = w.heap → w1.os = w.os → w1.tape = w.tape → w1.output = w.output → RepL S w O vs cells.toList → (∀ c ∈ cells.toList,c.oneCell' = true) →
   (∀ d,o.op ≠ .defer d) → (execOp a.eval o).run P w = .ok (.value c) (w1.alloc (.cells cells e)) →
   ((w1.alloc (.cells cells e)).heap[w.heap.size]? = some (.cells cells e (0,0)) → Rep S (w1.alloc (.cells cells e)) (updO O id (0,some w.heap.size)) (mk id) c) → o.wpIn F n P a w K Q' := by
  intro vs w1 cells e c uN h1 h2 h3 h4 zL hone hd jB hrep
  obtain ⟨jD,jC,jQ⟩ := Zeo hm hO (by rw [jF,uN]) h1 h2 h3 h4 zL hone (e := e)
  exact Qb9 hF hd jB (hK c _ _ jD jC (hrep jQ) fun j hj => Qp2 hj)
 cases jE : o.op <;> rw [jE] at hr hρ <;> simp only [Op.operands,Zq,Qr,Zr,or_false,forall_eq_or_imp,forall_eq] at hρ <;>
  first | (simp at hr; done) | (try dsimp only at hr)
 case alloc t =>
  split at hr
  ·rename_i hz
   simp only [Qb.injEq] at hr
   subst hr
   simp only [nv,Qb.injEq,Prod.mk.injEq] at hv
   obtain ⟨rfl,rfl,rfl⟩ := hv
   obtain ⟨i,z,hi,vJ,xA,_⟩ := Qeg hz
   obtain ⟨z1,z2,_⟩ := Qfl _ _ xA S w O
   exact fin _ w z.cells t (.pointer (some ⟨w.heap.size,0,none⟩)) rfl rfl rfl rfl rfl z1 z2 (by simp [jE])
    (by simp [execOp,jE,Instr.alloc,Qtf hi vJ,newVar,newRow]) (fun _ => Qnr)
  ·cases hr
 case box t x =>
  simp only [Qg] at hr
  obtain ⟨x',hx,rfl⟩ := hr
  simp only [nv,Qb.injEq,Prod.mk.injEq] at hv
  obtain ⟨rfl,rfl,rfl⟩ := hv
  obtain ⟨c1,c2,c3⟩ := Qhy (hρ _ _ hx) jA.1
  exact fin _ w (a.eval x).cells t (.pointer (some ⟨w.heap.size,0,none⟩)) rfl rfl rfl rfl rfl c1 (c3 jA.2) (by simp [jE])
   (by simp [execOp,jE,Instr.box,newVar,newRow]) (fun _ => Qnr)
 case buildSlice t k ps =>
  simp only [Qc,Qa] at hr
  obtain ⟨e,he,es,jP,hr⟩ := hr
  split at hr
  ·rename_i hc
   simp only [Qa,Qd,Qb.injEq] at hr
   obtain ⟨ods,jJ,rfl⟩ := hr
   simp only [nv,Qb.injEq,Prod.mk.injEq] at hv
   obtain ⟨rfl,rfl,rfl⟩ := hv
   have fY := Qgw ps.toList ods jJ (fun x hx => hρ x (by simpa using hx))
   simp only [Qw] at fY
   obtain ⟨cells,jB,hc1,vO,uZ,wB⟩ := Quy (P := P) (k := k) (Qc4 he) jP hc.1 hc.2.1 hc.2.2 (ps := ps.map fun p => (p.1,a.eval p.2)) (by simpa using fY) jA.1 jA.2
   refine fin _ w cells e (.slice (some ⟨w.heap.size,0,none⟩) k k) rfl rfl rfl rfl rfl vO wB (by simp [jE]) (by simp [execOp,jE,jB]) (fun jQ => ?_)
   simp only [Rep]
   exact ⟨rfl,0,some w.heap.size,by simp [updO],Qf _,fun _ => .inl ⟨w.heap.size,k,cells,e,rfl,jQ,rfl,Qf _,by omega⟩⟩
  ·cases hr
 case makeSlice t l c =>
  simp only [Qc,Qa] at hr
  obtain ⟨e,he,es,jP,hr⟩ := hr
  split at hr
  ·rename_i hc
   simp only [Qa,Qd,Qb.injEq] at hr
   obtain ⟨l',hl,c',dM,rfl⟩ := hr
   have r1 := hρ.1 _ _ hl
   have r2 := hρ.2 _ _ dM
   simp only [nv] at hv
   split at hv
   ·rename_i li ci iS oB
    rw [iS] at r1
    rw [oB] at r2
    simp only [Qb.injEq,Prod.mk.injEq] at hv
    obtain ⟨rfl,rfl,rfl⟩ := hv
    obtain ⟨h0,uJ,aX⟩ := jA
    obtain ⟨i,z,hi,vJ,xA,zK⟩ := Qeg hc.2.1
    obtain ⟨z1,z2,z3⟩ := Qfl _ _ xA S w O
    have vD : i.size = es := by simpa [szB,hi] using jP
    have u4 : z.cells.size = es := by rw [jP] at zK; exact (Qb.inj zK).symm
    have aY : 0 < es := Q1 hc.1
    have wZ : i.bytes ≤ 65536 := by have := hc.2.2; simpa [Qj4,hi] using this
    have wE : P.bytesOf e = i.bytes := by simp [Program.bytesOf,hi]
    have w1 : IntKind.i64.wrap li = li := Qjy ⟨by omega,by omega⟩
    have w2 : IntKind.i64.wrap ci = ci := Qjy ⟨by omega,by omega⟩
    have aZ : ∀ x : Int,0 ≤ x → x ≤ 2147483648 → ¬ ((i.bytes : Int) * x > 2 ^ 48) := by
     intro x xF y5
     have h1 : (i.bytes : Int) * x ≤ 65536 * 2147483648 := Int.mul_le_mul (by omega) y5 xF (by omega)
     omega
    have vW := aZ ci (by omega) aX
    have dN : ¬ ci < 0 := by omega
    have dO : ¬ li < 0 := by omega
    have dP : ¬ li > ci := by omega
    have j8 := Qmb z.cells (by omega) ci.toNat
    rw [u4] at j8
    have wV := RepL.flatten (S := S) (w := w) (O := O) z1 (by simpa using z3.symm) ci.toNat
    have jB : (Instr.makeSlice t (.int .i64 li) (.int .i64 ci)).run P w = .ok (.slice (some ⟨w.heap.size,0,none⟩) li.toNat ci.toNat) (w.alloc (.cells ((Array.range (ci.toNat * es)).map fun i => z.cells[i % es]!) e)) := by
     by_cases bA : ci.toNat * es = 0
     ·have uK : Array.range 0 = #[] := rfl
      simp only [Instr.makeSlice,Sem.run_bind,run_underlying (Qc4 he),Result.andThen_ok,asInt,asIntOf,Sem.run_pure,typeInfo,run_program,hi,w1,w2,dN,dO,dP,vW,bA]
      simp [Qb4 jP,bA,uK,newRow]
     ·simp only [Instr.makeSlice,Sem.run_bind,run_underlying (Qc4 he),Result.andThen_ok,asInt,asIntOf,Sem.run_pure,typeInfo,run_program,hi,w1,w2,dN,dO,dP,vW]
      simp [Qb4 jP,bA,Qtf hi vJ,u4,newRow]
    refine fin _ w ((Array.range (ci.toNat * es)).map fun i => z.cells[i % es]!) e (.slice (some ⟨w.heap.size,0,none⟩) li.toNat ci.toNat) rfl rfl rfl rfl rfl ?_ ?_ (by simp [jE]) (by simp [execOp,jE,Qdr r1,Qdr r2,jB]) (fun jQ => ?_)
    ·rw [j8]
     have bB : Q2 ci.toNat z.cells.toList = Q2 li.toNat z.cells.toList ++ Q2 (ci.toNat - li.toNat) z.cells.toList := by
      rw [List.replicate_append_replicate]; congr 1; omega
     rw [bB,List.flatten_append]
     exact RepL.more _ _ _ (RepL.flatten (S := S) (w := w) (O := O) z1 (by simpa using z3.symm) li.toNat).1
    ·rw [j8]
     intro x hx
     rw [Zp] at hx
     obtain ⟨l,hl,hx⟩ := hx
     rw [Zd hl] at hx
     exact z2 x hx
    ·simp only [Rep]
     exact ⟨rfl,0,some w.heap.size,by simp [updO],Qf _,fun _ => .inl ⟨w.heap.size,ci.toNat,_,e,rfl,jQ,rfl,by omega,by simp⟩⟩
   ·cases hv
  ·cases hr
 case store t x v =>
  simp only [Qc,Qa,Qd,Qb.injEq] at hr
  obtain ⟨_,_,_,_,_,_,rfl⟩ := hr
  simp [nv] at hv
 case call c =>
  split at hr
  ·rename_i jS
   split at hr
   ·rename_i x y t u j0 zN
    simp only [Qc,Qa] at hr
    obtain ⟨e,he,es,jP,e',he',hr⟩ := hr
    split at hr
    ·rename_i hc
     simp only [Qa,Qd,Qb.injEq] at hr
     obtain ⟨x',hx,y',hy,rfl⟩ := hr
     have ha : c.args = #[x,y] := by rw [← j0]
     have ht : c.argTypes = #[t,u] := by rw [← zN]
     have r1 := hρ x (by simp [Call.operands,ha]) _ _ hx
     have r2 := hρ y (by simp [Call.operands,ha]) _ _ hy
     simp only [nv] at hv
     split at hv
     ·rename_i z0 us k bA kX
      simp only [Qb.injEq,Prod.mk.injEq] at hv
      obtain ⟨rfl,rfl,rfl⟩ := hv
      rw [bA] at r1
      simp only [Rep] at r1
      obtain ⟨ad,v8⟩ := r1
      obtain ⟨news,hn,w3,uB,bC,hone,ay,capy,zI⟩ := Qi5 (P := P) u5 r2 kX
      obtain ⟨i,z,hi,vJ,xA,zK⟩ := Qeg hc.2.1
      obtain ⟨z1,z2,z3⟩ := Qfl _ _ xA S w O
      have vD : i.size = es := by simpa [szB,hi] using jP
      have u4 : z.cells.size = es := by rw [jP] at zK; exact (Qb.inj zK).symm
      have aY : 0 < es := Q1 hc.1
      have wZ : i.bytes ≤ 65536 := by have := hc.2.2; simpa [Qj4,hi] using this
      have wE : P.bytesOf e = i.bytes := by simp [Program.bytesOf,hi]
      rw [zI] at hn
      by_cases hk : k = 0
      ·subst hk
       have iT : us = [] := Qj (by simpa using bC)
       subst iT
       have uC : news = [] := Qj (by simpa using uB)
       subst uC
       obtain ⟨jD,jC⟩ := Qp4 hm hO jF rfl
       have jB : (Builtin.append_ #[t,u] o.type #[.slice ad 0 0,.slice ay 0 capy]).run P w = .ok (.slice ad 0 0) w := by
        have := hn w rfl
        rw [← vD] at this
        cases ad <;> simp [Builtin.append_,run_underlying (Qc4 he),run_underlying (Qc4 he'),sizeOf,typeInfo,hi,Builtin.lenOf,this,storeCells]
       refine Qb9 (w' := w) (c := .slice ad 0 0) hF (by simp [jE]) (by simp [execOp,jE,resolve,jS,ha,ht,invoke,builtin,v8,zI,jB]) (hK _ _ _ jD jC ?_ fun j hj => Qp2 hj)
       simp only [Rep]
       exact ⟨rfl,0,none,by simp [updO],Qf _,fun _ => .inr ⟨rfl,trivial,ad,rfl⟩⟩
      ·have ho : ∀ w1 : World,w1.heap = w.heap → (Builtin.firstCells i.size 0 (.slice ad 0 0)).run P w1 = .ok ([] : List Value).toArray w1 := by
        intro w1 _
        cases ad <;> simp [Builtin.firstCells,loadCells,loadCellsFrom]
       have jB := Qov (P := P) (Qc4 he) (Qc4 he') hi vJ (ty := o.type) (w := w) (sCap := 0) ho (by rw [vD]; exact hn) (by omega) (by rw [← wE,Q7]; exact Qo8 jA (by rw [wE]; exact wZ))
       simp only [Q7,Array.empty_append] at jB
       have dQ := grownCap_ge w k 0 e
       refine fin _ w.drew _ e _ rfl rfl rfl rfl rfl ?_ ?_ (by simp [jE]) (by simp only [execOp,jE,resolve,jS,ha,ht,Qz,Qs,Qp,Sem.run_bind,Sem.run_pure,Result.andThen_ok,invoke,builtin,v8,zI,jB]; rfl) (fun jQ => ?_)
       ·simp only [Array.toList_append]
        exact (RepL.more _ _ _ w3)
       ·intro x hx
        simp only [Array.toList_append,Ql] at hx
        rcases hx with hx | hx
        ·exact hone x (by simpa using hx)
        ·exact Qfm z2 (by omega) _ x hx
       ·simp only [Rep]
        refine ⟨rfl,0,some w.heap.size,by simp [updO],Qf _,fun _ => .inl ⟨w.heap.size,_,_,e,rfl,jQ,rfl,dQ,?_⟩⟩
        simp only [Array.size_append,Zl,size_zeroCells,uB,u4,← Zh]
        rw [Q7]
        exact Qi _ (by omega)
     ·rename_i es1 rows us k bA kX
      simp only [Qb.injEq,Prod.mk.injEq] at hv
      obtain ⟨rfl,rfl,rfl⟩ := hv
      obtain ⟨rfl,hk,jV⟩ := jA
      rw [bA] at r1
      have r0 : Rep S w O (.sl es1 rows) (a.eval x) := by
       simp only [Rep] at r1 ⊢
       obtain ⟨ad,v8,uK⟩ := r1
       exact ⟨ad,_,v8,Qf _,uK⟩
      simp only [Rep] at r1
      obtain ⟨ad,v8,-⟩ := r1
      obtain ⟨olds,ho,hro,kL,oC,yZ,ax,capx,oG⟩ := Qi5 (P := P) (es := es1) (k := rows.length) (vs := rows.flatten) u5 r0 (by simp [Qcb])
      obtain ⟨news,hn,w3,uB,bC,hone,ay,capy,zI⟩ := Qi5 (P := P) u5 r2 kX
      obtain ⟨i,z,hi,vJ,xA,zK⟩ := Qeg hc.2.1
      obtain ⟨z1,z2,z3⟩ := Qfl _ _ xA S w O
      have vD : i.size = es1 := by simpa [szB,hi] using jP
      have u4 : z.cells.size = es1 := by rw [jP] at zK; exact (Qb.inj zK).symm
      have aY : 0 < es1 := Q1 hc.1
      have wZ : i.bytes ≤ 65536 := by have := hc.2.2; simpa [Qj4,hi] using this
      have wE : P.bytesOf e = i.bytes := by simp [Program.bytesOf,hi]
      rw [zI] at hn
      rw [v8] at ho
      have jB := Qov (P := P) (Qc4 he) (Qc4 he') hi vJ (ty := o.type) (w := w) (sCap := rows.length) (by rw [vD]; exact ho) (by rw [vD]; exact hn) (by omega) (by rw [← wE]; exact Qo8 jV (by rw [wE]; exact wZ))
      have dQ := grownCap_ge w (rows.length + k) rows.length e
      refine fin _ w.drew _ e _ rfl rfl rfl rfl rfl ?_ ?_ (by simp [jE]) (by simp only [execOp,jE,resolve,jS,ha,ht,Qz,Qs,Qp,Sem.run_bind,Sem.run_pure,Result.andThen_ok,invoke,builtin,v8,zI,jB]; rfl) (fun jQ => ?_)
      ·simp only [Array.toList_append]
       exact (RepL.more _ _ _ (RepL.append _ _ _ _ hro (by omega) w3))
      ·intro x hx
       simp only [Array.toList_append,Ql] at hx
       rcases hx with (hx | hx) | hx
       ·exact yZ x (by simpa using hx)
       ·exact hone x (by simpa using hx)
       ·exact Qfm z2 (by omega) _ x hx
      ·simp only [Rep]
       refine ⟨rfl,0,some w.heap.size,by simp [updO],Qf _,fun _ => .inl ⟨w.heap.size,_,_,e,rfl,jQ,rfl,dQ,?_⟩⟩
       simp only [Array.size_append,Zl,size_zeroCells,kL,uB,u4,← Zh]
       rw [Q7]
       exact Qi _ (by omega)
     ·cases hv
    ·cases hr
   ·cases hr
  ·split at hr
   ·simp only [Qc,Qa,Qd,Qb.injEq] at hr
    obtain ⟨e,he,es,jP,x',hx,y',hy,rfl⟩ := hr
    simp [nv] at hv
   ·cases hr
  ·cases hr
 case makeMap t r =>
  cases r with
  | some r => simp at hr
  | none =>
   simp only [Qc,Qa,Qd,Qb.injEq] at hr
   obtain ⟨⟨kt,et⟩,kN,rfl⟩ := hr
   simp only [nv,Qb.injEq,Prod.mk.injEq] at hv
   obtain ⟨rfl,rfl,rfl⟩ := hv
   obtain ⟨jD,jC,jQ⟩ := Qra (o := .map #[] 0) hm hO jF rfl rfl rfl rfl (Qd6 w _ rfl) fun O' hx jQ =>
    ⟨rfl,w.heap.size,#[],rfl,jQ,⟨rfl,fun i e he => by simp at he⟩,by simp [RepL],rfl,List.nodup_nil,fun _ k hk => by cases hk⟩
   refine Qb9 hF (by simp [jE]) (by simp [execOp,jE,Instr.makeMap]) (hK (.map (some w.heap.size)) _ _ jD jC ?_ fun j hj => Qp2 hj)
   simp only [Rep]
   exact ⟨rfl,0,some w.heap.size,by simp [updO],Qf _,fun _ => ⟨_,rfl,rfl⟩⟩
 case range t y =>
  simp only [Qc,Qa,Qd,Qb.injEq] at hr
  obtain ⟨⟨kt,et⟩,kN,y',hy,rfl⟩ := hr
  have hu := Qig kN
  have r1 := hρ _ _ hy
  simp only [nv] at hv
  split at hv
  ·rename_i mid g oH
   rw [oH] at r1
   split at hv
   ·rename_i st ks vs vK
    simp only [Qb.injEq,Prod.mk.injEq] at hv
    obtain ⟨rfl,rfl,rfl⟩ := hv
    obtain ⟨b,es,hOm,hc,hb,jP,_⟩ := Qe6 u5 r1 vK jA
    have hlen := Qcj jP
    have hsz : b < w.heap.size := (Array.getElem?_eq_some_iff.1 hb).1
    obtain ⟨jD,jC,jQ⟩ := Qra (o := .mapIter (some b) ks.length #[] ks.length) hm hO jF rfl rfl rfl rfl (Qd6 w _ rfl) fun O' hx jQ => by
     refine ⟨rfl,w.heap.size,b,#[],rfl,jQ,?_,List.nodup_range,fun j => by simp,fun j hj => by cases hj⟩
     have := Rep.ext hx _ _ (show Rep S w O (.mp mid g) (.map (some b)) by rw [← hc]; exact r1)
     rwa [jA] at this
    have jB : (Instr.range t (.map (some b))).run P w = .ok (.pointer (some ⟨w.heap.size,0,none⟩)) (w.alloc (.mapIter (some b) ks.length #[] ks.length)) := by
     have hg := run_getObj_map (P := P) (hb := hb)
     simp [Instr.range,run_underlying hu,hg,hlen]
    refine Qb9 hF (by simp [jE]) (by simp only [execOp,jE,hc,jB,Sem.run_bind,Result.andThen_ok,Sem.run_pure]) (hK (.pointer (some ⟨w.heap.size,0,none⟩)) _ _ jD jC ?_ fun j hj => Qp2 hj)
    simp only [Rep]
    exact ⟨rfl,0,some w.heap.size,by simp [updO],Qf _,fun _ => ⟨_,rfl,rfl⟩⟩
   ·cases hv
  ·cases hv
 case mapUpdate t m k v =>
  simp only [Qc,Qa,Qd,Qb.injEq] at hr
  obtain ⟨_,_,_,_,_,_,_,_,rfl⟩ := hr
  simp [nv] at hv
 case insert t m k v =>
  simp only [Qc,Qa,Qd,Qb.injEq] at hr
  obtain ⟨_,_,_,_,_,_,_,_,rfl⟩ := hr
  simp [nv] at hv
 case mapEntry t m k =>
  simp only [Qc,Qa] at hr
  obtain ⟨⟨kt,et⟩,kN,hr⟩ := hr
  simp only at hr
  split at hr
  ·simp only [Qa,Qd,Qb.injEq] at hr
   obtain ⟨_,_,_,_,rfl⟩ := hr
   simp [nv] at hv
  ·cases hr
 case entryStore t m s' v =>
  simp only [Qc,Qa,Qd,Qb.injEq] at hr
  obtain ⟨_,_,_,_,_,_,_,_,rfl⟩ := hr
  simp [nv] at hv
def Qq8 {w w' : World} (hm : Mat S w O hp) {id g : Nat} {ob : Option Nat} (hO : O id = some (g,ob)) (hlt : id < hp.length) {us : List V} {ob' : Option Nat}
  (h2 : w'.os = w.os) (h3 : w'.tape = w.tape) (h4 : w'.output = w.output) (hsz : w.heap.size ≤ w'.heap.size) (hfz : ∀ a,w'.frozen? a = w.frozen? a) (jZ : ∀ k,k < w.heap.size → w'.heap[k]? = w.heap[k]?)
  (jQ : ∀ b,ob' = some b → w.heap.size ≤ b ∧ b < w'.heap.size)
  (hb : ∀ O',Ext S S w w' O O' → Qb6 S w' O' (g + 1) ob' (some (.cells (g + 1) us))) :
  Evol S S w w' O (updO O id (g + 1,ob')) ∧ Mat S w' (updO O id (g + 1,ob')) (hp.set id (.cells (g + 1) us)) := by
 have jG : ∀ j g2 ob2,updO O id (g + 1,ob') j = some (g2,ob2) → (j = id ∧ g2 = g + 1 ∧ ob2 = ob') ∨ (j ≠ id ∧ O j = some (g2,ob2)) := by
  intro j g2 ob2 h
  unfold updO at h
  split at h
  ·rename_i hj; left; simp at h; exact ⟨hj,h.1.symm,h.2.symm⟩
  ·rename_i hj; exact .inr ⟨hj,h⟩
 have hx : Ext S S w w' O (updO O id (g + 1,ob')) := by
  refine ⟨fun k hk => ⟨hk,jZ k (hm.lt k hk)⟩,fun j g2 ob2 hj => ?_⟩
  by_cases xE : j = id
  ·subst xE
   rw [hO] at hj
   cases hj
   exact ⟨g + 1,ob',by simp [updO],by omega,fun h => by omega⟩
  ·exact ⟨g2,ob2,by simp [updO,xE,hj],Qf _,fun _ => ⟨rfl,fun b' cur' e' hb' hh => ⟨cur',(jZ b' (by subst hb'; exact (hm.own j g2 b' hj).1)).trans hh,rfl⟩⟩⟩
 refine ⟨⟨hx,h2,h3,h4,hsz,fun a _ => hfz a,fun k hk _ => jZ k hk,?_,fun k hk => .inl hk⟩,⟨?_,?_,?_,?_⟩⟩
 ·rintro k ⟨j,g2,hj⟩
  rcases jG j g2 _ hj with ⟨_,_,h⟩ | ⟨_,h⟩
  ·exact .inr (jQ k h.symm).1
  ·exact .inl ⟨j,g2,h⟩
 ·intro k hk; have := hm.lt k hk; omega
 ·intro j g2 b' hj
  rcases jG j g2 _ hj with ⟨_,_,h⟩ | ⟨_,h⟩
  ·have := jQ b' h.symm; exact ⟨this.2,fun hS => by have := hm.lt _ hS; omega⟩
  ·have := hm.own j g2 b' h; exact ⟨by omega,this.2⟩
 ·intro j j' g2 g2' b' hj hj'
  rcases jG j g2 _ hj with ⟨h0,_,h⟩ | ⟨h0,h⟩ <;> rcases jG j' g2' _ hj' with ⟨h0',_,h'⟩ | ⟨h0',h'⟩
  ·omega
  ·have := jQ b' h.symm; have := (hm.own j' g2' _ h').1; omega
  ·have := jQ b' h'.symm; have := (hm.own j g2 _ h).1; omega
  ·exact hm.inj j j' _ _ b' h h'
 ·intro j g2 ob2 hj
  rcases jG j g2 _ hj with ⟨rfl,rfl,rfl⟩ | ⟨h0,h⟩
  ·rw [Qk hlt]
   exact hb _ hx
  ·rw [Qh (Ne.symm h0)]
   exact (hm.blk j g2 ob2 h).ext hx fun b' hb' => jZ b' (hm.own j g2 b' (by rw [h,hb'])).1
def RepL.putAt' {vs ns : List V} {cs ms : List Value} (h : RepL S w O vs cs) (hn : RepL S w O ns ms) (hl : ms.length = ns.length) (off : Nat) (dF : off + ns.length ≤ vs.length) :
  RepL S w O (Fam.putAt off ns vs) (cs.take off ++ ms ++ cs.drop (off + ms.length)) := by
 have hlen := RepL.length _ _ h
 unfold Fam.putAt
 refine RepL.append _ _ _ _ (RepL.append _ _ _ _ (RepL.take_both off _ _ (h.take off) (by simp; omega)) (by simp; omega) hn) (by simp; omega) ?_
 rw [hl]
 exact h.drop _
def Qag {α : Type} {l : List α} {i : Nat} {x : α} (h : l[i]? = some x) : i < l.length := (Zc.1 h).1
def Qhp (h : Mat S w O hp) (bs : List Blk) : Mat S w O (hp ++ bs) := by
 refine ⟨h.lt,h.own,h.inj,fun id g ob ho => ?_⟩
 have := h.blk id g ob ho
 have hlt : id < hp.length := by
  rcases Nat.lt_or_ge id hp.length with h' | h'
  ·exact h'
  ·rw [Qq h'] at this; exact this.elim
 rw [Qu hlt]
 exact this
def Qks (h : Mat S w O hp) : O hp.length = none := by
 cases hO : O hp.length with
 | none => rfl
 | some x =>
  have := h.blk _ x.1 x.2 hO
  simp [Qb6] at this
def Qso (h : Mat S w O hp) {id : Nat} (jF : hp[id]? = some .hole) (b : Blk) : O id = none ∧ Mat S w O (hp.set id b) := by
 have jX : O id = none := by
  cases hO : O id with
  | none => rfl
  | some x =>
   have := h.blk _ x.1 x.2 hO
   rw [jF] at this
   exact this.elim
 refine ⟨jX,h.lt,h.own,h.inj,fun j g ob ho => ?_⟩
 rw [Qh (by rintro rfl; rw [jX] at ho; cases ho)]
 exact h.blk j g ob ho
def Qxf (hF : Qbz F) {o : Oper} {q : W} (hr : resW P o = some q) (hm : Mat S w O hp)
  {a : Act} {ρ : Od → V} (hρ : Qdp P S w O ρ a.eval o) (jA : (sv (Qar P) hp q ρ).1)
  {K : Act → World → Prop} {Q' : Exit → Act → World → Prop}
  (hK : ∀ c w' O',Evol S S w w' O O' → Mat S w' O' (putB hp (sv (Qar P) hp q ρ).2.2) → Rep S w' O' (sv (Qar P) hp q ρ).2.1 c → (∀ j,O j = none → O' j = none) → K (a.put o.dst c) w') : o.wpIn F n P a w K Q' := by
 unfold resW at hr
 unfold Qdp at hρ
 have none_upd : ∀ {id g ob} {x : Nat × Option Nat},O id = some (g,ob) → ∀ j,O j = none → updO O id x j = none := by
  intro id g ob x h j hj
  unfold updO
  rw [if_neg (by rintro rfl; rw [h] at hj; cases hj)]
  exact hj
 have upd : ∀ (t : TypeId) (m k v : Operand) (kt et : TypeId) (kN : mapB P t = some (kt,et)) (m' k' v' : Od) (r1 : Rep S w O (ρ m') (a.eval m)) (r2 : Rep S w O (ρ k') (a.eval k)) (r3 : Rep S w O (ρ v') (a.eval v)),
   q = .mup kt (!Qia P kt) m' k' v' → (∀ d,o.op ≠ .defer d) → (∀ w',(Instr.mapUpdate t (a.eval m) (a.eval k) (a.eval v)).run P w = .ok () w' → (execOp a.eval o).run P w = .ok .skip w') → o.wpIn F n P a w K Q' := by
  intro t m k v kt et kN m' k' v' r1 r2 r3 hq hd bD
  subst hq
  simp only [sv] at jA hK
  split at jA
  ·rename_i id g s l yN gJ
   rw [yN] at r1
   obtain ⟨aT,xB⟩ := Qkq gJ r2
   split at jA
   ·rename_i st ks vs jF
    obtain ⟨b,es,hO,hc,hb,jP,yO,xN,hnd,xD⟩ := Qe6 hm r1 jF jA.1
    obtain ⟨hKI,rfl,rfl⟩ := Qkp jA.2 rfl xB xD
    obtain ⟨es',jB,y2,bE⟩ := Qoh (Qig kN) hKI hb jP (a.eval v)
    simp only [yN,gJ,jF] at hK
    obtain ⟨jD,jC⟩ := Qos hm hO (o' := .map es' es'.size) hb rfl rfl (Qag jF) (x := .map (!Qia P kt) (putK ks l) (Qfv ks vs l (ρ v'))) fun hx jQ => by
     refine ⟨rfl,b,es',rfl,jQ,y2,?_,?_,Qgv hnd,Qsz xB xD⟩
     ·rw [bE]
      unfold Qfv
      split
      ·exact RepL.set _ _ _ _ _ (RepL.ext hx _ _ yO) (Rep.ext hx _ _ r3)
      ·exact RepL.append _ _ _ _ (RepL.ext hx _ _ yO) (by simp [xN,Qcj jP]) (by simp only [RepL]; exact ⟨Rep.ext hx _ _ r3,trivial⟩)
     ·by_cases h1 : l ∈ ks <;> simp [putK,Qfv,h1,xN]
    exact Qjx hF hd (bD _ (by rw [hc,aT]; exact jB)) (hK undef _ O jD jC (by simp [Rep]) fun j hj => hj)
   ·exact jA.elim
  ·exact jA.elim
 cases jE : o.op <;> rw [jE] at hr hρ <;> simp only [Op.operands,Zq,Qr,Zr,or_false,forall_eq_or_imp,forall_eq] at hρ <;>
  first | (simp at hr; done) | (try dsimp only at hr)
 case alloc t =>
  split at hr
  ·simp only [Qb.injEq] at hr; subst hr; simp [sv] at jA
  ·cases hr
 case box t x =>
  simp only [Qg] at hr
  obtain ⟨x',hx,rfl⟩ := hr
  simp [sv] at jA
 case buildSlice t k ps =>
  simp only [Qc,Qa] at hr
  obtain ⟨e,he,es,jP,hr⟩ := hr
  split at hr
  ·simp only [Qa,Qd,Qb.injEq] at hr
   obtain ⟨ods,jJ,rfl⟩ := hr
   simp [sv] at jA
  ·cases hr
 case makeSlice t l c =>
  simp only [Qc,Qa] at hr
  obtain ⟨e,he,es,jP,hr⟩ := hr
  split at hr
  ·simp only [Qa,Qd,Qb.injEq] at hr
   obtain ⟨_,_,_,_,rfl⟩ := hr
   simp [sv] at jA
  ·cases hr
 case store t x v =>
  simp only [Qc,Qa,Qd,Qb.injEq] at hr
  obtain ⟨sz,hsz,x',hx,v',hv,rfl⟩ := hr
  have r1 := hρ.1 _ _ hx
  have r2 := hρ.2 _ _ hv
  simp only [sv] at jA
  split at jA
  ·rename_i id g off w4
   rw [w4] at r1
   split at jA
   ·rename_i g' vs jF
    obtain ⟨rfl,jV,hlen,iU,jR⟩ := jA
    simp only [Rep] at r1
    obtain ⟨_,gO,ob,hO,kA,zL⟩ := r1
    have hb := hm.blk id gO ob hO
    rw [jF] at hb
    simp only [Qb6] at hb
    have aO := hb.1
    subst aO
    obtain ⟨b,rfl,v8⟩ := zL rfl
    obtain ⟨cur,e,hh,kH,hone⟩ := hb.2
    obtain ⟨c1,c2,c3⟩ := Qhy r2 iU
    have hcl : cur.toList.length = cur.size := by simp
    have xN := RepL.length _ _ kH
    have jN := run_storeCells_at P b off e (a.eval v).cells.toList 0 cur w hh (by simp at xN ⊢; omega) (c3 jR)
    simp only [Q3] at jN
    have jB : (execOp a.eval o).run P w = .ok .skip (w.setRow b (cur.toList.take off ++ (a.eval v).cells.toList ++ cur.toList.drop (off + (a.eval v).cells.toList.length)).toArray) := by
     have bF : ¬ ((a.eval v).cells.size ≠ sz) := by omega
     simp only [execOp,jE,Sem.run_bind,Instr.storeAt,v8,Instr.sureAddr,Sem.run_pure,Result.andThen_ok,storeVar,Qb4 hsz,if_neg bF,jN]
    have hrep : RepL S w O (putAt off (ρ v').cells vs) (cur.toList.take off ++ (a.eval v).cells.toList ++ cur.toList.drop (off + (a.eval v).cells.toList.length)) :=
     kH.putAt' c1 (by simpa using c2) off (by omega)
    have vU : (cur.toList.take off ++ (a.eval v).cells.toList ++ cur.toList.drop (off + (a.eval v).cells.toList.length)).toArray.size = cur.size := by
     simp at xN ⊢; omega
    have y6 : updO O id (g',some b) = O := by
     funext j
     unfold updO
     split
     ·rename_i h; rw [h,hO]
     ·rfl
    have y5 : Ext S S w (w.setRow b (cur.toList.take off ++ (a.eval v).cells.toList ++ cur.toList.drop (off + (a.eval v).cells.toList.length)).toArray) O O := by
     refine ⟨fun k hk => ⟨hk,setRow_other w b k _ (by rintro rfl; exact (hm.own id _ k hO).2 hk)⟩,fun j g2 ob hj => ⟨g2,ob,hj,Qf _,fun _ => ⟨rfl,fun b' cur' e' hb' hh' => ?_⟩⟩⟩
     by_cases aW : b' = b
     ·subst aW
      rw [hh] at hh'
      cases hh'
      exact ⟨_,setRow_heap w b' cur _ e _ hh,vU⟩
     ·exact ⟨cur',(setRow_other w b b' _ aW).trans hh',rfl⟩
    have gX : ∀ c ∈ (cur.toList.take off ++ (a.eval v).cells.toList ++ cur.toList.drop (off + (a.eval v).cells.toList.length)).toArray.toList,c.oneCell' = true := by
     intro c hc
     simp only [Ql] at hc
     rcases hc with (hc | hc) | hc
     ·exact hone c (Qm hc)
     ·exact c3 jR c hc
     ·exact hone c (Qn hc)
    obtain ⟨jD,jC⟩ := Qre hm hO hh vU (us := putAt off (ρ v').cells vs) gX g' (Qf _) (by rw [y6]; exact RepL.ext y5 _ _ (by simpa using hrep)) (Qag jF)
    rw [y6] at jD jC
    refine Qjx hF (by simp [jE]) jB ?_
    have := hK undef _ O jD
    simp only [sv,w4,jF] at this
    exact this jC (by simp [Rep]) (fun j hj => hj)
   ·exact jA.elim
  ·exact jA.elim
 case call c =>
  split at hr
  ·rename_i jS
   split at hr
   ·rename_i x y t u j0 zN
    simp only [Qc,Qa] at hr
    obtain ⟨e,he,es,jP,e',he',hr⟩ := hr
    split at hr
    ·rename_i hc
     simp only [Qa,Qd,Qb.injEq] at hr
     obtain ⟨x',hx,y',hy,rfl⟩ := hr
     have ha : c.args = #[x,y] := by rw [← j0]
     have ht : c.argTypes = #[t,u] := by rw [← zN]
     have r1 := hρ x (by simp [Call.operands,ha]) _ _ hx
     have r2 := hρ y (by simp [Call.operands,ha]) _ _ hy
     simp only [sv] at jA hK
     split at jA
     ·rename_i id g off len es' us k w4 kX
      rw [w4] at r1
      split at jA
      ·rename_i g' cs jF
       obtain ⟨rfl,rfl,rfl,hcl,jV⟩ := jA
       simp only [w4,kX,jF] at hK
       simp only [Rep] at r1
       obtain ⟨_,gO,ob,hO,kA,zL⟩ := r1
       have hb := hm.blk id gO ob hO
       rw [jF] at hb
       simp only [Qb6] at hb
       have aO := hb.1
       subst aO
       obtain ⟨news,hn,w3,uB,bC,hone,ay,capy,zI⟩ := Qi5 (P := P) hm r2 kX
       obtain ⟨i,z,hi,vJ,xA,zK⟩ := Qeg hc.2.1
       obtain ⟨z1,z2,z3⟩ := Qfl _ _ xA S w O
       have vD : i.size = es' := by simpa [szB,hi] using jP
       have u4 : z.cells.size = es' := by rw [jP] at zK; exact (Qb.inj zK).symm
       have aY : 0 < es' := Q1 hc.1
       have wZ : i.bytes ≤ 65536 := by have := hc.2.2; simpa [Qj4,hi] using this
       have wE : P.bytesOf e = i.bytes := by simp [Program.bytesOf,hi]
       rw [zI] at hn
       have vX := Qag jF
       have grown : ∀ (a0 : Option Addr) (cap : Nat) (olds : List Value),(∀ w1 : World,w1.heap = w.heap → (Builtin.firstCells i.size len (.slice a0 len cap)).run P w1 = .ok olds.toArray w1) →
         a.eval x = .slice a0 len cap → cap < len + k → RepL S w O cs olds → olds.length = len * es' → (∀ c ∈ olds,c.oneCell' = true) → o.wpIn F n P a w K Q' := by
        intro a0 cap olds ho v8 zJ hro kL yZ
        have jB := Qov (P := P) (Qc4 he) (Qc4 he') hi vJ (ty := o.type) (w := w) ho (by rw [vD]; exact hn) zJ (by rw [← wE]; exact Qo8 jV (by rw [wE]; exact wZ))
        have dQ := grownCap_ge w (len + k) cap e
        obtain ⟨cells,gY⟩ : ∃ cells,cells = olds.toArray ++ news.toArray ++ Builtin.zeroCells z.cells (grownCap w (len + k) cap e - (len + k)) := ⟨_,rfl⟩
        rw [← gY] at jB
        have jQ := heap_alloc_new w.drew (.cells cells e)
        have w5 : (w.drew.alloc (.cells cells e)).heap[w.heap.size]? = some (.cells cells e (0,0)) := jQ
        have bG : cells.toList = olds ++ news ++ (Builtin.zeroCells z.cells (grownCap w (len + k) cap e - (len + k))).toList := by rw [gY]; simp
        obtain ⟨jD,jC⟩ := Qq8 (w' := w.drew.alloc (.cells cells e)) hm hO vX (us := cs ++ us) (ob' := some w.heap.size) rfl rfl rfl (by simp) (fun a => (Qg1 w.drew cells e a).trans (Qli rfl a))
         (fun j hj => heap_alloc_old w.drew _ hj) (fun b hb => by cases hb; exact ⟨Qf _,by simp⟩)
         (fun O' hx => by
          simp only [Qb6]
          refine ⟨trivial,cells,e,w5,?_,?_⟩
          ·rw [bG]
           exact RepL.more _ _ _ (RepL.append _ _ _ _ (RepL.ext hx _ _ hro) (by omega) (RepL.ext hx _ _ w3))
          ·rw [bG]
           intro c hc
           simp only [Ql] at hc
           rcases hc with (hc | hc) | hc
           ·exact yZ c hc
           ·exact hone c hc
           ·exact Qfm z2 (by omega) _ c hc)
        refine Qb9 hF (by simp [jE]) (by simp only [execOp,jE,resolve,jS,ha,ht,Qz,Qs,Qp,Sem.run_bind,Sem.run_pure,Result.andThen_ok,invoke,builtin,v8,zI,jB]; rfl) (hK _ _ _ jD jC ?_ (none_upd hO))
        simp only [Rep]
        refine ⟨rfl,g' + 1,some w.heap.size,by simp [updO],Qf _,fun _ => .inl ⟨w.heap.size,_,cells,e,rfl,w5,rfl,dQ,?_⟩⟩
        rw [← Array.length_toList,bG]
        simp only [List.length_append,kL,uB,Array.length_toList,size_zeroCells,u4,← Zh]
        rw [Q7]
        exact Qi _ (by omega)
       rcases zL rfl with ⟨b,cap,cur',e2,rfl,hh',v8,uJ,hsz⟩ | ⟨rfl,rfl,a0,v8⟩
       ·obtain ⟨cur,e3,hh,kH,yQ⟩ := hb.2
        have x6 : cur' = cur ∧ e2 = e3 := by rw [hh] at hh'; simp at hh'; exact ⟨hh'.1.symm,hh'.2.symm⟩
        obtain ⟨rfl,rfl⟩ := x6
        have xN := RepL.length _ _ kH
        simp only [Array.length_toList] at xN
        by_cases y4 : len + k ≤ cap
        ·have iV : (len + k) * es' ≤ cap * es' := Qi _ y4
         rw [Zh] at iV
         have jB := Qzi (P := P) (Qc4 he) (Qc4 he') hi (ty := o.type) (w := w) (sLen := len) (sCap := cap) hh (by rw [vD]; exact hn) hone y4 (by rw [vD]; omega)
         rw [vD] at jB
         obtain ⟨new,uC⟩ : ∃ new,new = (cur'.toList.take (len * es') ++ news ++ cur'.toList.drop (len * es' + news.length)).toArray := ⟨_,rfl⟩
         rw [← uC] at jB
         have qV : new.toList = cur'.toList.take (len * es') ++ news ++ cur'.toList.drop (len * es' + news.length) := by rw [uC]
         have vU : new.size = cur'.size := by rw [← Array.length_toList,qV]; simp; omega
         have y5 : Ext S S w (w.setRow b new) O (updO O id (g' + 1,some b)) := by
          refine ⟨fun j hj => ⟨hj,setRow_other w b j _ (by rintro rfl; exact (hm.own id _ j hO).2 hj)⟩,fun j g2 ob hj => ?_⟩
          by_cases xE : j = id
          ·subst xE
           rw [hO] at hj
           cases hj
           exact ⟨g' + 1,some b,by simp [updO],by omega,fun h => by omega⟩
          ·refine ⟨g2,ob,by simp [updO,xE,hj],Qf _,fun _ => ⟨rfl,fun b' cu' e' hb' hh' => ⟨cu',?_,rfl⟩⟩⟩
           rw [setRow_other w b b' _ (by rintro rfl; subst hb'; exact xE (hm.inj j id _ _ _ hj hO))]
           exact hh'
         obtain ⟨jD,jC⟩ := Qre hm hO hh vU (us := cs ++ us) (by
           rw [qV]
           intro c hc
           simp only [Ql] at hc
           rcases hc with (hc | hc) | hc
           ·exact yQ c (Qm hc)
           ·exact hone c hc
           ·exact yQ c (Qn hc)) (g' + 1) (by omega) (by
           rw [qV]
           exact RepL.more _ _ _ (RepL.append _ _ _ _ (RepL.ext y5 _ _ (RepL.take_both _ _ _ kH (by omega))) (by simp; omega) (RepL.ext y5 _ _ w3))) vX
         refine Qb9 hF (by simp [jE]) (by simp only [execOp,jE,resolve,jS,ha,ht,Qz,Qs,Qp,Sem.run_bind,Sem.run_pure,Result.andThen_ok,invoke,builtin,v8,zI,jB]; rfl) (hK _ _ _ jD jC ?_ (none_upd hO))
         simp only [Rep]
         exact ⟨rfl,g' + 1,some b,by simp [updO],Qf _,fun _ => .inl ⟨b,cap,new,e2,rfl,setRow_heap w b cur' _ e2 _ hh,rfl,y4,by omega⟩⟩
        ·refine grown _ cap (cur'.toList.take (len * es')) ?_ v8 (by omega) (RepL.take_both _ _ _ kH (by omega)) (by simp; omega) (fun c hc => yQ c (Qm hc))
         intro w1 kJ
         have hl := Qbv (P := P) (w := w1) (b := b) (off := 0) (by rw [kJ]; exact hh) (len * es') (by simp; omega)
         simpa [Builtin.firstCells,vD] using hl
       ·have hcs : cs = [] := hb.2
        subst hcs
        by_cases hk : k = 0
        ·subst hk
         have iT : us = [] := Qj (by simpa using bC)
         subst iT
         have uC : news = [] := Qj (by simpa using uB)
         subst uC
         have jB : (Builtin.append_ #[t,u] o.type #[.slice a0 0 0,.slice ay 0 capy]).run P w = .ok (.slice a0 0 0) w := by
          have := hn w rfl
          rw [← vD] at this
          cases a0 <;> simp [Builtin.append_,run_underlying (Qc4 he),run_underlying (Qc4 he'),sizeOf,typeInfo,hi,Builtin.lenOf,this,storeCells]
         obtain ⟨jD,jC⟩ := Qq8 (w' := w) hm hO vX (us := []) (ob' := none) rfl rfl rfl (Qf _) (fun _ => rfl) (fun _ _ => rfl) (fun b hb => by cases hb) (fun O' _ => by simp [Qb6])
         refine Qb9 (w' := w) (c := .slice a0 0 0) hF (by simp [jE]) (by simp [execOp,jE,resolve,jS,ha,ht,invoke,builtin,v8,zI,jB]) (hK _ _ _ jD jC ?_ (none_upd hO))
         simp only [Rep]
         exact ⟨rfl,g' + 1,none,by simp [updO],Qf _,fun _ => .inr ⟨rfl,trivial,a0,rfl⟩⟩
        ·refine grown a0 0 [] ?_ v8 (by omega) (by simp [RepL]) (by simp) (by simp)
         intro w1 _
         cases a0 <;> simp [Builtin.firstCells,loadCells,loadCellsFrom]
      ·exact jA.elim
     ·exact jA.elim
    ·cases hr
   ·cases hr
  ·rename_i jS
   split at hr
   ·rename_i x y t u j0 zN
    simp only [Qc,Qa,Qd,Qb.injEq] at hr
    obtain ⟨e,he,es,jP,x',hx,y',hy,rfl⟩ := hr
    have ha : c.args = #[x,y] := by rw [← j0]
    have ht : c.argTypes = #[t,u] := by rw [← zN]
    have r1 := hρ x (by simp [Call.operands,ha]) _ _ hx
    have r2 := hρ y (by simp [Call.operands,ha]) _ _ hy
    simp only [sv] at jA hK
    split at jA
    ·rename_i id g off len es' us k w4 kX
     rw [w4] at r1
     split at jA
     ·rename_i g' cs jF
      obtain ⟨rfl,rfl,mU⟩ := jA
      simp only [w4,kX,jF] at hK
      simp only [Rep] at r1
      obtain ⟨_,gO,ob,hO,kA,zL⟩ := r1
      have hb := hm.blk id gO ob hO
      rw [jF] at hb
      simp only [Qb6] at hb
      have aO := hb.1
      subst aO
      obtain ⟨news,hn,w3,uB,bC,hone,ay,capy,zI⟩ := Qpg (P := P) hm r2 kX
      have dS : Q8 k len ≤ k := Zs _ _
      have xR : Q8 k len * es' ≤ k * es' := Qi _ dS
      have oJ : Q8 k len * es' ≤ len * es' := Qi _ (Nat.min_le_right _ _)
      have wG := hn w rfl _ dS
      rw [zI] at wG
      have dT := jP
      simp only [szB,Qg] at dT
      obtain ⟨i,hi,vD⟩ := dT
      have kL : Builtin.lenOf (.slice ay k capy) = (pure k : Sem Nat) := rfl
      have y6 : updO O id (g',ob) = O := by
       funext j
       unfold updO
       split
       ·rename_i h; rw [h,hO]
       ·rfl
      rcases zL rfl with ⟨b,cap,cur',e2,rfl,hh',v8,uJ,hsz⟩ | ⟨rfl,rfl,a0,v8⟩
      ·obtain ⟨cur,e3,hh,kH,yQ⟩ := hb.2
       have x6 : cur' = cur ∧ e2 = e3 := by rw [hh] at hh'; simp at hh'; exact ⟨hh'.1.symm,hh'.2.symm⟩
       obtain ⟨rfl,rfl⟩ := x6
       have xN := RepL.length _ _ kH
       simp only [Array.length_toList] at xN
       have mV : len * es' ≤ cap * es' := Qi _ uJ
       obtain ⟨vs,yO⟩ : ∃ vs,vs = news.take (Q8 k len * es') := ⟨_,rfl⟩
       rw [← yO] at wG
       have iW : vs.length = Q8 k len * es' := by rw [yO,Qy,uB,Qv xR]
       have w6 : ∀ c ∈ vs,c.oneCell' = true := fun c hc => hone c (by rw [yO] at hc; exact Qm hc)
       have jN := run_storeCells_at P b off e2 vs 0 cur' w hh (by simp only [Q3]; omega) w6
       simp only [Q3] at jN
       obtain ⟨new,uC⟩ : ∃ new,new = (cur'.toList.take off ++ vs ++ cur'.toList.drop (off + vs.length)).toArray := ⟨_,rfl⟩
       rw [← uC] at jN
       have vU : new.size = cur'.size := by rw [uC]; simp; omega
       have jB : (Builtin.copy_ #[t,u] o.type #[.slice (some ⟨b,off,none⟩) len cap,.slice ay k capy]).run P w = .ok (goInt (Q8 k len)) (w.setRow b new) := by
        simp [Builtin.copy_,run_underlying (Qc4 he),sizeOf,typeInfo,hi,vD,kL,wG,jN]
       have hrep : RepL S w O (putAt off (us.take (Q8 k len * es')) cs) (cur'.toList.take off ++ vs ++ cur'.toList.drop (off + vs.length)) := by
        have h1 : RepL S w O (us.take (Q8 k len * es')) vs := by rw [yO]; exact RepL.take_both _ _ _ (w3.take _) (by rw [Qy]; exact Zs _ _)
        exact kH.putAt' h1 (by rw [Qy,bC,iW,Qv xR]) off (by rw [Qy,bC,Qv xR]; omega)
       have y5 : Ext S S w (w.setRow b new) O O := by
        refine ⟨fun k hk => ⟨hk,setRow_other w b k _ (by rintro rfl; exact (hm.own id _ k hO).2 hk)⟩,fun j g2 ob hj => ⟨g2,ob,hj,Qf _,fun _ => ⟨rfl,fun b' cur2 e' hb' iX => ?_⟩⟩⟩
        by_cases aW : b' = b
        ·subst aW
         rw [hh] at iX
         cases iX
         exact ⟨_,setRow_heap w b' cur' _ e2 _ hh,vU⟩
        ·exact ⟨cur2,(setRow_other w b b' _ aW).trans iX,rfl⟩
       have gX : ∀ c ∈ new.toList,c.oneCell' = true := by
        intro c hc
        rw [uC] at hc
        simp only [Ql] at hc
        rcases hc with (hc | hc) | hc
        ·exact yQ c (Qm hc)
        ·exact w6 c hc
        ·exact yQ c (Qn hc)
       obtain ⟨jD,jC⟩ := Qre hm hO hh vU (us := putAt off (us.take (Q8 k len * es')) cs) gX g' (Qf _) (by rw [y6]; exact RepL.ext y5 _ _ (by rw [uC]; simpa using hrep)) (Qag jF)
       rw [y6] at jD jC
       refine Qb9 hF (by simp [jE]) (by simp only [execOp,jE,resolve,jS,ha,ht,Qz,Qs,Qp,Sem.run_bind,Sem.run_pure,Result.andThen_ok,invoke,builtin,v8,zI,jB]; rfl) (hK _ _ O jD jC ?_ fun j hj => hj)
       simp only [Rep,goInt]
      ·have hcs : cs = [] := hb.2
       have h0 : Q8 k 0 = 0 := Zm k
       have qW := hn w rfl 0 (Nat.zero_le _)
       rw [zI,Nat.zero_mul,Zw] at qW
       have jB : (Builtin.copy_ #[t,u] o.type #[.slice a0 0 0,.slice ay k capy]).run P w = .ok (goInt 0) w := by
        cases a0 <;> simp [Builtin.copy_,run_underlying (Qc4 he),sizeOf,typeInfo,hi,vD,kL,qW,storeCells]
       have kC : hp.set id (.cells g' (putAt off (us.take (min k 0 * es')) cs)) = hp := by
        rw [hcs,Zm,Nat.zero_mul,Zw]
        unfold putAt
        simp only [List.take_nil,List.nil_append,List.drop_nil]
        obtain ⟨hl,z7⟩ := Zc.1 jF
        rw [hcs] at z7
        rw [← z7,List.set_getElem_self]
       have dV : Mat S w O (putB hp (some (id,.cells g' (putAt off (us.take (min k 0 * es')) cs)))) := by
        show Mat S w O (hp.set id _)
        rw [kC]; exact hm
       refine Qb9 hF (by simp [jE]) (by simp only [execOp,jE,resolve,jS,ha,ht,Qz,Qs,Qp,Sem.run_bind,Sem.run_pure,Result.andThen_ok,invoke,builtin,v8,zI,jB]; rfl) (hK _ _ O (Evol.refl _ _ _) dV ?_ fun j hj => hj)
       simp only [Rep,goInt,Zm]
       rfl
     ·exact jA.elim
    ·exact jA.elim
   ·cases hr
  ·cases hr
 case makeMap t r =>
  cases r with
  | some r => simp at hr
  | none =>
   simp only [Qc,Qa,Qd,Qb.injEq] at hr
   obtain ⟨⟨kt,et⟩,kN,rfl⟩ := hr
   simp [sv] at jA
 case range t y =>
  simp only [Qc,Qa,Qd,Qb.injEq] at hr
  obtain ⟨⟨kt,et⟩,kN,y',hy,rfl⟩ := hr
  simp [sv] at jA
 case mapUpdate t m k v =>
  simp only [Qc,Qa,Qd,Qb.injEq] at hr
  obtain ⟨⟨kt,et⟩,kN,m',yC,k',kY,v',dW,rfl⟩ := hr
  exact upd t m k v kt et kN m' k' v' (hρ.1 _ _ yC) (hρ.2.1 _ _ kY) (hρ.2.2 _ _ dW) rfl (by simp [jE]) (fun w' h => by simp only [execOp,jE,h,Sem.run_bind,Result.andThen_ok,Sem.run_pure])
 case insert t m k v =>
  simp only [Qc,Qa,Qd,Qb.injEq] at hr
  obtain ⟨⟨kt,et⟩,kN,m',yC,k',kY,v',dW,rfl⟩ := hr
  exact upd t m k v kt et kN m' k' v' (hρ.1 _ _ yC) (hρ.2.1 _ _ kY) (hρ.2.2 _ _ dW) rfl (by simp [jE]) (fun w' h => by simp only [execOp,jE,h,Sem.run_bind,Result.andThen_ok,Sem.run_pure])
 case mapEntry t m k =>
  simp only [Qc,Qa] at hr
  obtain ⟨⟨kt,et⟩,kN,hr⟩ := hr
  simp only at hr
  split at hr
  ·rename_i vJ
   simp only [Qt] at vJ
   simp only [Qa,Qd,Qb.injEq] at hr
   obtain ⟨m',yC,k',kY,rfl⟩ := hr
   have r1 := hρ.1 _ _ yC
   have r2 := hρ.2 _ _ kY
   obtain ⟨z,qU,gG⟩ := Zcj vJ.1 vJ.2
   simp only [sv] at jA hK
   split at jA
   ·rename_i id g s l yN gJ
    rw [yN] at r1
    obtain ⟨aT,xB⟩ := Qkq gJ r2
    split at jA
    ·rename_i st ks vs jF
     obtain ⟨b,es,hO,hc,hb,jP,yO,xN,hnd,xD⟩ := Qe6 hm r1 jF jA.1
     obtain ⟨hKI,rfl,rfl⟩ := Qkp jA.2 rfl xB xD
     obtain ⟨es',v,jB,y2,jG⟩ := Qpw (Qig kN) hKI hb jP qU
     simp only [yN,gJ,jF] at hK
     obtain ⟨jD,jC⟩ := Qos hm hO (o' := .map es' es'.size) hb rfl rfl (Qag jF) (x := .map (!Qia P kt) (putK ks l) (if l ∈ ks then vs else vs ++ [zE P et])) fun hx jQ => by
      refine ⟨rfl,b,es',rfl,jQ,y2,?_,?_,Qgv hnd,Qsz xB xD⟩
      ·rcases jG with ⟨h1,_,h2⟩ | ⟨h1,_,h2⟩
       ·rw [if_pos h1,h2]; exact RepL.ext hx _ _ yO
       ·rw [if_neg h1,h2]; exact RepL.append _ _ _ _ (RepL.ext hx _ _ yO) (by simp [xN,Qcj jP]) (by simp only [RepL]; exact ⟨gG _ _ _,trivial⟩)
      ·by_cases h1 : l ∈ ks <;> simp [putK,h1,xN]
     refine Qb9 (c := .tuple #[v,.int .i64 (ks.idxOf l)]) (w' := w.putObj b (.map es' es'.size)) hF (by simp [jE]) (by simp only [execOp,jE,hc,aT,jB,Sem.run_bind,Result.andThen_ok,Sem.run_pure]) (hK _ _ O jD jC ?_ fun j hj => hj)
     simp only [Rep,RepL]
     refine ⟨_,rfl,rfl,?_,rfl,trivial⟩
     rcases jG with ⟨h1,⟨e,he,rfl⟩,_⟩ | ⟨h1,rfl,_⟩
     ·obtain ⟨v',hv',hr'⟩ := Qp3 yO he (by rw [xN,Qcj jP])
      rw [hv']; exact Rep.ext jD.ext _ _ hr'
     ·rw [Qq (by rw [xN,Zi h1]; exact Qf _)]
      exact gG _ _ _
    ·exact jA.elim
   ·exact jA.elim
  ·cases hr
 case entryStore t m s' v =>
  simp only [Qc,Qa,Qd,Qb.injEq] at hr
  obtain ⟨⟨kt,et⟩,kN,m',yC,s1,dX,v',dW,rfl⟩ := hr
  have r1 := hρ.1 _ _ yC
  have r2 := hρ.2.1 _ _ dX
  have r3 := hρ.2.2 _ _ dW
  simp only [sv] at jA hK
  split at jA
  ·rename_i id g i yN cO
   rw [yN] at r1
   rw [cO] at r2
   split at jA
   ·rename_i st ks vs jF
    obtain ⟨hg0,h0,hi⟩ := jA
    obtain ⟨b,es,hO,hc,hb,jP,yO,xN,hnd,xD⟩ := Qe6 hm r1 jF hg0
    have hlen := Qcj jP
    have jB := Qms (P := P) (t := t) hb jP h0 (by omega) (a.eval v)
    simp only [yN,cO,jF] at hK
    have kU := Zi8 jP (i := i.toNat) (by omega) (a.eval v)
    obtain ⟨jD,jC⟩ := Qos hm hO (o' := .map (es.modify i.toNat fun e => { e with val := a.eval v }) es.size) hb rfl rfl (Qag jF) (x := .map st ks (vs.set i.toNat (ρ v'))) fun hx jQ => by
     refine ⟨rfl,b,_,rfl,by rw [jQ]; simp,kU.1,?_,by simp [xN],hnd,xD⟩
     rw [kU.2]
     exact RepL.set _ _ _ _ _ (RepL.ext hx _ _ yO) (Rep.ext hx _ _ r3)
    refine Qjx hF (by simp [jE]) (by simp only [execOp,jE,hc,Qdr r2,jB,Sem.run_bind,Result.andThen_ok,Sem.run_pure]) (hK undef _ O jD jC (by simp [Rep]) fun j hj => hj)
   ·exact jA.elim
  ·exact jA.elim
end
end Go.Fam
namespace Go.Fam
variable {S : Nat → Prop} {w : World} {O : OInfo} {hp : List Blk}
def Qf1 (k : Nat) : ∀ vs : List V,(shL k vs).length = vs.length
 | [] => rfl
 | _ :: vs => by simp [shL,Qf1 k vs]
mutual
theorem Qqc {S : Nat → Prop} {w : World} {O O2 : OInfo} {k : Nat} (h : ∀ id x,O id = some x → O2 (k + id) = some x) : ∀ (v : V) (c : Value),Rep S w O v c → Rep S w O2 (shV k v) c
 | .u,_,_ => by simp [shV,Rep]
 | .b x,c,hr => by simpa [shV,Rep] using hr
 | .i x,c,hr => by simpa [shV,Rep] using hr
 | .z es,c,hr => by simpa [shV,Rep] using hr
 | .sl es rows,c,hr => by simpa only [shV,Rep] using hr
 | .sx es rows,c,hr => by simpa only [shV,Rep] using hr
 | .pa cs,c,hr => by simpa only [shV,Rep] using hr
 | .pn,c,hr => by simpa [shV,Rep] using hr
 | .yl l,c,hr => by simpa [shV,Rep] using hr
 | .pm _ _ _,c,hr => by simpa only [shV,Rep] using hr
 | .fb _ _,c,hr => by simpa only [shV,Rep] using hr
 | .w k n,c,hr => by simpa [shV,Rep] using hr
 | .ag cs,c,hr => by
  simp only [shV,Rep] at hr ⊢
  obtain ⟨ccs,hc,hn,hr⟩ := hr
  exact ⟨ccs,hc,by rw [Qf1]; exact hn,Qju h cs _ hr⟩
 | .tp cs,c,hr => by
  simp only [shV,Rep] at hr ⊢
  obtain ⟨ccs,hc,hn,hr⟩ := hr
  exact ⟨ccs,hc,by rw [Qf1]; exact hn,Qju h cs _ hr⟩
 | .fn f cs,c,hr => by
  simp only [shV,Rep] at hr ⊢
  obtain ⟨ccs,hc,hn,hr⟩ := hr
  exact ⟨ccs,hc,by rw [Qf1]; exact hn,Qju h cs _ hr⟩
 | .gv q v,c,hr => by
  simp only [shV,Rep] at hr ⊢
  exact ⟨fun hq => Qqc h v c (hr.1 hq),hr.2⟩
 | .ad id g off,c,hr => by
  simp only [shV,Rep] at hr ⊢
  obtain ⟨h1,g',ob,hO,hr⟩ := hr
  exact ⟨h1,g',ob,h _ _ hO,hr⟩
 | .rf id g off len es,c,hr => by
  simp only [shV,Rep] at hr ⊢
  obtain ⟨h1,g',ob,hO,hr⟩ := hr
  exact ⟨h1,g',ob,h _ _ hO,hr⟩
 | .mp id g,c,hr => by
  simp only [shV,Rep] at hr ⊢
  obtain ⟨h1,g',ob,hO,hr⟩ := hr
  exact ⟨h1,g',ob,h _ _ hO,hr⟩
 | .it id g,c,hr => by
  simp only [shV,Rep] at hr ⊢
  obtain ⟨h1,g',ob,hO,hr⟩ := hr
  exact ⟨h1,g',ob,h _ _ hO,hr⟩
theorem Qju {S : Nat → Prop} {w : World} {O O2 : OInfo} {k : Nat} (h : ∀ id x,O id = some x → O2 (k + id) = some x) : ∀ (vs : List V) (cs : List Value),RepL S w O vs cs → RepL S w O2 (shL k vs) cs
 | [],_,_ => by simp [shL,RepL]
 | _ :: _,[],hr => by simp [RepL] at hr
 | v :: vs,c :: cs,hr => by
  simp only [shL,RepL] at hr ⊢
  exact ⟨Qqc h v c hr.1,Qju h vs cs hr.2⟩
end
def Zcb {O O2 : OInfo} {k g : Nat} {ob : Option Nat} (h : ∀ id x,O id = some x → O2 (k + id) = some x) {x : Option Blk} (hx : Qb6 S w O g ob x) : Qb6 S w O2 g ob (x.map (shB k)) := by
 unfold Qb6 at hx
 split at hx
 ·rename_i g' vs
  simp only [Qw,shB,Qb6]
  refine ⟨hx.1,?_⟩
  cases ob with
  | none => have := hx.2; simp only at this ⊢; rw [this]; rfl
  | some b =>
   obtain ⟨cur,e,hb,hr,h1⟩ := hx.2
   exact ⟨cur,e,hb,Qju h _ _ hr,h1⟩
 ·rename_i st ks vs
  simp only [Qw,shB,Qb6]
  obtain ⟨h0,b,es,vT,hb,h1,h3,h4,h5⟩ := hx
  exact ⟨h0,b,es,vT,hb,h1,Qju h _ _ h3,by rw [Qf1]; exact h4,h5⟩
 ·rename_i mid n left cur
  simp only [Qw,shB,Qb6]
  obtain ⟨h0,b,m,seen,vT,hb,h1,h2⟩ := hx
  exact ⟨h0,b,m,seen,vT,hb,Qqc h (.mp mid 0) _ h1,h2⟩
 ·exact hx.elim
 ·simpa only [Qw,shB,Qb6] using hx
 ·exact hx.elim
 ·exact hx.elim
def Qhb (h : Mat S w O hp) {id : Nat} {x : Nat × Option Nat} (ho : O id = some x) : id < hp.length := by
 rcases Nat.lt_or_ge id hp.length with h' | h'
 ·exact h'
 ·have := h.blk id x.1 x.2 ho
  rw [Qq h'] at this
  exact this.elim
mutual
def Qcr : V → Bool
 | .b _ | .i _ | .w _ _ | .z _ | .pn | .ad _ _ _ | .rf _ _ _ _ _ | .mp _ _ | .it _ _ => true
 | .ag cs | .tp cs => Qim cs
 | _ => false
def Qim : List V → Bool
 | [] => true
 | v :: vs => Qcr v && Qim vs
end
def Qft : Blk → Bool
 | .cells _ vs | .map _ _ vs => Qim vs
 | _ => true
mutual
theorem Qme {S S' : Nat → Prop} {w : World} {O : OInfo} : ∀ (v : V) (c : Value),Qcr v = true → Rep S w O v c → Rep S' w O v c
 | .b x,c,_,hr => by simpa [Rep] using hr
 | .i x,c,_,hr => by simpa [Rep] using hr
 | .z es,c,_,hr => by simpa [Rep] using hr
 | .pn,c,_,hr => by simpa [Rep] using hr
 | .w _ _,c,_,hr => by simpa [Rep] using hr
 | .ag cs,c,hn,hr => by
  simp only [Qcr] at hn
  simp only [Rep] at hr ⊢
  obtain ⟨ccs,hc,hl,hr⟩ := hr
  exact ⟨ccs,hc,hl,Qez cs _ hn hr⟩
 | .tp cs,c,hn,hr => by
  simp only [Qcr] at hn
  simp only [Rep] at hr ⊢
  obtain ⟨ccs,hc,hl,hr⟩ := hr
  exact ⟨ccs,hc,hl,Qez cs _ hn hr⟩
 | .ad id g off,c,_,hr => by simpa only [Rep] using hr
 | .rf id g off len es,c,_,hr => by simpa only [Rep] using hr
 | .mp id g,c,_,hr => by simpa only [Rep] using hr
 | .it id g,c,_,hr => by simpa only [Rep] using hr
 | .u,_,hn,_ => by simp [Qcr] at hn
 | .sl _ _,_,hn,_ => by simp [Qcr] at hn
 | .sx _ _,_,hn,_ => by simp [Qcr] at hn
 | .pa _,_,hn,_ => by simp [Qcr] at hn
 | .fn _ _,_,hn,_ => by simp [Qcr] at hn
 | .yl _,_,hn,_ => by simp [Qcr] at hn
 | .pm _ _ _,_,hn,_ => by simp [Qcr] at hn
 | .fb _ _,_,hn,_ => by simp [Qcr] at hn
 | .gv _ _,_,hn,_ => by simp [Qcr] at hn
theorem Qez {S S' : Nat → Prop} {w : World} {O : OInfo} : ∀ (vs : List V) (cs : List Value),Qim vs = true → RepL S w O vs cs → RepL S' w O vs cs
 | [],_,_,_ => by simp [RepL]
 | _ :: _,[],_,hr => by simp [RepL] at hr
 | v :: vs,c :: cs,hn,hr => by
  simp only [Qim,Qt] at hn
  simp only [RepL] at hr ⊢
  exact ⟨Qme v c hn.1 hr.1,Qez vs cs hn.2 hr.2⟩
end
def Qx7 {S S' : Nat → Prop} {g : Nat} {ob : Option Nat} {x : Option Blk} (hf : ∀ b,x = some b → Qft b = true) (h : Qb6 S w O g ob x) : Qb6 S' w O g ob x := by
 unfold Qb6 at h ⊢
 split at h
 ·have hf := hf _ rfl
  simp only [Qft] at hf
  refine ⟨h.1,?_⟩
  cases ob with
  | none => exact h.2
  | some b =>
   obtain ⟨cur,e,hb,hr,h1⟩ := h.2
   exact ⟨cur,e,hb,Qez _ _ hf hr,h1⟩
 ·have hf := hf _ rfl
  simp only [Qft] at hf
  obtain ⟨h0,b,es,vT,hb,h1,h3,h4⟩ := h
  exact ⟨h0,b,es,vT,hb,h1,Qez _ _ hf h3,h4⟩
 ·obtain ⟨h0,b,m,seen,vT,hb,h1,h2⟩ := h
  exact ⟨h0,b,m,seen,vT,hb,Qme (.mp _ 0) _ rfl h1,h2⟩
 ·exact h.elim
 ·exact h
 ·exact h.elim
 ·exact h.elim
structure Placed (O : OInfo) (hp : List Blk) (q : Nat) (bs hp' : List Blk) : Prop where
 free : ∀ i,i < bs.length → O (q + i) = none
 new : ∀ i,i < bs.length → hp'[q + i]? = (bs[i]?).map (shB q)
 old : ∀ id x,O id = some x → hp'[id]? = hp[id]?
def Qow (hp : List Blk) (q : Nat) : List Blk → List Blk
 | [] => hp
 | b :: l => Qow (hp.set q b) (q + 1) l
def Qir : ∀ (l : List Blk) (hp : List Blk) (q id : Nat),q + l.length ≤ hp.length → (Qow hp q l)[id]? = if q ≤ id ∧ id < q + l.length then l[id - q]? else hp[id]?
 | [],hp,q,id,_ => by rw [Qow,if_neg]; simp only [List.length_nil]; omega
 | b :: l,hp,q,id,h => by
  simp only [Q5] at h
  rw [Qow,Qir l _ _ _ (by simp; omega)]
  by_cases h1 : id = q
  ·subst h1
   rw [if_neg (by omega),if_pos (by simp),Qk (by omega),Nat.sub_self]
   rfl
  ·by_cases h2 : q + 1 ≤ id ∧ id < q + 1 + l.length
   ·rw [if_pos h2,if_pos (by simp only [Q5]; omega),show id - q = (id - (q + 1)) + 1 by omega]
    rfl
   ·rw [if_neg h2,if_neg (by simp only [Q5]; omega),Qh (Ne.symm h1)]
def Qfp (hp : List Blk) : Nat → Nat → Bool
 | _,0 => true
 | q,n + 1 => (match hp[q]? with | some .hole => true | _ => false) && Qfp hp (q + 1) n
def Qdh : ∀ {n q : Nat},Qfp hp q n = true → ∀ i,i < n → hp[q + i]? = some .hole
 | 0,_,_,i,hi => by omega
 | n + 1,q,h,i,hi => by
  simp only [Qfp,Qt] at h
  cases i with
  | zero =>
   have h := h.1
   split at h
   ·rename_i hh; exact hh
   ·cases h
  | succ i =>
   have := Qdh h.2 i (by omega)
   rwa [show q + 1 + i = q + (i + 1) by omega] at this
def Qi8 : ∀ {n q : Nat},(∀ i,i < n → hp[q + i]? = some .hole) → Qfp hp q n = true
 | 0,_,_ => rfl
 | n + 1,q,h => by
  have h0 := h 0 (by omega)
  rw [Q3] at h0
  have := Qi8 (n := n) (q := q + 1) fun i hi => by
   have := h (i + 1) (by omega)
   rwa [show q + (i + 1) = q + 1 + i by omega] at this
  simp only [Qfp,h0,this,Bool.and_self]
def plB (hp : List Blk) (q : Option Nat) (bs : List Blk) : List Blk := match q with
 | none => hp ++ bs.map (shB hp.length)
 | some q => Qow hp q (bs.map (shB q))
def plO (hp : List Blk) (q : Option Nat) (n : Nat) : Prop := match q with
 | none => True
 | some q => Qfp hp q n = true
def plQ (hp : List Blk) (q : Option Nat) : Nat := match q with | none => hp.length | some q => q
def Qsx (hm : Mat S w O hp) {q : Option Nat} {bs : List Blk} (h : plO hp q bs.length) : Placed O hp (plQ hp q) bs (plB hp q bs) := by
 cases q with
 | none =>
  refine ⟨fun i _ => ?_,fun i hi => ?_,fun id x hx => ?_⟩
  ·cases ho : O (hp.length + i) with
   | none => exact ho
   | some x => have := Qhb hm ho; omega
  ·simp only [plB,plQ]
   rw [Q9 (Nat.le_add_right _ _),Q0,Zn]
  ·simp only [plB]
   rw [Qu (Qhb hm hx)]
 | some q =>
  have hh := Qdh h
  have kA : q + bs.length ≤ hp.length ∨ bs.length = 0 := by
   rcases Zk bs.length with h0 | h0
   ·exact .inr h0
   ·have := Qag (hh (bs.length - 1) (by omega)); omega
  have w7 : ∀ i,i < bs.length → O (q + i) = none := fun i hi => (Qso hm (hh i hi) .hole).1
  refine ⟨w7,fun i hi => ?_,fun id x hx => ?_⟩
  ·simp only [plB,plQ]
   rw [Qir _ _ _ _ (by simp; omega),if_pos (by simp; omega),Q0,Zn]
  ·simp only [plB]
   rcases kA with kA | kA
   ·rw [Qir _ _ _ _ (by simp; omega),if_neg]
    rintro ⟨h1,h2⟩
    have := w7 (id - q) (by simp at h2; omega)
    rw [show q + (id - q) = id by omega,hx] at this
    cases this
   ·have : bs = [] := Qj kA
    subst this; rfl
section
variable {P : Program}
def Qx4 {f : Nat} {as0 : List V} {R : V → List Blk → Prop} (hm : Mat S w O hp) (hc : Qdt P f (as0.map (vw hp 8)) R) {cargs : Array Value}
  (hsz : cargs.size = as0.length) (hr : RepL S w O as0 cargs.toList) (xM : ∀ r bs,R r bs → Qcr r = true ∧ bs.all Qft = true) {q : Nat} {pl : List Blk → List Blk} (xL : ∀ r bs,R r bs → Placed O hp q bs (pl bs)) :
  Calls P f cargs w fun e w' => ∃ c S' O' r bs,e = .returned c ∧ R r bs ∧ Evol S S' w w' O O' ∧ Mat S' w' O' (pl bs) ∧ Rep S' w' O' (shV q r) c := by
 have hr' : RepL (fun k => S k ∨ Own O k) w noO (as0.map (vw hp 8)) cargs.toList := RepL.mapTo _ (fun v c h => Qmp hm 8 v c h) _ _ hr
 refine (hc (fun k => S k ∨ Own O k) w cargs ?_ (by simpa using hsz) hr').mono ?_
 ·rintro k (hk | ⟨id,g,hk⟩)
  ·exact hm.lt k hk
  ·exact (hm.own id g k hk).1
 rintro e w' ⟨c,S1,O1,r,bs,rfl,hR,jD,jC,hrep⟩
 obtain ⟨oP,oQ⟩ := xM r bs hR
 have hP := xL r bs hR
 have jZ : ∀ k,k < w.heap.size → w'.heap[k]? = w.heap[k]? := fun k hk => jD.old k hk (by rintro ⟨id,g,h⟩; cases h)
 obtain ⟨O2,hO2⟩ : ∃ O2 : OInfo,O2 = fun id => if q ≤ id ∧ id < q + bs.length then O1 (id - q) else O id := ⟨_,rfl⟩
 have kL : ∀ id x,O id = some x → O2 id = some x := fun id x h => by
  rw [hO2]; show (if _ then _ else _) = _
  rw [if_neg]; exact h
  rintro ⟨h1,h2⟩
  have := hP.free (id - q) (by omega)
  rw [show q + (id - q) = id by omega,h] at this
  cases this
 have yY : ∀ id x,O1 id = some x → O2 (q + id) = some x := fun id x h => by
  have := Qhb jC h
  rw [hO2]; show (if _ then _ else _) = _; rw [if_pos (by omega),Q0]; exact h
 have jG : ∀ id g ob,O2 id = some (g,ob) → O id = some (g,ob) ∨ ∃ j,j < bs.length ∧ id = q + j ∧ O1 j = some (g,ob) := by
  intro id g ob h
  rw [hO2] at h
  by_cases hl : q ≤ id ∧ id < q + bs.length
  ·simp only [hl,and_self,if_true] at h
   exact .inr ⟨id - q,by omega,by omega,h⟩
  ·replace h : (if q ≤ id ∧ id < q + bs.length then O1 (id - q) else O id) = _ := h
   rw [if_neg hl] at h
   exact .inl h
 have xS : ∀ j g b,O1 j = some (g,some b) → w.heap.size ≤ b := by
  intro j g b h
  rcases jD.fresh b ⟨j,g,h⟩ with ⟨_,_,h'⟩ | h'
  ·cases h'
  ·exact h'
 have hx : Ext S S w w' O O2 := ⟨fun k hk => ⟨hk,(jD.ext.keep k (.inl hk)).2⟩,fun id g ob ho => ⟨g,ob,kL id _ ho,Qf _,fun _ => ⟨rfl,fun b cur e hb hh =>
  ⟨cur,(jZ b (by subst hb; exact (hm.own id g b ho).1)).trans hh,rfl⟩⟩⟩⟩
 refine ⟨c,S,O2,r,bs,rfl,hR,⟨hx,jD.os,jD.tape,jD.output,jD.size,jD.fz,fun k hk _ => jZ k hk,?_,fun n hn => .inl hn⟩,⟨fun n hn => Za (hm.lt n hn) jD.size,?_,?_,?_⟩,Qqc yY _ _ (Qme _ _ oP hrep)⟩
 ·rintro n ⟨id,g,h⟩
  rcases jG id g _ h with h' | ⟨j,_,_,h'⟩
  ·exact .inl ⟨id,g,h'⟩
  ·exact .inr (xS j g n h')
 ·intro id g b h
  rcases jG id g _ h with h' | ⟨j,_,_,h'⟩
  ·have := hm.own id g b h'
   exact ⟨Za this.1 jD.size,this.2⟩
  ·refine ⟨(jC.own j g b h').1,fun hS => ?_⟩
   have := hm.lt b hS
   have := xS j g b h'
   omega
 ·intro id id' g g' b h h'
  rcases jG id g _ h with h1 | ⟨j,_,rfl,h1⟩ <;> rcases jG id' g' _ h' with h2 | ⟨j',_,rfl,h2⟩
  ·exact hm.inj id id' g g' b h1 h2
  ·have := (hm.own id g b h1).1; have := xS j' g' b h2; omega
  ·have := (hm.own id' g' b h2).1; have := xS j g b h1; omega
  ·rw [jC.inj j j' g g' b h1 h2]
 ·intro id g ob h
  rcases jG id g _ h with h1 | ⟨j,hj,rfl,h1⟩
  ·rw [hP.old id _ h1]
   exact (hm.blk id g ob h1).ext hx fun b hb => jZ b (hm.own id g b (by rw [h1,hb])).1
  ·rw [hP.new j hj]
   exact Zcb yY (Qx7 (fun b hb => Qo.1 oQ b (List.mem_of_getElem? hb)) (jC.blk j g ob h1))
def Qq7 {f : Nat} {as0 : List V} {R : V → List Blk → Prop} (hc : Qdt P f as0 R) (hm : Mat S w O hp) {cargs : Array Value}
  (hsz : cargs.size = as0.length) (hr : RepL S w noO as0 cargs.toList) {q : Nat} {pl : List Blk → List Blk} (xL : ∀ r bs,R r bs → Placed O hp q bs (pl bs)) :
  Calls P f cargs w fun e w' => ∃ c S' O' r bs,e = .returned c ∧ R r bs ∧ Evol S S' w w' O O' ∧ Mat S' w' O' (pl bs) ∧ Rep S' w' O' (shV q r) c := by
 refine (hc S w cargs hm.lt hsz hr).mono ?_
 rintro e w' ⟨c,S',O1,r,bs,rfl,hR,jD,jC,hrep⟩
 have hP := xL r bs hR
 have jZ : ∀ k,k < w.heap.size → w'.heap[k]? = w.heap[k]? := fun k hk => jD.old k hk (by rintro ⟨id,g,h⟩; cases h)
 obtain ⟨O2,hO2⟩ : ∃ O2 : OInfo,O2 = fun id => if q ≤ id ∧ id < q + bs.length then O1 (id - q) else O id := ⟨_,rfl⟩
 have kL : ∀ id x,O id = some x → O2 id = some x := fun id x h => by
  rw [hO2]; show (if _ then _ else _) = _
  rw [if_neg]; exact h
  rintro ⟨h1,h2⟩
  have := hP.free (id - q) (by omega)
  rw [show q + (id - q) = id by omega,h] at this
  cases this
 have yY : ∀ id x,O1 id = some x → O2 (q + id) = some x := fun id x h => by
  have := Qhb jC h
  rw [hO2]; show (if _ then _ else _) = _; rw [if_pos (by omega),Q0]; exact h
 have jG : ∀ id g ob,O2 id = some (g,ob) → O id = some (g,ob) ∨ ∃ j,j < bs.length ∧ id = q + j ∧ O1 j = some (g,ob) := by
  intro id g ob h
  rw [hO2] at h
  by_cases hl : q ≤ id ∧ id < q + bs.length
  ·simp only [hl,and_self,if_true] at h
   exact .inr ⟨id - q,by omega,by omega,h⟩
  ·replace h : (if q ≤ id ∧ id < q + bs.length then O1 (id - q) else O id) = _ := h
   rw [if_neg hl] at h
   exact .inl h
 have xS : ∀ j g b,O1 j = some (g,some b) → w.heap.size ≤ b := by
  intro j g b h
  rcases jD.fresh b ⟨j,g,h⟩ with ⟨_,_,h'⟩ | h'
  ·cases h'
  ·exact h'
 have hx : Ext S S' w w' O O2 := ⟨fun k hk => jD.ext.keep k hk,fun id g ob ho => ⟨g,ob,kL id _ ho,Qf _,fun _ => ⟨rfl,fun b cur e hb hh =>
  ⟨cur,(jZ b (by subst hb; exact (hm.own id g b ho).1)).trans hh,rfl⟩⟩⟩⟩
 have mW : ∀ n,S' n → S n ∨ w.heap.size ≤ n := by
  intro n hn
  rcases jD.grow n hn with h | ⟨_,_,h⟩ | h
  ·exact .inl h
  ·cases h
  ·exact .inr h
 refine ⟨c,S',O2,r,bs,rfl,hR,⟨hx,jD.os,jD.tape,jD.output,jD.size,jD.fz,fun k hk _ => jZ k hk,?_,?_⟩,⟨jC.lt,?_,?_,?_⟩,Qqc yY _ _ hrep⟩
 ·rintro n ⟨id,g,h⟩
  rcases jG id g _ h with h' | ⟨j,_,_,h'⟩
  ·exact .inl ⟨id,g,h'⟩
  ·exact .inr (xS j g n h')
 ·intro n hn
  exact (mW n hn).imp id .inr
 ·intro id g b h
  rcases jG id g _ h with h' | ⟨j,_,_,h'⟩
  ·have := hm.own id g b h'
   refine ⟨Za this.1 jD.size,fun hS => ?_⟩
   rcases mW b hS with h1 | h1
   ·exact this.2 h1
   ·omega
  ·exact jC.own j g b h'
 ·intro id id' g g' b h h'
  rcases jG id g _ h with h1 | ⟨j,_,rfl,h1⟩ <;> rcases jG id' g' _ h' with h2 | ⟨j',_,rfl,h2⟩
  ·exact hm.inj id id' g g' b h1 h2
  ·have := (hm.own id g b h1).1; have := xS j' g' b h2; omega
  ·have := (hm.own id' g' b h2).1; have := xS j g b h1; omega
  ·rw [jC.inj j j' g g' b h1 h2]
 ·intro id g ob h
  rcases jG id g _ h with h1 | ⟨j,hj,rfl,h1⟩
  ·rw [hP.old id _ h1]
   exact (hm.blk id g ob h1).ext hx fun b hb => jZ b (hm.own id g b (by rw [h1,hb])).1
  ·rw [hP.new j hj]
   exact Zcb yY (jC.blk j g ob h1)
def Qzf {f : Nat} {as0 : List V} {R : V → List Blk → Prop} (hc : Qdt P f as0 R) (hm : Mat S w O hp) {cargs : Array Value}
  (hsz : cargs.size = as0.length) (hr : RepL S w noO as0 cargs.toList) :
  Calls P f cargs w fun e w' => ∃ c S' O' r bs,e = .returned c ∧ R r bs ∧ Evol S S' w w' O O' ∧ Mat S' w' O' (hp ++ bs.map (shB hp.length)) ∧ Rep S' w' O' (shV hp.length r) c :=
 Qq7 hc hm hsz hr (q := hp.length) (pl := fun bs => hp ++ bs.map (shB hp.length)) fun _ bs _ => Qsx hm (q := none) (bs := bs) trivial
def Qsv {f : Nat} {as0 : List V} {r : V} {bs : List Blk} (hc : Qd3 P f as0 r bs) (hm : Mat S w O hp) {cargs : Array Value}
  (hsz : cargs.size = as0.length) (hr : RepL S w noO as0 cargs.toList) {q : Nat} {hp' : List Blk} (xL : Placed O hp q bs hp') :
  Calls P f cargs w fun e w' => ∃ c S' O',e = .returned c ∧ Evol S S' w w' O O' ∧ Mat S' w' O' hp' ∧ Rep S' w' O' (shV q r) c := by
 have hc' : Qdt P f as0 fun r' hp' => r' = r ∧ hp' = bs := by
  intro S w cargs hS hsz hr
  refine (hc S w cargs hS hsz hr).mono ?_
  rintro e w' ⟨c,S',O',he,h1,h2,h3⟩
  exact ⟨c,S',O',r,bs,he,⟨rfl,rfl⟩,h1,h2,h3⟩
 refine (Qq7 hc' hm hsz hr (q := q) (pl := fun _ => hp') (by rintro r' bs' ⟨rfl,rfl⟩; exact xL)).mono ?_
 rintro e w' ⟨c,S',O',r',bs',he,⟨rfl,rfl⟩,h1,h2,h3⟩
 exact ⟨c,S',O',he,h1,h2,h3⟩
def Qwx {f : Nat} {as0 : List V} {r : V} {bs : List Blk} (hm : Mat S w O hp) (hc : Qd3 P f (as0.map (vw hp 8)) r bs) {cargs : Array Value}
  (hsz : cargs.size = as0.length) (hr : RepL S w O as0 cargs.toList) (xM : Qcr r = true ∧ bs.all Qft = true) {q : Nat} {hp' : List Blk} (xL : Placed O hp q bs hp') :
  Calls P f cargs w fun e w' => ∃ c S' O',e = .returned c ∧ Evol S S' w w' O O' ∧ Mat S' w' O' hp' ∧ Rep S' w' O' (shV q r) c := by
 have hc' : Qdt P f (as0.map (vw hp 8)) fun r' hp' => r' = r ∧ hp' = bs := by
  intro S w cargs hS hsz hr
  refine (hc S w cargs hS hsz hr).mono ?_
  rintro e w' ⟨c,S',O',he,h1,h2,h3⟩
  exact ⟨c,S',O',r,bs,he,⟨rfl,rfl⟩,h1,h2,h3⟩
 refine (Qx4 hm hc' hsz hr (by rintro r' bs' ⟨rfl,rfl⟩; exact xM) (q := q) (pl := fun _ => hp') (by rintro r' bs' ⟨rfl,rfl⟩; exact xL)).mono ?_
 rintro e w' ⟨c,S',O',r',bs',he,⟨rfl,rfl⟩,h1,h2,h3⟩
 exact ⟨c,S',O',he,h1,h2,h3⟩
def Qmo : ∀ (as0 : List V) (cs : List Value),Qa8 as0 = false → RepL S w O as0 cs → RepL S w noO (as0.map (vw hp 8)) cs
 | [],_,_,_ => by simp [RepL]
 | _ :: _,[],_,h => by simp [RepL] at h
 | v :: vs,c :: cs,hn,h => by
  simp only [Qa8,Qx] at hn
  simp only [RepL] at h
  simp only [Qs,RepL]
  exact ⟨Qiw 8 v c hn.1 (Qew v c hn.1 h.1),Qmo vs cs hn.2 h.2⟩
mutual
def rids : V → List Nat
 | .ad id _ _ => [id]
 | .rf id _ _ _ _ => [id]
 | .mp id _ => [id]
 | .ag cs | .tp cs => Qe4 cs
 | .fn _ cs => Qe4 cs
 | .gv _ v => rids v
 | _ => []
def Qe4 : List V → List Nat
 | [] => []
 | v :: vs => rids v ++ Qe4 vs
end
def Qjp : ∀ (vs : List V) (n : Nat),Qa8 vs = false → Qa8 (vs.drop n) = false
 | [],n,_ => by simp [Qa8]
 | v :: vs,0,h => by simpa using h
 | v :: vs,n + 1,h => by
  simp only [Qa8,Qx] at h
  simpa using Qjp vs n h.2
def Qid (hp : List Blk) (id : Nat) : Bool := match hp[id]? with | some (.cells _ vs) => !Qa8 vs | some (.map _ _ vs) => !Qa8 vs | _ => false
def Qjm : Blk → Blk | .cells g _ => .dead (g + 1) | .map _ _ _ => .dead 1 | b => b
def Qh2 (hp : List Blk) (id : Nat) : List Blk := match hp[id]? with | some b => hp.set id (Qjm b) | none => hp
def Qu0 (b : Blk) : Qjm (Qjm b) = Qjm b := by cases b <;> rfl
def Qpr (hp : List Blk) (id : Nat) : (Qh2 hp id).length = hp.length := by
 unfold Qh2; split <;> simp
def Qw7 (hp : List Blk) (id j : Nat) : (Qh2 hp id)[j]? = if j = id then hp[j]?.map Qjm else hp[j]? := by
 unfold Qh2
 split
 ·rename_i b hb
  by_cases h : j = id
  ·subst h
   rw [if_pos rfl,Qk (Qag hb),hb]; rfl
  ·rw [if_neg h,Qh (Ne.symm h)]
 ·rename_i hb
  by_cases h : j = id
  ·subst h
   rw [if_pos rfl,hb]; rfl
  ·rw [if_neg h]
def Qk3 : ∀ (L : List Nat) (hp : List Blk),(L.foldl Qh2 hp).length = hp.length
 | [],_ => rfl
 | id :: L,hp => by rw [Zt,Qk3 L,Qpr]
def Qg8 : ∀ (L : List Nat) (hp : List Blk) (j : Nat),(L.foldl Qh2 hp)[j]? = if j ∈ L then hp[j]?.map Qjm else hp[j]?
 | [],hp,j => by simp
 | id :: L,hp,j => by
  rw [Zt,Qg8 L,Qw7]
  by_cases h : j = id
  ·subst h
   by_cases h' : j ∈ L
   ·simp [h',Function.comp_def,Qu0]
   ·simp [h']
  ·by_cases h' : j ∈ L <;> simp [h,h']
def Frz (S : Nat → Prop) (O : OInfo) (L : List Nat) (k : Nat) : Prop := S k ∨ ∃ id,id ∈ L ∧ ∃ g,O id = some (g,some k)
def frzO (O : OInfo) (L : List Nat) : OInfo := fun id => if id ∈ L then (O id).map fun x => (x.1 + 1,none) else O id
def Qqx (L : List Nat) : Ext S (Frz S O L) w w O (frzO O L) := by
 refine ⟨fun n h => ⟨.inl h,rfl⟩,fun id g ob h => ?_⟩
 unfold frzO
 by_cases hL : id ∈ L
 ·exact ⟨g + 1,none,by simp [hL,h],by omega,fun e => by omega⟩
 ·exact ⟨g,ob,by simp [hL,h],Qf _,fun _ => ⟨rfl,fun b cur e _ hh => ⟨cur,hh,rfl⟩⟩⟩
def Qi6 {L : List Nat} {id g b : Nat} (h : frzO O L id = some (g,some b)) : id ∉ L ∧ O id = some (g,some b) := by
 unfold frzO at h
 by_cases hL : id ∈ L
 ·rw [if_pos hL] at h
  cases ho : O id <;> rw [ho] at h <;> simp at h
 ·rw [if_neg hL] at h
  exact ⟨hL,h⟩
def Qse (L : List Nat) : Evol S (Frz S O L) w w O (frzO O L) := by
 refine ⟨Qqx L,rfl,rfl,rfl,Qf _,fun _ _ => rfl,fun _ _ _ => rfl,?_,?_⟩
 ·rintro n ⟨id,g,h⟩
  exact .inl ⟨id,g,(Qi6 h).2⟩
 ·rintro n (h | ⟨id,_,g,h⟩)
  ·exact .inl h
  ·exact .inr (.inl ⟨id,g,h⟩)
def Qqy (hm : Mat S w O hp) {L : List Nat} (hL : L.all (Qid hp) = true) : Mat (Frz S O L) w (frzO O L) (L.foldl Qh2 hp) := by
 refine ⟨?_,?_,?_,?_⟩
 ·rintro n (h | ⟨id,_,g,h⟩)
  ·exact hm.lt n h
  ·exact (hm.own id g n h).1
 ·intro id g b h
  obtain ⟨h1,h2⟩ := Qi6 h
  refine ⟨(hm.own id g b h2).1,?_⟩
  rintro (h' | ⟨id',hi,g',h'⟩)
  ·exact (hm.own id g b h2).2 h'
  ·have := hm.inj id id' g g' b h2 h'
   exact h1 (this ▸ hi)
 ·intro id id' g g' b h h'
  exact hm.inj id id' g g' b (Qi6 h).2 (Qi6 h').2
 ·intro id g ob h
  rw [Qg8]
  by_cases hi : id ∈ L
  ·rw [if_pos hi]
   unfold frzO at h
   rw [if_pos hi] at h
   obtain ⟨x,ho,hx⟩ := Qg.1 h
   obtain ⟨g0,ob0⟩ := x
   cases hx
   have hb := hm.blk id g0 ob0 ho
   have hl := Qo.1 hL id hi
   unfold Qid at hl
   split at hl
   ·rename_i g' vs jF
    rw [jF] at hb ⊢
    simp only [Qb6] at hb
    simp only [Qw,Qjm,Qb6]
    rw [hb.1]
   ·rename_i st ks vs jF
    rw [jF] at hb ⊢
    simp only [Qb6] at hb
    simp only [Qw,Qjm,Qb6]
    rw [hb.1]
   ·cases hl
  ·rw [if_neg hi]
   unfold frzO at h
   rw [if_neg hi] at h
   exact (hm.blk id g ob h).ext (Qqx L) fun _ _ => rfl
def Zah (hm : Mat S w O hp) {L : List Nat} (hL : L.all (Qid hp) = true) : ∀ (n : Nat) (v : V) (c : Value),(∀ id ∈ rids v,id ∈ L) → Rep S w O v c → Rep (Frz S O L) w noO (vw hp n v) c := by
 have hx : Ext S (Frz S O L) w w noO noO := ⟨fun k hk => ⟨.inl hk,rfl⟩,fun _ _ _ h => by cases h⟩
 intro n
 induction n with
 | zero => intro v c _ _; simp [vw,Rep]
 | succ n ih =>
  have ihL : ∀ (vs : List V) (cs : List Value),(∀ id ∈ Qe4 vs,id ∈ L) → RepL S w O vs cs → RepL (Frz S O L) w noO (vs.map (vw hp n)) cs := by
   intro vs
   induction vs with
   | nil => intro cs _ _; simp [RepL]
   | cons v vs ihv =>
    intro cs hi h
    cases cs with
    | nil => simp [RepL] at h
    | cons c cs =>
     simp only [RepL] at h
     simp only [Qe4,Ql] at hi
     simp only [Qs,RepL]
     exact ⟨ih v c (fun id h' => hi id (.inl h')) h.1,ihv cs (fun id h' => hi id (.inr h')) h.2⟩
  have inner : ∀ (vs : List V) (cs : List Value),Qa8 vs = false → RepL S w O vs cs → RepL (Frz S O L) w noO (vs.map (vw hp n)) cs := by
   intro vs
   induction vs with
   | nil => intro cs _ _; simp [RepL]
   | cons v vs ihv =>
    intro cs hn h
    cases cs with
    | nil => simp [RepL] at h
    | cons c cs =>
     simp only [RepL] at h
     simp only [Qa8,Qx] at hn
     simp only [Qs,RepL]
     exact ⟨Rep.ext hx _ _ (Qiw n v c hn.1 (Qew v c hn.1 h.1)),ihv cs hn.2 h.2⟩
  intro v c hi h
  cases v with
  | u => simp [vw,Rep]
  | b x => simpa [vw,Rep] using h
  | i x => simpa [vw,Rep] using h
  | pn => simpa [vw,Rep] using h
  | yl x => simpa [vw,Rep] using h
  | w k x => simpa [vw,Rep] using h
  | z es =>
   simp only [vw,Rep] at h ⊢
   obtain ⟨a,rfl⟩ := h
   exact ⟨a,0,rfl,by simp,.inl trivial⟩
  | sl es rows =>
   have h' : Rep S w noO (.sl es rows) c := by simpa only [Rep] using h
   simpa [vw] using Rep.ext hx _ _ h'
  | sx es rows =>
   have h' : Rep S w noO (.sx es rows) c := by simpa only [Rep] using h
   simpa [vw] using Rep.ext hx _ _ h'
  | pa cs =>
   have h' : Rep S w noO (.pa cs) c := by simpa only [Rep] using h
   simpa [vw] using Rep.ext hx _ _ h'
  | ag cs =>
   simp only [vw,Rep] at h ⊢
   obtain ⟨ccs,hc,hn,hr⟩ := h
   exact ⟨ccs,hc,by simpa using hn,ihL _ _ (by simpa only [rids] using hi) hr⟩
  | tp cs =>
   simp only [vw,Rep] at h ⊢
   obtain ⟨ccs,hc,hn,hr⟩ := h
   exact ⟨ccs,hc,by simpa using hn,ihL _ _ (by simpa only [rids] using hi) hr⟩
  | fn f cs =>
   simp only [vw,Rep] at h ⊢
   obtain ⟨ccs,hc,hn,hr⟩ := h
   exact ⟨ccs,hc,by simpa using hn,ihL _ _ (by simpa only [rids] using hi) hr⟩
  | fb f bs =>
   have h' : Rep S w noO (.fb f bs) c := by simpa only [Rep] using h
   simpa [vw] using Rep.ext hx _ _ h'
  | pm st ks vs =>
   have h' : Rep S w noO (.pm st ks vs) c := by simpa only [Rep] using h
   simpa [vw] using Rep.ext hx _ _ h'
  | mp id g =>
   have hiL : id ∈ L := hi id (by simp [rids])
   have hl := Qo.1 hL id hiL
   unfold Qid at hl
   simp only [vw]
   split
   ·rename_i st ks vs jF
    rw [jF] at hl
    split
    ·rename_i hg
     subst hg
     simp only [Rep] at h ⊢
     obtain ⟨_,gO,ob,hO,kA,hr⟩ := h
     have hb := hm.blk id gO ob hO
     rw [jF] at hb
     simp only [Qb6] at hb
     obtain ⟨h0,b,es,rfl,hh,h1,h2,h3,h4⟩ := hb
     obtain ⟨b',hb',rfl⟩ := hr h0.symm
     cases hb'
     have hl' : Qa8 vs = false := by simpa using hl
     exact ⟨b,es,rfl,.inr ⟨id,hiL,gO,hO⟩,hh,h1,inner _ _ hl' h2,by simpa using h3,h4⟩
    ·simp [Rep]
   ·simp [Rep]
  | it id g => simp [vw,Rep]
  | gv q v =>
   simp only [vw,Rep] at h ⊢
   exact ⟨fun hq => ih v c (by simpa only [rids] using hi) (h.1 hq),h.2⟩
  | ad id g off =>
   have hiL : id ∈ L := hi id (by simp [rids])
   have hl := Qo.1 hL id hiL
   unfold Qid at hl
   simp only [vw]
   split
   ·rename_i g' vs jF
    rw [jF] at hl
    split
    ·rename_i hg
     subst hg
     simp only [Rep] at h ⊢
     obtain ⟨_,gO,ob,hO,kA,hr⟩ := h
     have hb := hm.blk id gO ob hO
     rw [jF] at hb
     simp only [Qb6] at hb
     obtain ⟨b,rfl,rfl⟩ := hr hb.1
     obtain ⟨cur,e,hh,kH,h1⟩ := hb.2
     refine ⟨b,off,cur,e,(0,0),rfl,.inr ⟨id,hiL,gO,hO⟩,hh,?_⟩
     refine inner _ _ ?_ (kH.drop off)
     have hl' : Qa8 vs = false := by simpa using hl
     exact Qjp vs off hl'
    ·simp [Rep]
   ·simp [Rep]
  | rf id g off len es =>
   have hiL : id ∈ L := hi id (by simp [rids])
   have hl := Qo.1 hL id hiL
   unfold Qid at hl
   simp only [vw]
   split
   ·rename_i g' vs jF
    rw [jF] at hl
    have hl' : Qa8 vs = false := by simpa using hl
    split
    ·rename_i hg
     obtain ⟨hg,jV⟩ := hg
     subst hg
     simp only [Rep] at h ⊢
     obtain ⟨_,gO,ob,hO,kA,hr⟩ := h
     have hb := hm.blk id gO ob hO
     rw [jF] at hb
     simp only [Qb6] at hb
     rcases hr hb.1 with ⟨b,cap,cur',e',rfl,hh',rfl,uJ,hsz⟩ | ⟨rfl,rfl,a,rfl⟩
     ·obtain ⟨cur,e,hh,kH,h1⟩ := hb.2
      refine ⟨_,cap,by simp [Qcy],by simpa [Qcy] using uJ,.inr ⟨b,off,cur,e,(0,0),rfl,.inr ⟨id,hiL,gO,hO⟩,hh,?_⟩⟩
      rw [Qp8]
      refine Qgk len off _ ?_ (fun c hc => h1 c (Qn hc)) (by simpa using jV)
      rw [← List.map_drop]
      exact inner _ _ (Qjp vs off hl') (kH.drop off)
     ·exact ⟨a,0,by simp [Qbi],by simp [Qbi],.inl (by simp [Qbi])⟩
    ·simp [Rep]
   ·simp [Rep]
def ocV (Γ : Gam) (hp : List Blk) (q : Option Nat) (f : V) (args : List V) : Prop × V × List Blk :=
 match f with
 | .fn g caps => match Γ (1000000 + g) ((args ++ caps).map (vw hp 8)) with
  | (ok,.tp [r,.tp bs]) => match Qa8 (args ++ caps) && !(Qcr r && (bs.map vB).all Qft) with
   | false => (g < 1000000 ∧ ok ∧ plO hp q bs.length,shV (plQ hp q) r,plB hp q (bs.map vB))
   | true => (g < 1000000 ∧ ok ∧ (Qe4 (args ++ caps)).all (Qid hp) = true ∧ plO hp q bs.length,shV (plQ hp q) r,plB ((Qe4 (args ++ caps)).foldl Qh2 hp) q (bs.map vB))
  | _ => (False,.u,hp)
 | _ => (False,.u,hp)
def Qps {L : List Nat} {q : Option Nat} {n : Nat} (h : plO hp q n) : plO (L.foldl Qh2 hp) q n := by
 cases q with
 | none => trivial
 | some q =>
  have hh := Qdh h
  refine Qi8 fun i hi => ?_
  rw [Qg8,hh i hi]
  by_cases hL : q + i ∈ L
  ·rw [if_pos hL]; rfl
  ·rw [if_neg hL]
def Qw8 {L : List Nat} {q : Option Nat} : plQ (L.foldl Qh2 hp) q = plQ hp q := by
 cases q <;> simp [plQ,Qk3]
def Qh4 (P : Program) (o : Oper) : Option (Od × List Od) :=
 match o.op with
 | .call c => match c.callee with
  | .value f => do return (← rOd P 0 f,← rOds P c.args.toList c.argTypes.toList)
  | _ => none
 | _ => none
def Qz0 {F : Fence} {n : Nat} {Γ : Gam} (hG : GOk P Γ) (hF : Qbz F) {o : Oper} {f : Od} {xs : List Od} (hr : Qh4 P o = some (f,xs)) {S : Nat → Prop} {w : World} {O : OInfo} {hp : List Blk} (hm : Mat S w O hp)
  {a : Act} {ρ : Od → V} (hρ : Qdp P S w O ρ a.eval o) {q : Option Nat} (jA : (ocV Γ hp q (ρ f) (xs.map ρ)).1) {K : Act → World → Prop} {Q' : Exit → Act → World → Prop}
  (hK : ∀ c S' w' O',Evol S S' w w' O O' → Mat S' w' O' (ocV Γ hp q (ρ f) (xs.map ρ)).2.2 → Rep S' w' O' (ocV Γ hp q (ρ f) (xs.map ρ)).2.1 c → K (a.put o.dst c) w') : o.wpIn F n P a w K Q' := by
 unfold Qh4 at hr
 unfold Qdp at hρ
 cases jE : o.op <;> rw [jE] at hr hρ <;> simp only [Op.operands] at hρ <;> first | (simp at hr; done) | (try dsimp only at hr)
 case call c =>
  split at hr
  ·rename_i f0 jS
   simp only [Qc,Qa,Qd,Qb.injEq,Prod.mk.injEq] at hr
   obtain ⟨f',hf,ods,jJ,rfl,rfl⟩ := hr
   have r1 := hρ f0 (by simp [Call.operands,jS]) _ _ hf
   have rs := Qct _ _ _ jJ (fun x hx => hρ x (by simp only [Call.operands,Array.mem_append]; exact .inr (by simpa using hx)))
   unfold ocV at jA hK
   split at jA
   ·rename_i g caps hg
    rw [hg] at r1 hK
    simp only at hK
    split at jA
    ·rename_i ok r bs hΓ
     simp only [hΓ] at hK
     simp only [Rep] at r1
     obtain ⟨ccs,hc,hn,kH⟩ := r1
     have jR := RepL.append _ _ _ _ rs.1 (by simp [rs.2]) kH
     have hen : Qel P g ∧ ∃ S' O',Evol S S' w w O O' ∧ Calls P g (c.args.map a.eval ++ ccs) w fun e w' => ∃ c S'' O'',e = .returned c ∧ Evol S' S'' w w' O' O'' ∧ (∀ K : V × List Blk → Prop,
       K (match Qa8 (ods.map ρ ++ caps) && !(Qcr r && (bs.map vB).all Qft) with
        | false => (shV (plQ hp q) r,plB hp q (bs.map vB))
        | true => (shV (plQ hp q) r,plB ((Qe4 (ods.map ρ ++ caps)).foldl Qh2 hp) q (bs.map vB))) → ∃ x,K x ∧ Mat S'' w' O'' x.2 ∧ Rep S'' w' O'' x.1 c) := by
      split at jA
      ·rename_i hb
       obtain ⟨vP,jA,fZ⟩ := jA
       obtain ⟨hen,vE⟩ := hG.own g _ r bs (by rw [hΓ]; exact jA) vP (by rw [hΓ])
       refine ⟨hen,S,O,Evol.refl S w O,?_⟩
       by_cases wH : Qa8 (ods.map ρ ++ caps) = true
       ·rw [wH,Zj,Bool.not_eq_false',Qt] at hb
        refine (Qwx hm vE (cargs := c.args.map a.eval ++ ccs) (by simp [rs.2,hn]) (by simpa using jR) hb (Qsx hm (by simpa using fZ))).mono ?_
        rintro e w' ⟨cc,S',O',rfl,h1,h2,h3⟩
        exact ⟨cc,S',O',rfl,h1,fun K hK => ⟨_,hK,h2,h3⟩⟩
       ·refine (Qsv vE hm (cargs := c.args.map a.eval ++ ccs) (by simp [rs.2,hn]) (Qmo _ _ (by simpa using wH) (by simpa using jR)) (Qsx hm (by simpa using fZ))).mono ?_
        rintro e w' ⟨cc,S',O',rfl,h1,h2,h3⟩
        exact ⟨cc,S',O',rfl,h1,fun K hK => ⟨_,hK,h2,h3⟩⟩
      ·rename_i hb
       obtain ⟨vP,jA,iY,fZ⟩ := jA
       obtain ⟨hen,vE⟩ := hG.own g _ r bs (by rw [hΓ]; exact jA) vP (by rw [hΓ])
       refine ⟨hen,_,_,Qse (Qe4 (ods.map ρ ++ caps)),?_⟩
       have qX : ∀ (vs : List V) (cs : List Value),(∀ id ∈ Qe4 vs,id ∈ Qe4 (ods.map ρ ++ caps)) → RepL S w O vs cs → RepL (Frz S O (Qe4 (ods.map ρ ++ caps))) w noO (vs.map (vw hp 8)) cs := by
        intro vs
        induction vs with
        | nil => intro cs _ _; simp [RepL]
        | cons v vs ihv =>
         intro cs hi h
         cases cs with
         | nil => simp [RepL] at h
         | cons c cs =>
          simp only [RepL] at h
          simp only [Qe4,Ql] at hi
          simp only [Qs,RepL]
          exact ⟨Zah hm iY 8 v c (fun id h' => hi id (.inl h')) h.1,ihv cs (fun id h' => hi id (.inr h')) h.2⟩
       refine (Qsv vE (Qqy hm iY) (cargs := c.args.map a.eval ++ ccs) (by simp [rs.2,hn]) (qX _ _ (fun _ h => h) (by simpa using jR)) (Qsx (Qqy hm iY) (q := q) (Qps (by simpa using fZ)))).mono ?_
       rintro e w' ⟨cc,S',O',rfl,h1,h2,h3⟩
       rw [Qw8] at h3
       exact ⟨cc,S',O',rfl,h1,fun K hK => ⟨_,hK,h2,h3⟩⟩
     obtain ⟨hen,S',O',iZ,k9⟩ := hen
     refine Qf5 (w' := w) (f := g) (args := c.args.map a.eval ++ ccs) hF (by simp [jE]) ?_ (k9.mono ?_)
     ·have hd : (resolve a.eval c o.type).run P w = .ok { target := .fn (.func g) ccs,args := c.args.map a.eval } w := by
       simp [resolve,jS,hc,Deferred.ofValue]
      simp only [execOp,jE,Sem.run_bind,hd,Result.andThen_ok,invoke]
      exact hen _ _
     ·rintro e w' ⟨v,S'',O'',rfl,jD,hx⟩
      refine ⟨v,rfl,?_⟩
      obtain ⟨x,iA,jC,hrep⟩ := hx (fun x => x = _) rfl
      subst iA
      refine hK v S'' w' O'' (iZ.trans jD) ?_ ?_
      ·revert jC; split <;> exact id
      ·revert hrep; split <;> exact id
    ·exact jA.elim
   ·exact jA.elim
  ·cases hr
end
end Go.Fam
namespace Go.Fam
variable {S : Nat → Prop} {w : World} {O : OInfo} {hp : List Blk}
structure St where
 fr : Nat → V
 hp : List Blk
def upd (fr : Nat → V) (d : Option Nat) (v : V) : Nat → V := match d with
 | none => fr
 | some d => fun t => if t = d then v else fr t
inductive RX where
 | q (x : Q) | w (x : W) | o (f : Od) (args : List Od)
structure RO where
 dst : Option Nat
 gd : Option (Nat × Bool)
 ts : List Nat
 nid : Option Nat
 x : RX
def evO (fr : Nat → V) : Od → V
 | .t n => fr n
 | .k v => v
def opv (g : Bool) (fr : Nat → V) (od : Od) : V := match g with
 | true => (ug (evO fr od)).2
 | false => evO fr od
def Qdf (fr : Nat → V) : Option (Nat × Bool) → Option Bool
 | none => some true
 | some (s,want) => match fr s with
  | .b x => some (x == want)
  | .gv c (.b x) => some (c && (x == want))
  | _ => none
def Qm1 (fr : Nat → V) (ts : List Nat) (q : Q) : Prop := match q with
 | .pick c a b => (ug (evO fr c)).1 = true ∧ (match (ug (evO fr c)).2 with
  | .b p => (p = true → (ug (evO fr a)).1 = true) ∧ (p = false → (ug (evO fr b)).1 = true)
  | _ => False)
 | _ => (ts.all fun n => (ug (fr n)).1) = true
def Qh6 (Γ : Gam) (E : TypeId → Nat → Prop) (g : Bool) (o : RO) (q : Q) (σ : St) : Prop × V :=
 match g with
 | false => qv Γ E σ.hp q (opv false σ.fr)
 | true => match Qdf σ.fr o.gd with
  | none => (False,.u)
  | some c => match o.gd with
   | none => (Qm1 σ.fr o.ts q ∧ (qv Γ E σ.hp q (opv true σ.fr)).1,(qv Γ E σ.hp q (opv true σ.fr)).2)
   | some _ => (c = true → Qm1 σ.fr o.ts q ∧ (qv Γ E σ.hp q (opv true σ.fr)).1,.gv c (qv Γ E σ.hp q (opv true σ.fr)).2)
def Qbp (g : Bool) (o : RO) (fr : Nat → V) : Prop := match g with
 | false => True
 | true => (o.ts.all fun n => (ug (fr n)).1) = true
def Qmx (E : TypeId → Nat → Prop) (g : Bool) (base : Nat) (o : RO) (q : W) (σ : St) : Prop × V × List Blk :=
 match nv σ.hp q (opv g σ.fr) with
 | some (ok,b,mk) => match o.nid with
  | none => (Qbp g o σ.fr ∧ ok,mk σ.hp.length,σ.hp ++ [b])
  | some k => (Qbp g o σ.fr ∧ ok ∧ σ.hp[base + k]? = some .hole,mk (base + k),σ.hp.set (base + k) b)
 | none => (Qbp g o σ.fr ∧ (sv E σ.hp q (opv g σ.fr)).1,(sv E σ.hp q (opv g σ.fr)).2.1,putB σ.hp (sv E σ.hp q (opv g σ.fr)).2.2)
def nidQ (base : Nat) : Option Nat → Option Nat
 | none => none
 | some k => some (base + k)
def Qrl (Γ : Gam) (g : Bool) (base : Nat) (o : RO) (f : Od) (args : List Od) (σ : St) : Prop × V × List Blk :=
 (Qbp g o σ.fr ∧ (ocV Γ σ.hp (nidQ base o.nid) (opv g σ.fr f) (args.map (opv g σ.fr))).1,(ocV Γ σ.hp (nidQ base o.nid) (opv g σ.fr f) (args.map (opv g σ.fr))).2)
def step (Γ : Gam) (E : TypeId → Nat → Prop) (g : Bool) (base : Nat) (o : RO) (σ : St) : Prop × St :=
 match o.x with
 | .q q => ((Qh6 Γ E g o q σ).1,⟨upd σ.fr o.dst (Qh6 Γ E g o q σ).2,σ.hp⟩)
 | .w q => ((Qmx E g base o q σ).1,⟨upd σ.fr o.dst (Qmx E g base o q σ).2.1,(Qmx E g base o q σ).2.2⟩)
 | .o f args => ((Qrl Γ g base o f args σ).1,⟨upd σ.fr o.dst (Qrl Γ g base o f args σ).2.1,(Qrl Γ g base o f args σ).2.2⟩)
def runR (Γ : Gam) (E : TypeId → Nat → Prop) (g : Bool) (base : Nat) : List RO → St → (St → Prop) → Prop
 | [],σ,K => K σ
 | o :: l,σ,K => (step Γ E g base o σ).1 ∧ runR Γ E g base l (step Γ E g base o σ).2 K
def Qfh : Operand → Option Nat | .tmp t => some t | _ => none
def Qjb (N : Nat × Nat) : Option Nat → Bool | some d => decide (d < N.1) && decide (N.2 ≤ d) | none => true
def puOf (pu : List Nat) : Option Nat → Bool | some d => pu.contains d | none => false
def ocOf (pu : List Nat) : Option Nat → Bool | some d => pu.contains (1000000 + d) | none => false
def gdOf (ops : Array Oper) : Option (Nat × Bool) → Option (Option (Nat × Bool))
 | none => some none
 | some (j,want) => ((ops[j]?).bind (·.dst)).map fun s => some (s,want)
def resO (P : Program) (pu : List Nat) (N : Nat × Nat) (ops : Array Oper) (o : Oper) : Option RO :=
 if Qjb N o.dst then
  match gdOf ops o.guard with
  | none => none
  | some gd => if ocOf pu o.dst then (if o.guard.isNone then (Qh4 P o).map fun x => ⟨o.dst,none,o.op.operands.toList.filterMap Qfh,none,.o x.1 x.2⟩ else none) else match resQ P (puOf pu o.dst) o with
   | some q => some ⟨o.dst,gd,o.op.operands.toList.filterMap Qfh,none,.q q⟩
   | none => if o.guard.isNone then (resW P o).map fun w => ⟨o.dst,none,o.op.operands.toList.filterMap Qfh,none,.w w⟩ else none
 else none
def FrM (S : Nat → Prop) (w : World) (O : OInfo) (fr : Nat → V) (a : Act) : Prop := ∀ t,Rep S w O (fr t) (a.tmps.getD t undef)
structure FrI where
 n : Nat
 md : Nat
 T : Nat → Value
 al : List V → Prop
def FrI.nm (M : FrI) : Nat × Nat := (M.n,M.md)
structure SR (M : FrI) (S : Nat → Prop) (w : World) (O : OInfo) (σ : St) (a : Act) : Prop where
 size : a.tmps.size = M.n
 kept : ∀ t,t < M.md → a.tmps.getD t undef = M.T t
 fr : FrM S w O σ.fr a
 mat : Mat S w O σ.hp
section
variable {P : Program} {F : Fence} {n : Nat}
def FrM.put {S S' : Nat → Prop} {w w' : World} {O O' : OInfo} {fr : Nat → V} {a : Act} (h : FrM S w O fr a) (hx : Ext S S' w w' O O') {dst : Option Nat} (hd : ∀ d,dst = some d → d < a.tmps.size) {v : V} {c : Value} (hv : Rep S' w' O' v c) :
  FrM S' w' O' (upd fr dst v) (a.put dst c) := by
 intro t
 cases dst with
 | none => exact Rep.ext hx _ _ (h t)
 | some d =>
  simp only [upd,Act.put]
  have hlt := hd d rfl
  split
  ·rename_i e; subst e
   simpa [hlt] using hv
  ·rename_i e
   have : (a.tmps.setIfInBounds d c).getD t undef = a.tmps.getD t undef := by simp [Array.getElem?_setIfInBounds_ne (Ne.symm e)]
   rw [this]
   exact Rep.ext hx _ _ (h t)
def FrM.ext {S S' : Nat → Prop} {w w' : World} {O O' : OInfo} {fr : Nat → V} {a : Act} (h : FrM S w O fr a) (hx : Ext S S' w w' O O') : FrM S' w' O' fr a := fun t => Rep.ext hx _ _ (h t)
def Qqi {v : V} {c : Value} (h : Rep S w O v c) (hu : (ug v).1 = true) : Rep S w O (ug v).2 c := by
 cases v <;> try exact h
 case gv q v =>
  simp only [Rep] at h
  exact h.1 hu
def Zmq {t : TypeId} {c : Value} {v : V} (h : cV P t c = some v) : (ug v).1 = true := by
 cases c with
 | bool b => simp [cV] at h; subst h; rfl
 | int k n => cases k <;> simp [cV] at h <;> subst h <;> rfl
 | slice a l cp =>
  rcases l with _ | l
  ·rcases cp with _ | cp
   ·simp [cV] at h; subst h; rfl
   ·simp [cV] at h
  ·simp [cV] at h
 | pointer a => cases a <;> simp [cV] at h; subst h; rfl
 | agg cs =>
  simp only [cV] at h
  split at h
  ·simp at h; subst h; rfl
  ·simp at h
   obtain ⟨vs,h1,rfl⟩ := h
   rfl
 | tuple cs =>
  simp only [cV] at h
  split at h
  ·simp at h; subst h; rfl
  ·cases h
 | map m =>
  cases m with
  | none => simp [cV] at h; subst h; rfl
  | some m => simp [cV] at h
 | nilFunc => simp [cV] at h; subst h; rfl
 | _ => simp [cV] at h
def Qc6 {fr : Nat → V} {a : Act} (h : FrM S w O fr a) (o : Oper) : Qdp P S w O (opv false fr) a.eval o := by
 intro x _ t od kW
 cases x with
 | tmp k => simp only [rOd,Qb.injEq] at kW; subst kW; exact h k
 | const v =>
  simp only [rOd,Qg] at kW
  obtain ⟨v',hv,rfl⟩ := kW
  exact Qxw hv S w O
 | func f =>
  simp only [rOd,Qb.injEq] at kW
  subst kW
  simp only [opv,evO,Act.eval,Rep]
  exact ⟨#[],rfl,rfl,by simp [RepL]⟩
 | global g => simp [rOd] at kW
def Qbq {fr : Nat → V} {a : Act} (h : FrM S w O fr a) (o : Oper) (hn : ((o.op.operands.toList.filterMap Qfh).all fun n => (ug (fr n)).1) = true) : Qdp P S w O (opv true fr) a.eval o := by
 intro x hx t od kW
 cases x with
 | tmp k =>
  simp only [rOd,Qb.injEq] at kW; subst kW
  refine Qqi (h k) ?_
  rw [Qo] at hn
  exact hn k (List.mem_filterMap.2 ⟨.tmp k,by simpa using hx,rfl⟩)
 | const v =>
  simp only [rOd,Qg] at kW
  obtain ⟨v',hv,rfl⟩ := kW
  have := Qxw hv S w O
  exact Qqi this (Zmq hv)
 | func f =>
  simp only [rOd,Qb.injEq] at kW
  subst kW
  simp only [opv,evO,ug,Act.eval,Rep]
  exact ⟨#[],rfl,rfl,by simp [RepL]⟩
 | global g => simp [rOd] at kW
def Zc6 {Γ : Gam} (hG : GOk P Γ) (hF : Qbz F) {pu : Bool} {o : Oper} {q : Q} (hr : resQ P pu o = some q) (hm : Mat S w O hp)
  {a : Act} {fr : Nat → V} (xS : FrM S w O fr a) {ro : RO} (xG : ro.ts = o.op.operands.toList.filterMap Qfh) (jK : Qm1 fr ro.ts q) (jA : (qv Γ (Qar P) hp q (opv true fr)).1)
  {K : Act → World → Prop} {Q' : Exit → Act → World → Prop}
  (hK : ∀ c S' w',Evol S S' w w' O O → Mat S' w' O hp → Rep S' w' O (qv Γ (Qar P) hp q (opv true fr)).2 c → K (a.put o.dst c) w') : o.wpIn F n P a w K Q' := by
 by_cases iB : ∃ c x y,q = .pick c x y
 ·obtain ⟨c,x,y,rfl⟩ := iB
  unfold resQ at hr
  cases jE : o.op <;> rw [jE] at hr <;> first | (simp at hr; done) | (try dsimp only at hr)
  case pick c' x' y' =>
   simp only [Qc,Qa,Qd,Qb.injEq,Q.pick.injEq] at hr
   obtain ⟨c1,hc1,x1,y5,y1,i7,rfl,rfl,rfl⟩ := hr
   have base : ∀ (z : Operand) t od,rOd P t z = some od → Rep S w O (evO fr od) (a.eval z) := by
    intro z t od kW
    exact Qc6 (P := P) xS { dst := none,op := .move z,type := 0,pos := "",after := #[],guard := none } z (by simp [Op.operands]) t od kW
   simp only [Qm1] at jK
   obtain ⟨wG,qW⟩ := jK
   have r1 := Qqi (base _ _ _ hc1) wG
   simp only [qv,opv] at jA hK
   split at jA
   ·rename_i p hp'
    rw [hp'] at qW r1
    simp only [hp'] at hK
    rcases Qq2 jA with ⟨p1,x9,rfl,hv⟩ | ⟨p1,x9,rfl,hv⟩
    ·rw [hv] at hK
     refine Qb9 (w' := w) (c := .bool p1) hF (by simp [jE]) ?_ (hK _ S w (Evol.refl S w O) hm (by simp [Rep]))
     have r2 := Qqi (base _ _ _ y5) (qW.1 rfl)
     rw [x9] at r2
     simp only [execOp,jE,Qkh r1]
     simp [asBool,Qkh r2]
    ·rw [hv] at hK
     refine Qb9 (w' := w) (c := .bool p1) hF (by simp [jE]) ?_ (hK _ S w (Evol.refl S w O) hm (by simp [Rep]))
     have r3 := Qqi (base _ _ _ i7) (qW.2 rfl)
     rw [x9] at r3
     simp only [execOp,jE,Qkh r1]
     simp [asBool,Qkh r3]
   ·exact jA.elim
  all_goals
   exfalso
   clear jA hK jK
   first
    | (simp [Qa] at hr; done)
    | ((repeat' split at hr) <;> first | (rename_i x6; simp at x6; done) | (simp [Qa] at hr; done) | (rename_i x6; exact absurd x6 (by simp)))
 ·have hn : (ro.ts.all fun n => (ug (fr n)).1) = true := by
   cases q <;> first | exact jK | exact absurd ⟨_,_,_,rfl⟩ iB
  rw [xG] at hn
  exact Qx1 hG hF hr hm (Qbq xS o hn) jA hK
def Qjz {fr : Nat → V} {a : Act} (h : FrM S w O fr a) {ops : Array Oper} {o : Oper} {j : Nat} {want : Bool} (hg : o.guard = some (j,want)) {s : Nat} (hs : (ops[j]?).bind (·.dst) = some s) {c : Bool}
  (hc : Qdf fr (some (s,want)) = some c) : Region.wanted o (yielded ops a.tmps) = c := by
 have hr := h s
 simp only [Qdf] at hc
 have hy : Region.wanted o (yielded ops a.tmps) = ((match a.tmps[s]? with | some (.bool b) => some b | _ => none) == some want) := by
  simp only [Region.wanted,hg,yielded]
  rw [hs]
  rfl
 rw [hy]
 have key : ∀ x,a.tmps.getD s undef = .bool x → a.tmps[s]? = some (.bool x) := by
  intro x hx
  cases xG : a.tmps[s]? with
  | none => simp [xG,undef] at hx
  | some v => simpa [xG] using hx
 split at hc
 ·rename_i x hx
  rw [hx] at hr
  cases hc
  rw [key x (Qkh hr)]
  simp
 ·rename_i q x hx
  rw [hx] at hr
  cases hc
  simp only [Rep] at hr
  cases q with
  | true =>
   rw [key x (hr.1 rfl)]
   simp
  | false =>
   have hu := hr.2 rfl
   have : (match a.tmps[s]? with | some (.bool b) => some b | _ => none) = (none : Option Bool) := by
    cases xG : a.tmps[s]? with
    | none => rfl
    | some v =>
     have : v = undef := by simpa [xG] using hu
     subst this; rfl
   rw [this]; rfl
 ·cases hc
def Qzg {pu : List Nat} {N : Nat × Nat} {ops : Array Oper} {o : Oper} {ro : RO} (h : resO P pu N ops o = some ro) :
  ro.dst = o.dst ∧ (∀ d,o.dst = some d → d < N.1 ∧ N.2 ≤ d) ∧ ro.ts = o.op.operands.toList.filterMap Qfh ∧
  ((o.guard = none ∧ ro.gd = none) ∨ ∃ j want s,o.guard = some (j,want) ∧ (ops[j]?).bind (·.dst) = some s ∧ ro.gd = some (s,want)) ∧
  ((∃ q b,ro.x = .q q ∧ resQ P b o = some q) ∨ (∃ q,ro.x = .w q ∧ o.guard = none ∧ resW P o = some q) ∨ (∃ f xs,ro.x = .o f xs ∧ o.guard = none ∧ Qh4 P o = some (f,xs))) := by
 unfold resO at h
 split at h
 ·rename_i hd
  have vA : ∀ d,o.dst = some d → d < N.1 ∧ N.2 ≤ d := by
   intro d hd'
   rw [hd'] at hd
   simpa [Qjb] using hd
  split at h
  ·cases h
  ·rename_i gd jW
   have hg : (o.guard = none ∧ gd = none) ∨ ∃ j want s,o.guard = some (j,want) ∧ (ops[j]?).bind (·.dst) = some s ∧ gd = some (s,want) := by
    cases mX : o.guard with
    | none => rw [mX] at jW; simp [gdOf] at jW; exact .inl ⟨rfl,jW.symm⟩
    | some jw =>
     obtain ⟨j,want⟩ := jw
     rw [mX] at jW
     simp only [gdOf,Qg] at jW
     obtain ⟨s,hs,rfl⟩ := jW
     exact .inr ⟨j,want,s,rfl,hs,rfl⟩
   split at h
   ·split at h
    ·rename_i xC
     have gZ : o.guard = none := by simpa using xC
     simp only [Qg] at h
     obtain ⟨x,hx,rfl⟩ := h
     exact ⟨rfl,vA,rfl,.inl ⟨gZ,rfl⟩,.inr (.inr ⟨x.1,x.2,rfl,gZ,hx⟩)⟩
    ·cases h
   ·split at h
    ·rename_i q hq
     simp only [Qb.injEq] at h
     subst h
     exact ⟨rfl,vA,rfl,hg,.inl ⟨q,_,rfl,hq⟩⟩
    ·split at h
     ·rename_i xC
      have gZ : o.guard = none := by simpa using xC
      simp only [Qg] at h
      obtain ⟨q,hq,rfl⟩ := h
      exact ⟨rfl,vA,rfl,.inl ⟨gZ,rfl⟩,.inr (.inl ⟨q,rfl,gZ,hq⟩)⟩
     ·cases h
 ·cases h
def Qb8 (a : Act) (d : Option Nat) (v : Value) : (a.put d v).defers = a.defers := by cases d <;> rfl
def Qbm (a : Act) (d : Option Nat) (v : Value) : (a.put d v).tmps.size = a.tmps.size := by cases d <;> simp [Act.put]
def Qfs (a : Act) (d : Option Nat) (v : Value) (t : Nat) (h : ∀ d',d = some d' → d' ≠ t) : (a.put d v).tmps.getD t undef = a.tmps.getD t undef := by
 cases d with
 | none => rfl
 | some d => simp [Act.put,Array.getElem?_setIfInBounds_ne (h d rfl)]
def Qm6 {Γ : Gam} (hG : GOk P Γ) (hF : Qbz F) {pu : List Nat} {M : FrI} {ops : Array Oper} {i : Nat} {o : Oper} (hi : ops[i]? = some o) {ro : RO} (hro : resO P pu M.nm ops o = some { ro with nid := none })
  {g : Bool} (hg : g = false → o.guard = none) {base : Nat} {S : Nat → Prop} {w : World} {O : OInfo} {σ : St} {a : Act} (jL : SR M S w O σ a) (jA : (step Γ (Qar P) g base ro σ).1)
  {K : Act → World → Prop} {Q' : Exit → Act → World → Prop}
  (hK : ∀ S' w' O' a',Evol S S' w w' O O' → SR M S' w' O' (step Γ (Qar P) g base ro σ).2 a' → a'.defers = a.defers → K a' w') : wpOpIn F n P ops Q' i K a w := by
 obtain ⟨vA,qA,xG,jW,hx⟩ := Qzg hro
 simp only at vA xG jW hx
 have xK : ∀ d,o.dst = some d → d < a.tmps.size := by rw [jL.size]; exact fun d hd => (qA d hd).1
 have jU : ∀ (c : Value) t,t < M.md → (a.put o.dst c).tmps.getD t undef = M.T t := fun c t ht => (Qfs a o.dst c t fun d hd => by have := (qA d hd).2; simp only [FrI.nm] at this; omega).trans (jL.kept t ht)
 simp only [wpOpIn,hi]
 rcases hx with ⟨q,b,bH,hq⟩ | ⟨q,bH,xC,hq⟩ | ⟨f0,xs0,bH,xC,hq⟩
 ·
  simp only [step,bH] at jA hK
  have fin : ∀ (v : V),(∀ S' w' O' a',Evol S S' w w' O O' → SR M S' w' O' ⟨upd σ.fr ro.dst v,σ.hp⟩ a' → a'.defers = a.defers → K a' w') →
    ∀ c S' w',Evol S S' w w' O O → Mat S' w' O σ.hp → Rep S' w' O v c → K (a.put o.dst c) w' := by
   intro v hK c S' w' jD jC hrep
   refine hK S' w' O _ jD ⟨by rw [Qbm]; exact jL.size,jU _,?_,jC⟩ (Qb8 _ _ _)
   rw [vA]
   exact jL.fr.put jD.ext xK hrep
  cases g with
  | false =>
   have xC := hg rfl
   simp only [Qh6] at jA hK
   have hw : Region.wanted o (yielded ops a.tmps) = true := by simp [Region.wanted,xC]
   rw [if_pos hw]
   exact Qx1 hG hF hq jL.mat (Qc6 jL.fr o) jA (fin _ hK)
  | true =>
   rcases jW with ⟨xC,jW⟩ | ⟨j,want,s,vS,hs,jW⟩
   ·have hw : Region.wanted o (yielded ops a.tmps) = true := by simp [Region.wanted,xC]
    rw [if_pos hw]
    simp only [Qh6,jW,Qdf] at jA hK
    exact Zc6 hG hF hq jL.mat jL.fr xG jA.1 jA.2 (fin _ hK)
   ·simp only [Qh6,jW] at jA hK
    cases hc : Qdf σ.fr (some (s,want)) with
    | none => simp [hc] at jA
    | some c =>
     have hw := Qjz jL.fr (o := o) vS hs hc
     simp only [hc] at jA hK
     rw [hw]
     cases c with
     | true =>
      rw [if_pos rfl]
      refine Zc6 hG hF hq jL.mat jL.fr xG (jA rfl).1 (jA rfl).2 ?_
      intro c S' w' jD jC hrep
      exact fin _ hK c S' w' jD jC (by simp only [Rep]; exact ⟨fun _ => hrep,fun h => by cases h⟩)
     | false =>
      rw [if_neg (by simp)]
      refine ⟨fun f _ => hF.1 f,?_⟩
      exact fin _ hK undef S w (Evol.refl S w O) jL.mat (by simp only [Rep]; exact ⟨fun h => (by cases h),fun _ => trivial⟩)
 ·
  have hw : Region.wanted o (yielded ops a.tmps) = true := by simp [Region.wanted,xC]
  rw [if_pos hw]
  have jJ : Qbp g ro σ.fr → Qdp P S w O (opv g σ.fr) a.eval o := by
   intro hn
   cases g with
   | false => exact Qc6 jL.fr o
   | true => simp only [Qbp] at hn; rw [xG] at hn; exact Qbq jL.fr o hn
  simp only [step,bH,Qmx] at jA hK
  cases xO : nv σ.hp q (opv g σ.fr) with
  | none =>
   simp only [xO] at jA hK
   refine Qxf hF hq jL.mat (jJ jA.1) jA.2 ?_
   intro c w' O' jD jC hrep jX
   refine hK S w' O' _ jD ⟨by rw [Qbm]; exact jL.size,jU _,?_,jC⟩ (Qb8 _ _ _)
   rw [vA]
   exact jL.fr.put jD.ext xK hrep
  | some t =>
   obtain ⟨ok,blk,mk⟩ := t
   simp only [xO] at jA hK
   cases yD : ro.nid with
   | none =>
    simp only [yD] at jA hK
    refine Qr8 (id := σ.hp.length) hF hq jL.mat (Qhp jL.mat [blk]) (jJ jA.1) xO jA.2 (Qks jL.mat) (by simp) ?_
    intro c w' O' jD jC hrep _
    refine hK S w' O' _ jD ⟨by rw [Qbm]; exact jL.size,jU _,?_,jC⟩ (Qb8 _ _ _)
    rw [vA]
    exact jL.fr.put jD.ext xK hrep
   | some k =>
    simp only [yD] at jA hK
    obtain ⟨h1,h2⟩ := Qso jL.mat jA.2.2 blk
    refine Qr8 (id := base + k) hF hq jL.mat h2 (jJ jA.1) xO jA.2.1 h1 (by rw [Qk (Qag jA.2.2)]) ?_
    intro c w' O' jD jC hrep _
    refine hK S w' O' _ jD ⟨by rw [Qbm]; exact jL.size,jU _,?_,jC⟩ (Qb8 _ _ _)
    rw [vA]
    exact jL.fr.put jD.ext xK hrep
 ·
  have hw : Region.wanted o (yielded ops a.tmps) = true := by simp [Region.wanted,xC]
  rw [if_pos hw]
  simp only [step,bH,Qrl] at jA hK
  have jJ : Qdp P S w O (opv g σ.fr) a.eval o := by
   cases g with
   | false => exact Qc6 jL.fr o
   | true => have hn := jA.1; simp only [Qbp] at hn; rw [xG] at hn; exact Qbq jL.fr o hn
  refine Qz0 hG hF hq jL.mat jJ jA.2 ?_
  intro c S' w' O' jD jC hrep
  refine hK S' w' O' _ jD ⟨by rw [Qbm]; exact jL.size,jU _,?_,jC⟩ (Qb8 _ _ _)
  rw [vA]
  exact jL.fr.put jD.ext xK hrep
def Qpl {y : List V × Option (List (List V))} (h : ghO hp = some y) : hp[0]? = some (.gh y.1 y.2) := by
 unfold ghO at h
 split at h
 ·rename_i c' y' hy; cases h; exact hy
 ·cases h
def Qpm {y : List V × Option (List (List V))} (h : hp[0]? = some (.gh y.1 y.2)) : ghO hp = some y := by simp [ghO,h]
def Qg2 {hp hp' : List Blk} {y : List V × Option (List (List V))} (h : ghO hp = some y) : ghO (hp ++ hp') = some y := by
 refine Qpm ?_
 have := Qpl h
 rw [Qu (Qag this)]
 exact this
def Qob {y : List V × Option (List (List V))} (h : ghO hp = some y) {id : Nat} {b b' : Blk} (jF : hp[id]? = some b) (hb : ∀ c y,b ≠ .gh c y) : ghO (hp.set id b') = some y := by
 refine Qpm ?_
 have := Qpl h
 rw [Qh (by rintro rfl; rw [this] at jF; cases jF; exact hb _ _ rfl)]
 exact this
def Qvp : ∀ (L : List Nat) {hp : List Blk} {y : List V × Option (List (List V))},ghO hp = some y → ghO (L.foldl Qh2 hp) = some y := by
 intro L hp y h
 refine Qpm ?_
 have := Qpl h
 rw [Qg8,this]
 split <;> rfl
def Qvq {y : List V × Option (List (List V))} (h : ghO hp = some y) {q : Option Nat} {bs : List Blk} (hq : plO hp q bs.length) : ghO (plB hp q bs) = some y := by
 cases q with
 | none => exact Qg2 h
 | some q =>
  refine Qpm ?_
  have h0 := Qpl h
  have hh := Qdh hq
  rcases Zk bs.length with hl | hl
  ·have : bs = [] := Qj hl
   subst this; exact h0
  ·have qX := Qag (hh (bs.length - 1) (by omega))
   simp only [plB]
   rw [Qir _ _ _ _ (by simp; omega),if_neg]
   ·exact h0
   ·rintro ⟨p4,_⟩
    have : q = 0 := by omega
    subst this
    have := hh 0 hl
    rw [Q3,h0] at this
    cases this
def Zq9 {E : TypeId → Nat → Prop} {q : W} {ρ : Od → V} {y : List V × Option (List (List V))} (h : ghO hp = some y) : ghO (putB hp (sv E hp q ρ).2.2) = some y := by
 cases q <;> simp only [sv] <;> try exact h
 all_goals
  split
  ·split
   ·rename_i jF
    exact Qob h jF (fun _ _ h => by cases h)
   ·exact h
  ·exact h
def Qmm {Γ : Gam} {E : TypeId → Nat → Prop} {g : Bool} {base : Nat} {o : RO} {σ : St} {y : List V × Option (List (List V))} (jA : (step Γ E g base o σ).1) (h : ghO σ.hp = some y) : ghO (step Γ E g base o σ).2.hp = some y := by
 unfold step at jA ⊢
 cases hx : o.x with
 | q q => exact h
 | w q =>
  simp only [hx,Qmx] at jA ⊢
  cases hn : nv σ.hp q (opv g σ.fr) with
  | none => simp only [hn] at jA ⊢; exact Zq9 h
  | some t =>
   obtain ⟨ok,b,mk⟩ := t
   simp only [hn] at jA ⊢
   cases yD : o.nid with
   | none => simp only [yD] at jA ⊢; exact Qg2 h
   | some k => simp only [yD] at jA ⊢; exact Qob h jA.2.2 (fun _ _ h => by cases h)
 | o f xs =>
  simp only [hx,Qrl,ocV] at jA ⊢
  split
  ·rename_i k caps hf
   simp only [hf] at jA
   split
   ·rename_i ok r bs hΓ
    simp only [hΓ] at jA
    split
    ·rename_i hb
     simp only [hb] at jA
     exact Qvq h (by simpa using jA.2.2.2)
    ·rename_i hb
     simp only [hb] at jA
     exact Qvq (Qvp _ h) (Qps (by simpa using jA.2.2.2.2))
   ·exact h
  ·exact h
end
end Go.Fam
namespace Go.Fam
structure FP where
 rd : Option (List Nat)
 wr : List Nat
def fpV : V → List Nat | .ad id _ _ => [id] | .rf id _ _ _ _ => [id] | .mp id _ => [id] | _ => []
def rdV (hp : List Blk) : Nat → V → List Nat
 | 0,_ => []
 | n + 1,v => match v with
  | .ag cs => cs.flatMap (rdV hp n)
  | .tp cs => cs.flatMap (rdV hp n)
  | .fn _ cs => cs.flatMap (rdV hp n)
  | .ad id g off => id :: (match hp[id]? with
   | some (.cells g' vs) => if g' = g then (vs.drop off).flatMap (rdV hp n) else []
   | _ => [])
  | .rf id g _ _ _ => id :: (match hp[id]? with
   | some (.cells g' vs) => if g' = g then vs.flatMap (rdV hp n) else []
   | _ => [])
  | .mp id g => id :: (match hp[id]? with
   | some (.map _ _ vs) => if g = 0 then vs.flatMap (rdV hp n) else []
   | _ => [])
  | .gv _ v => rdV hp n v
  | _ => []
def Qze {hp hp' : List Blk} : ∀ (n : Nat) (v : V),(∀ i ∈ rdV hp n v,hp[i]? = hp'[i]?) → vw hp n v = vw hp' n v ∧ rdV hp n v = rdV hp' n v := by
 intro n
 induction n with
 | zero => intro v _; exact ⟨rfl,rfl⟩
 | succ n ih =>
  have ihL : ∀ vs : List V,(∀ i ∈ vs.flatMap (rdV hp n),hp[i]? = hp'[i]?) → vs.map (vw hp n) = vs.map (vw hp' n) ∧ vs.flatMap (rdV hp n) = vs.flatMap (rdV hp' n) := by
   intro vs h
   have h' : ∀ v ∈ vs,vw hp n v = vw hp' n v ∧ rdV hp n v = rdV hp' n v := fun v hv => ih v fun i hi => h i (Ze.2 ⟨v,hv,hi⟩)
   refine ⟨Qe fun v hv => (h' v hv).1,?_⟩
   rw [Q6,Q6,Qe fun v hv => (h' v hv).2]
  have ihM : ∀ vs : List V,(∀ i ∈ vs.flatMap (rdV hp n),hp[i]? = hp'[i]?) → ∀ v ∈ vs,vw hp n v = vw hp' n v := fun vs h v hv => (ih v fun i hi => h i (Ze.2 ⟨v,hv,hi⟩)).1
  intro v h
  cases v <;> simp only [vw,rdV] at h ⊢ <;> try exact ⟨trivial,trivial⟩
  case ag cs => obtain ⟨h1,h2⟩ := ihL cs h; rw [h1,h2]; exact ⟨rfl,rfl⟩
  case tp cs => obtain ⟨h1,h2⟩ := ihL cs h; rw [h1,h2]; exact ⟨rfl,rfl⟩
  case fn f cs => obtain ⟨h1,h2⟩ := ihL cs h; rw [h1,h2]; exact ⟨rfl,rfl⟩
  case gv c v => obtain ⟨h1,h2⟩ := ih v h; rw [h1,h2]; exact ⟨rfl,rfl⟩
  case ad id g off =>
   rw [← h id (by simp)]
   cases hb : hp[id]? with
   | none => simp
   | some b =>
    cases b <;> try (simp; done)
    case cells g' vs =>
     simp only [hb] at h ⊢
     by_cases hg : g' = g
     ·simp only [hg,if_true] at h ⊢
      obtain ⟨h1,h2⟩ := ihL (vs.drop off) fun i hi => h i (by simp only [Qr]; exact .inr hi)
      rw [h1,h2]; exact ⟨rfl,rfl⟩
     ·simp [hg]
  case mp id g =>
   rw [← h id (by simp)]
   cases hb : hp[id]? with
   | none => simp
   | some b =>
    cases b <;> try (simp; done)
    case map st ks vs =>
     simp only [hb] at h ⊢
     by_cases hg : g = 0
     ·simp only [hg,if_true] at h ⊢
      obtain ⟨h1,h2⟩ := ihL vs fun i hi => h i (by simp only [Qr]; exact .inr hi)
      rw [h1,h2]; exact ⟨rfl,rfl⟩
     ·simp [hg]
  case rf id g off len es =>
   rw [← h id (by simp)]
   cases hb : hp[id]? with
   | none => simp
   | some b =>
    cases b <;> try (simp; done)
    case cells g' vs =>
     simp only [hb] at h ⊢
     by_cases hg : g' = g
     ·simp only [hg,if_true,true_and] at h ⊢
      have h0 : ∀ i ∈ vs.flatMap (rdV hp n),hp[i]? = hp'[i]? := fun i hi => h i (by simp only [Qr]; exact .inr hi)
      obtain ⟨_,h2⟩ := ihL vs h0
      have h3 : (Qbi es vs off len).map (fun r => r.map (vw hp n)) = (Qbi es vs off len).map (fun r => r.map (vw hp' n)) := by
       refine Qe fun r hr => Qe fun v hv => ihM vs h0 v ?_
       unfold Qbi at hr
       obtain ⟨k,_,rfl⟩ := Q4.1 hr
       exact Qn (Qm hv)
      rw [h2,h3]; exact ⟨rfl,rfl⟩
     ·simp [hg]
def fpQ (hp : List Blk) (q : Q) (ρ : Od → V) : Option (List Nat) := match q with
 | .ld _ _ x | .fad _ x | .nilc x | .len x | .iad _ x _ | .iaa _ _ x _ | .slc _ x _ _ => some (fpV (ρ x))
 | .call f xs => match ρ f with
  | .fn _ caps => some ((xs.map ρ ++ caps).flatMap (rdV hp 8))
  | _ => some []
 | .bsl _ _ _ ps => if Qa8 (ps.map fun p => ρ p.2.2) then none else some []
 | .box x => if Qan (ρ x) then none else some []
 | .lkp _ _ _ _ m _ => some (fpV (ρ m))
 | .mlen m => some (fpV (ρ m))
 | .ent _ => none
 | _ => some []
def Qbf (hp : List Blk) : List (Nat × Blk) → List Blk
 | [] => hp
 | x :: l => Qbf (hp.set x.1 x.2) l
def Qox (q : Nat) : List Blk → List (Nat × Blk)
 | [] => []
 | b :: l => (q,b) :: Qox (q + 1) l
def Qmu (hp : List Blk) : List Nat → List (Nat × Blk)
 | [] => []
 | id :: l => (id,Qjm (hp[id]?.getD .hole)) :: Qmu hp l
def effO (Γ : Gam) (g : Bool) (base : Nat) (o : RO) (f : Od) (args : List Od) (σ : St) : Prop × V × List (Nat × Blk) :=
 match opv g σ.fr f with
 | .fn k caps => match Γ (1000000 + k) ((args.map (opv g σ.fr) ++ caps).map (vw σ.hp 8)) with
  | (ok,.tp [r,.tp bs]) => match o.nid with
   | none => match Qa8 (args.map (opv g σ.fr) ++ caps) && !(Qcr r && (bs.map vB).all Qft) with
    | false => (Qbp g o σ.fr ∧ k < 1000000 ∧ ok ∧ bs = [] ∧ Qan r = false,r,[])
    | true => (Qbp g o σ.fr ∧ k < 1000000 ∧ ok ∧ (Qe4 (args.map (opv g σ.fr) ++ caps)).all (Qid σ.hp) = true ∧ bs = [] ∧ Qan r = false,r,Qmu σ.hp (Qe4 (args.map (opv g σ.fr) ++ caps)))
   | some j => match Qa8 (args.map (opv g σ.fr) ++ caps) && !(Qcr r && (bs.map vB).all Qft) with
    | false => (Qbp g o σ.fr ∧ k < 1000000 ∧ ok ∧ Qfp σ.hp (base + j) bs.length = true,shV (base + j) r,Qox (base + j) ((bs.map vB).map (shB (base + j))))
    | true => (Qbp g o σ.fr ∧ k < 1000000 ∧ ok ∧ (Qe4 (args.map (opv g σ.fr) ++ caps)).all (Qid σ.hp) = true ∧ Qfp σ.hp (base + j) bs.length = true,shV (base + j) r,Qmu σ.hp (Qe4 (args.map (opv g σ.fr) ++ caps)) ++ Qox (base + j) ((bs.map vB).map (shB (base + j))))
  | _ => (False,.u,[])
 | _ => (False,.u,[])
def upTo : Nat → Nat → List Nat
 | _,0 => []
 | q,n + 1 => q :: upTo (q + 1) n
def Qol {x : Nat} : ∀ {n q : Nat},x ∈ upTo q n ↔ q ≤ x ∧ x < q + n
 | 0,q => by simp [upTo]
 | n + 1,q => by simp only [upTo,Qr,Qol]; omega
def optL : Option (Nat × Blk) → List (Nat × Blk) | none => [] | some x => [x]
def eff (Γ : Gam) (E : TypeId → Nat → Prop) (g : Bool) (base : Nat) (o : RO) (σ : St) : Prop × V × List (Nat × Blk) :=
 match o.x with
 | .q q => ((Qh6 Γ E g o q σ).1,(Qh6 Γ E g o q σ).2,[])
 | .w q => match nv σ.hp q (opv g σ.fr) with
  | some (ok,b,mk) => match o.nid with
   | none => (False,.u,[])
   | some k => (Qbp g o σ.fr ∧ ok ∧ σ.hp[base + k]? = some .hole,mk (base + k),[(base + k,b)])
  | none => (Qbp g o σ.fr ∧ (sv E σ.hp q (opv g σ.fr)).1,(sv E σ.hp q (opv g σ.fr)).2.1,optL (sv E σ.hp q (opv g σ.fr)).2.2)
 | .o f args => effO Γ g base o f args σ
def Qaw (Γ : Gam) (E : TypeId → Nat → Prop) (g : Bool) (base : Nat) (o : RO) (σ : St) : St :=
 ⟨upd σ.fr o.dst (eff Γ E g base o σ).2.1,Qbf σ.hp (eff Γ E g base o σ).2.2⟩
def fpR (Γ : Gam) (g : Bool) (base : Nat) (o : RO) (σ : St) : FP := match o.x with
 | .q q => ⟨fpQ σ.hp q (opv g σ.fr),[]⟩
 | .w q => match q with
  | .st _ a _ => ⟨some [],fpV (opv g σ.fr a)⟩
  | .mup _ _ m _ _ => ⟨some [],fpV (opv g σ.fr m)⟩
  | .men _ _ _ m _ => ⟨some [],fpV (opv g σ.fr m)⟩
  | .mes m _ _ => ⟨some [],fpV (opv g σ.fr m)⟩
  | .cpy _ x y => ⟨some (fpV (opv g σ.fr y)),fpV (opv g σ.fr x)⟩
  | .app _ _ x y => match opv g σ.fr x with
   | .rf id _ _ _ _ => ⟨some (fpV (opv g σ.fr y)),[id]⟩
   | _ => ⟨some (fpV (opv g σ.fr y)),[base + o.nid.getD 0]⟩
  | .rng x => ⟨some (fpV (opv g σ.fr x)),[base + o.nid.getD 0]⟩
  | _ => ⟨some [],[base + o.nid.getD 0]⟩
 | .o f args => match opv g σ.fr f with
  | .fn k caps => ⟨match Qa8 (args.map (opv g σ.fr) ++ caps) with | true => none | false => some [],
    Qe4 (args.map (opv g σ.fr) ++ caps) ++ (match o.nid,Γ (1000000 + k) ((args.map (opv g σ.fr) ++ caps).map (vw σ.hp 8)) with | some j,(_,.tp [_,.tp bs]) => upTo (base + j) bs.length | _,_ => [])⟩
  | _ => ⟨none,[]⟩
def Qek : List Od → List Nat
 | [] => []
 | .t n :: l => n :: Qek l
 | .k _ :: l => Qek l
def RO.reads (o : RO) : List Nat := o.ts ++ (match o.gd with | some (s,_) => [s] | none => []) ++ Qek (match o.x with | .q q => q.ods | .w q => q.ods | .o f xs => f :: xs)
def Qn2 (a b : RO) : Bool :=
 (match a.dst with | some d => !(b.reads.contains d) && b.dst != some d | none => true) &&
 (match b.dst with | some d => !(a.reads.contains d) | none => true)
def hits (ws : List Nat) (f : FP) : Bool := !ws.isEmpty && (match f.rd with
 | none => true
 | some r => ws.any fun i => r.contains i || f.wr.contains i)
def Qmr (a b : FP) : Bool := !(hits a.wr b) && !(hits b.wr a)
def Quo (f : FP) (hp hp' : List Blk) : Prop := (f.rd = none → hp = hp') ∧ (∀ r,f.rd = some r → ∀ i ∈ r,hp[i]? = hp'[i]?) ∧ (∀ i ∈ f.wr,hp[i]? = hp'[i]?)
def Qrn {hp hp' : List Blk} : ∀ (n : Nat) (v : V),Qan v = false → vw hp n v = vw hp' n v := by
 intro n
 induction n with
 | zero => intro v _; rfl
 | succ n ih =>
  have ihL : ∀ vs : List V,Qa8 vs = false → vs.map (vw hp n) = vs.map (vw hp' n) := by
   intro vs h
   apply Qe
   intro v hv
   exact ih v (Qhm vs h v hv)
  intro v h
  cases v <;> simp only [vw] <;> simp only [Qan] at h <;> first | rfl | (rw [ihL _ h]) | (rw [ih _ h]) | (cases h)
def Qzs {hp hp' : List Blk} {n : Nat} {vs : List V} (h : Qa8 vs = false) : vs.map (vw hp n) = vs.map (vw hp' n) := by
 apply Qe
 intro v hv
 exact Qrn n v (Qhm vs h v hv)
def Qwc {hp hp' : List Blk} {ag : Bool} {n : Nat} {x : V} (h : ∀ i ∈ fpV x,hp[i]? = hp'[i]?) : ldV hp ag n x = ldV hp' ag n x := by
 cases x <;> simp only [ldV]
 case ad id g off => rw [h id (by simp [fpV])]
def Qtw {hp hp' : List Blk} {es : Nat} {x i : V} (h : ∀ i ∈ fpV x,hp[i]? = hp'[i]?) : iadV hp es x i = iadV hp' es x i := by
 cases i <;> simp only [iadV]
 cases x <;> simp only
 case rf id g off len es' => rw [h id (by simp [fpV])]
def Qu2 {hp hp' : List Blk} {x : V} (h : ∀ i ∈ fpV x,hp[i]? = hp'[i]?) : lenV hp x = lenV hp' x := by
 cases x <;> simp only [lenV]
 case rf id g off len es' => rw [h id (by simp [fpV])]
def Qj6 {hp hp' : List Blk} {id g : Nat} (h : hp[id]? = hp'[id]?) : curG hp id g = curG hp' id g := by simp only [curG,h]
def Qz8 {Γ : Gam} {E : TypeId → Nat → Prop} {hp hp' : List Blk} {q : Q} {ρ ρ' : Od → V} (hρ : ∀ od ∈ q.ods,ρ od = ρ' od) (hh : ∀ r,fpQ hp q ρ = some r → ∀ i ∈ r,hp[i]? = hp'[i]?) (hn : fpQ hp q ρ = none → hp = hp') :
  qv Γ E hp q ρ = qv Γ E hp' q ρ' ∧ fpQ hp q ρ = fpQ hp' q ρ' := by
 have h1 : ∀ x xs,q.ods = x :: xs → ρ x = ρ' x := fun x xs h => hρ x (by simp [h])
 have h2 : ∀ x y xs,q.ods = x :: y :: xs → ρ y = ρ' y := fun x y xs h => hρ y (by simp [h])
 have h3 : ∀ x y z xs,q.ods = x :: y :: z :: xs → ρ z = ρ' z := fun x y z xs h => hρ z (by simp [h])
 cases q with
 | mv x => simp only [qv,fpQ,h1 x _ rfl,and_self]
 | bin op x y => simp only [qv,fpQ,h1 x _ rfl,h2 x y _ rfl,and_self]
 | bq ng x y => simp only [qv,fpQ,h1 x _ rfl,h2 x y _ rfl,and_self]
 | eqs ng t x y => simp only [qv,fpQ,h1 x _ rfl,h2 x y _ rfl,and_self]
 | not x => simp only [qv,fpQ,h1 x _ rfl,and_self]
 | neg x => simp only [qv,fpQ,h1 x _ rfl,and_self]
 | cvt x => simp only [qv,fpQ,h1 x _ rfl,and_self]
 | cvk k x => simp only [qv,fpQ,h1 x _ rfl,and_self]
 | ext x k => simp only [qv,fpQ,h1 x _ rfl,and_self]
 | fld ag n off x => simp only [qv,fpQ,h1 x _ rfl,and_self]
 | mn x y => simp only [qv,fpQ,h1 x _ rfl,h2 x y _ rfl,and_self]
 | mx x y => simp only [qv,fpQ,h1 x _ rfl,h2 x y _ rfl,and_self]
 | pick c x y => simp only [qv,fpQ,h1 c _ rfl,h2 c x _ rfl,h3 c x y _ rfl,and_self]
 | ld ag n x =>
  simp only [qv,fpQ,h1 x _ rfl,and_true]
  exact Qwc (by have := hh _ rfl; rwa [h1 x _ rfl] at this)
 | len x =>
  simp only [qv,fpQ,h1 x _ rfl,and_true]
  exact Qu2 (by have := hh _ rfl; rwa [h1 x _ rfl] at this)
 | iad es x i =>
  simp only [qv,fpQ,h1 x _ rfl,h2 x i _ rfl,and_true]
  exact Qtw (by have := hh _ rfl; rwa [h1 x _ rfl] at this)
 | iva n x i => simp only [qv,fpQ,h1 x _ rfl,h2 x i _ rfl,and_self]
 | iaa es n x i =>
  simp only [qv,fpQ,h1 x _ rfl,h2 x i _ rfl,and_true]
  have := hh _ rfl
  rw [h1 x _ rfl] at this
  cases hi : ρ' i <;> simp only
  cases hx : ρ' x <;> simp only
  case ad id g o => rw [Qj6 (this id (by simp [hx,fpV]))]
 | fad off x =>
  simp only [qv,fpQ,h1 x _ rfl,and_true]
  have := hh _ rfl
  rw [h1 x _ rfl] at this
  cases hx : ρ' x <;> simp only
  case ad id g o => rw [Qj6 (this id (by simp [hx,fpV]))]
 | nilc x =>
  simp only [qv,fpQ,h1 x _ rfl,and_true]
  have := hh _ rfl
  rw [h1 x _ rfl] at this
  cases hx : ρ' x <;> simp only
  case ad id g o => rw [Qj6 (this id (by simp [hx,fpV]))]
 | lkp zc ok kt sk m k =>
  simp only [qv,fpQ,h1 m _ rfl,h2 m k _ rfl,and_true]
  have := hh _ rfl
  rw [h1 m _ rfl] at this
  unfold lkpV
  cases hm : ρ' m <;> try rfl
  case pm st ks vs =>
   cases hk : keyL (ρ' k) <;> rfl
  case mp id g =>
   have := this id (by simp [hm,fpV])
   cases hk : keyL (ρ' k) with
   | none => rfl
   | some t => simp only [this]
 | mlen m =>
  simp only [qv,fpQ,h1 m _ rfl,and_true]
  have := hh _ rfl
  rw [h1 m _ rfl] at this
  unfold Qwk
  cases hm : ρ' m <;> try rfl
  case mp id g => simp only [this id (by simp [hm,fpV])]
 | ent x =>
  have := hn rfl
  subst this
  simp only [qv,fpQ,h1 x _ rfl,and_self]
 | mkf f caps =>
  have : caps.map ρ = caps.map ρ' := Qe fun x hx => hρ x (by simpa [Q.ods] using hx)
  simp only [qv,fpQ,this,and_self]
 | mkb f caps =>
  have : caps.map ρ = caps.map ρ' := Qe fun x hx => hρ x (by simpa [Q.ods] using hx)
  simp only [qv,fpQ,this,and_self]
 | bld zc ps =>
  have : ps.map (fun p => (p.1,p.2.1,ρ p.2.2)) = ps.map (fun p => (p.1,p.2.1,ρ' p.2.2)) := Qe fun p hp => by
   rw [hρ p.2.2 (by simp only [Q.ods,Q4]; exact ⟨p,hp,rfl⟩)]
  simp only [qv,fpQ,this,and_self]
 | slc es x lo hi =>
  have e1 : lo.map ρ = lo.map ρ' := by cases lo with | none => rfl | some y => simp [hρ y (by simp [Q.ods])]
  have e2 : hi.map ρ = hi.map ρ' := by cases hi with | none => rfl | some y => simp [hρ y (by simp [Q.ods])]
  simp only [qv,fpQ,h1 x _ rfl,e1,e2,and_true]
  have := hh _ rfl
  rw [h1 x _ rfl] at this
  cases hx : ρ' x <;> try rfl
  case rf id g off len es' => simp only [slcV,this id (by simp [hx,fpV])]
 | slx es x hi mx =>
  simp only [qv,fpQ,hρ x (by simp [Q.ods]),hρ hi (by simp [Q.ods]),hρ mx (by simp [Q.ods]),and_self]
 | box x =>
  have e := h1 x _ rfl
  simp only [qv,fpQ] at hh hn ⊢
  rw [e] at hh hn ⊢
  by_cases hr : Qan (ρ' x) = true
  ·have := hn (by simp [hr]); subst this; exact ⟨rfl,rfl⟩
  ·have hr' : Qan (ρ' x) = false := by simpa using hr
   rw [Qrn (hp := hp) (hp' := hp') 8 _ hr']
   exact ⟨rfl,rfl⟩
 | bsl es n zc ps =>
  have e0 : ps.map (fun p => ρ p.2.2) = ps.map (fun p => ρ' p.2.2) := Qe fun p hp => hρ p.2.2 (by simp only [Q.ods,Q4]; exact ⟨p,hp,rfl⟩)
  have e1 : ∀ p ∈ ps,ρ p.2.2 = ρ' p.2.2 := fun p hp => hρ p.2.2 (by simp only [Q.ods,Q4]; exact ⟨p,hp,rfl⟩)
  simp only [qv,fpQ] at hh hn ⊢
  rw [e0] at hh hn ⊢
  by_cases hr : Qa8 (ps.map fun p => ρ' p.2.2) = true
  ·have := hn (by simp [hr]); subst this
   have : ps.map (fun p => (p.1,p.2.1,vw hp 8 (ρ p.2.2))) = ps.map (fun p => (p.1,p.2.1,vw hp 8 (ρ' p.2.2))) := Qe fun p hp => by rw [e1 p hp]
   rw [this]; exact ⟨rfl,rfl⟩
  ·have hr' : Qa8 (ps.map fun p => ρ' p.2.2) = false := by simpa using hr
   have : ps.map (fun p => (p.1,p.2.1,vw hp 8 (ρ p.2.2))) = ps.map (fun p => (p.1,p.2.1,vw hp' 8 (ρ' p.2.2))) := Qe fun p hp => by
    rw [e1 p hp,Qrn 8 _ (Qhm _ hr' _ (Q4.2 ⟨p,hp,rfl⟩))]
   rw [this]; exact ⟨rfl,rfl⟩
 | call f xs =>
  have e0 := h1 f _ rfl
  have e1 : xs.map ρ = xs.map ρ' := Qe fun x hx => hρ x (by simp [Q.ods,hx])
  simp only [qv,fpQ,Qtk] at hh hn ⊢
  rw [e0,e1] at hh hn ⊢
  cases hf : ρ' f <;> simp only [and_self]
  case fn g caps =>
   simp only [hf] at hh hn
   have hl : ∀ v ∈ xs.map ρ' ++ caps,vw hp 8 v = vw hp' 8 v ∧ rdV hp 8 v = rdV hp' 8 v := fun v hv => Qze 8 v fun i hi => hh _ rfl i (Ze.2 ⟨v,hv,hi⟩)
   have h1 : (xs.map ρ' ++ caps).map (vw hp 8) = (xs.map ρ' ++ caps).map (vw hp' 8) := Qe fun v hv => (hl v hv).1
   have h2 : (xs.map ρ' ++ caps).flatMap (rdV hp 8) = (xs.map ρ' ++ caps).flatMap (rdV hp' 8) := by
    rw [Q6,Q6,Qe fun v hv => (hl v hv).2]
   rw [h1,h2]
   exact ⟨rfl,rfl⟩
def Qm2 {hp hp' : List Blk} {es : Nat} {y : V} (h : ∀ i ∈ fpV y,hp[i]? = hp'[i]?) : Qcb hp es y = Qcb hp' es y := by
 cases y <;> simp only [Qcb]
 case rf id g off len es' => rw [h id (by simp [fpV])]
def Qm0 : ∀ (l : List Od) (n : Nat),Od.t n ∈ l → n ∈ Qek l
 | [],_,h => by cases h
 | .t m :: l,n,h => by
  rcases Qr.1 h with h | h
  ·cases h; simp [Qek]
  ·simp [Qek,Qm0 l n h]
 | .k v :: l,n,h => by
  rcases Qr.1 h with h | h
  ·cases h
  ·simp [Qek,Qm0 l n h]
def Qm8 {g : Bool} {fr fr' : Nat → V} {l : List Od} (h : ∀ n ∈ Qek l,fr n = fr' n) : ∀ od ∈ l,opv g fr od = opv g fr' od := by
 intro od kW
 cases od with
 | k v => cases g <;> rfl
 | t n =>
  have := h n (Qm0 l n kW)
  cases g <;> simp only [opv,evO,this]
mutual
theorem Qt4 : ∀ v : V,Qan v = false → rids v = []
 | .u,_ | .b _,_ | .i _,_ | .z _,_ | .sl _ _,_ | .sx _ _,_ | .pa _,_ | .pn,_ | .yl _,_ | .w _ _,_ | .pm _ _ _,_ | .fb _ _,_ | .it _ _,_ => rfl
 | .ag cs,h | .tp cs,h => by simp only [Qan] at h; simp only [rids,Qgz cs h]
 | .fn _ cs,h => by simp only [Qan] at h; simp only [rids,Qgz cs h]
 | .gv _ v,h => by simp only [Qan] at h; simp only [rids,Qt4 v h]
 | .ad _ _ _,h | .rf _ _ _ _ _,h | .mp _ _,h => by simp [Qan] at h
theorem Qgz : ∀ vs : List V,Qa8 vs = false → Qe4 vs = []
 | [],_ => rfl
 | v :: vs,h => by
  simp only [Qa8,Qx] at h
  simp only [Qe4,Qt4 v h.1,Qgz vs h.2,Zg]
end
def Qi3 {Γ : Gam} {E : TypeId → Nat → Prop} {g : Bool} {base : Nat} {o : RO} {σ σ' : St} (xS : ∀ n ∈ o.reads,σ.fr n = σ'.fr n) (kZ : Quo (fpR Γ g base o σ) σ.hp σ'.hp) :
  eff Γ E g base o σ = eff Γ E g base o σ' ∧ fpR Γ g base o σ = fpR Γ g base o σ' := by
 have xG : ∀ n ∈ o.ts,σ.fr n = σ'.fr n := fun n hn => xS n (by simp [RO.reads,hn])
 have jW : ∀ s want,o.gd = some (s,want) → σ.fr s = σ'.fr s := fun s want h => xS s (by simp [RO.reads,h])
 have zO : (o.ts.all fun n => (ug (σ.fr n)).1) = (o.ts.all fun n => (ug (σ'.fr n)).1) := by
  rw [Zu,Qo,Qo]
  exact ⟨fun h n hn => by rw [← xG n hn]; exact h n hn,fun h n hn => by rw [xG n hn]; exact h n hn⟩
 cases hx : o.x with
 | q q =>
  have kW : ∀ od ∈ q.ods,∀ b : Bool,opv b σ.fr od = opv b σ'.fr od := fun od h b => Qm8 (fun n hn => xS n (by simp [RO.reads,hx,hn])) od h
  simp only [fpR,hx] at kZ ⊢
  obtain ⟨oR,oT,_⟩ := kZ
  obtain ⟨e1,e2⟩ := Qz8 (Γ := Γ) (E := E) (hp := σ.hp) (hp' := σ'.hp) (q := q) (ρ := opv g σ.fr) (ρ' := opv g σ'.fr) (fun od h => kW od h g) oT oR
  refine ⟨?_,by rw [e2]⟩
  simp only [eff,hx,Qh6]
  cases g with
  | false => simp only [e1]
  | true =>
   have dY : Qdf σ.fr o.gd = Qdf σ'.fr o.gd := by
    cases hg : o.gd with
    | none => rfl
    | some sw => obtain ⟨s,want⟩ := sw; simp only [Qdf,jW s want hg]
   have jK : Qm1 σ.fr o.ts q = Qm1 σ'.fr o.ts q := by
    cases q with
    | pick x y z =>
     have h0 : ∀ od ∈ [x,y,z],evO σ.fr od = evO σ'.fr od := fun od h => by have := kW od h false; simpa only [opv] using this
     simp only [Qm1]
     rw [h0 x (by simp),h0 y (by simp),h0 z (by simp)]
    | _ => simp only [Qm1,zO]
   simp only [e1,dY,jK]
 | w q =>
  have kW : ∀ od ∈ q.ods,opv g σ.fr od = opv g σ'.fr od := Qm8 (fun n hn => xS n (by simp [RO.reads,hx,hn]))
  have jK : Qbp g o σ.fr = Qbp g o σ'.fr := by cases g <;> simp only [Qbp,zO]
  simp only [eff,hx,fpR] at kZ ⊢
  cases q with
  | alc zc =>
   simp only [nv] at kZ ⊢
   cases hn : o.nid with
   | none => simp
   | some k =>
    have := kZ.2.2 (base + k) (by simp [hn])
    first | (simp only [jK,this,and_self]; done) | simp only [this,and_self]
  | bxo x =>
   have e := kW x (by simp [W.ods])
   simp only [nv,e] at kZ ⊢
   cases hn : o.nid with
   | none => simp
   | some k =>
    have := kZ.2.2 (base + k) (by simp [hn])
    first | (simp only [jK,this,and_self]; done) | simp only [this,and_self]
  | bso es n zc ps =>
   have e : ps.map (fun p => (p.1,p.2.1,opv g σ.fr p.2.2)) = ps.map (fun p => (p.1,p.2.1,opv g σ'.fr p.2.2)) := Qe fun p hp => by
    rw [kW p.2.2 (by simp only [W.ods,Q4]; exact ⟨p,hp,rfl⟩)]
   simp only [nv,e] at kZ ⊢
   cases hn : o.nid with
   | none => simp
   | some k =>
    have := kZ.2.2 (base + k) (by simp [hn])
    first | (simp only [jK,this,and_self]; done) | simp only [this,and_self]
  | mks es zc l c =>
   have e1 := kW l (by simp [W.ods])
   have e2 := kW c (by simp [W.ods])
   simp only [nv,sv,e1,e2,jK] at kZ ⊢
   cases opv g σ'.fr l <;> try (simp; done)
   cases opv g σ'.fr c <;> try (simp; done)
   cases hn : o.nid with
   | none => simp
   | some k =>
    have := kZ.2.2 (base + k) (by simp [hn])
    first | (simp only [jK,this,and_self]; done) | simp only [this,and_self]
  | st n a x =>
   have e1 := kW a (by simp [W.ods])
   have e2 := kW x (by simp [W.ods])
   simp only [nv,sv,e1,e2] at kZ ⊢
   refine ⟨?_,trivial⟩
   cases ha : opv g σ'.fr a <;> simp only [jK]
   case ad id g1 off =>
    have := kZ.2.2 id (by simp [ha,fpV])
    rw [this]
  | mup kt sk m k v =>
   have e1 := kW m (by simp [W.ods])
   have e2 := kW k (by simp [W.ods])
   have e3 := kW v (by simp [W.ods])
   simp only [nv,sv,e1,e2,e3] at kZ ⊢
   refine ⟨?_,trivial⟩
   cases ha : opv g σ'.fr m <;> simp only [jK]
   case mp id g1 =>
    have := kZ.2.2 id (by simp [ha,fpV])
    cases hk : keyL (opv g σ'.fr k) <;> simp only [this]
  | men kt sk zc m k =>
   have e1 := kW m (by simp [W.ods])
   have e2 := kW k (by simp [W.ods])
   simp only [nv,sv,e1,e2] at kZ ⊢
   refine ⟨?_,trivial⟩
   cases ha : opv g σ'.fr m <;> simp only [jK]
   case mp id g1 =>
    have := kZ.2.2 id (by simp [ha,fpV])
    cases hk : keyL (opv g σ'.fr k) <;> simp only [this]
  | mes m s v =>
   have e1 := kW m (by simp [W.ods])
   have e2 := kW s (by simp [W.ods])
   have e3 := kW v (by simp [W.ods])
   simp only [nv,sv,e1,e2,e3] at kZ ⊢
   refine ⟨?_,trivial⟩
   cases ha : opv g σ'.fr m <;> simp only [jK]
   case mp id g1 =>
    have := kZ.2.2 id (by simp [ha,fpV])
    cases hk : opv g σ'.fr s <;> simp only [this]
  | mkm st =>
   simp only [nv] at kZ ⊢
   cases hn : o.nid with
   | none => simp
   | some k =>
    have := kZ.2.2 (base + k) (by simp [hn])
    first | (simp only [jK,this,and_self]; done) | simp only [this,and_self]
  | rng x =>
   have e1 := kW x (by simp [W.ods])
   simp only [nv,sv,e1] at kZ ⊢
   cases ha : opv g σ'.fr x <;> simp only [jK,and_self]
   case mp id g1 =>
    have := kZ.2.1 _ rfl id (by simp [ha,fpV])
    rw [this]
    cases jF : σ'.hp[id]? with
    | none => simp only [and_self]
    | some b =>
     cases b <;> simp only [and_self]
     case map st ks vs =>
      cases hn : o.nid with
      | none => simp
      | some k =>
       have := kZ.2.2 (base + k) (by simp [hn])
       simp only [this,and_self]
  | cpy es x y =>
   have e1 := kW x (by simp [W.ods])
   have e2 := kW y (by simp [W.ods])
   simp only [nv,sv,e1,e2] at kZ ⊢
   refine ⟨?_,trivial⟩
   have kX : Qcb σ.hp es (opv g σ'.fr y) = Qcb σ'.hp es (opv g σ'.fr y) := Qm2 fun i hi => kZ.2.1 _ rfl i hi
   rw [kX]
   cases ha : opv g σ'.fr x <;> simp only [jK]
   case rf id g1 off len es' =>
    have := kZ.2.2 id (by simp [ha,fpV])
    cases Qcb σ'.hp es (opv g σ'.fr y) with
    | none => rfl
    | some t =>
     simp only
     rw [this]
  | app es bt x y =>
   have e1 := kW x (by simp [W.ods])
   have e2 := kW y (by simp [W.ods])
   simp only [nv,sv,e1,e2] at kZ ⊢
   refine ⟨?_,trivial⟩
   have hy : ∀ i ∈ fpV (opv g σ'.fr y),σ.hp[i]? = σ'.hp[i]? := by
    intro i hi
    cases uN : opv g σ'.fr x <;> simp only [uN] at kZ <;> exact kZ.2.1 _ rfl i hi
   have kX : Qcb σ.hp es (opv g σ'.fr y) = Qcb σ'.hp es (opv g σ'.fr y) := Qm2 hy
   rw [kX]
   cases uN : opv g σ'.fr x <;> simp only [uN,jK] at kZ ⊢
   case z e0 =>
    cases Qcb σ'.hp es (opv g σ'.fr y) with
    | none => rfl
    | some t =>
     cases hn : o.nid with
     | none => simp
     | some k =>
      have := kZ.2.2 (base + k) (by simp [hn])
      simp only [this]
   case sx es1 rows1 =>
    cases Qcb σ'.hp es (opv g σ'.fr y) with
    | none => rfl
    | some t =>
     cases hn : o.nid with
     | none => simp
     | some k =>
      have := kZ.2.2 (base + k) (by simp [hn])
      simp only [this]
   case rf id g1 off len es' =>
    have := kZ.2.2 id (by simp)
    cases Qcb σ'.hp es (opv g σ'.fr y) with
    | none => rfl
    | some t =>
     simp only
     rw [this]
 | o f xs =>
  have kW : ∀ od ∈ f :: xs,opv g σ.fr od = opv g σ'.fr od := Qm8 (fun n hn => xS n (by simp [RO.reads,hx,hn]))
  have jK : Qbp g o σ.fr = Qbp g o σ'.fr := by cases g <;> simp only [Qbp,zO]
  have e0 := kW f (by simp)
  have e1 : xs.map (opv g σ.fr) = xs.map (opv g σ'.fr) := Qe fun x h => kW x (by simp [h])
  simp only [fpR,hx,e0,e1] at kZ ⊢
  simp only [eff,hx,effO,e0,e1,jK]
  cases hf : opv g σ'.fr f <;> simp only [hf] at kZ ⊢ <;> try (first | (exact ⟨trivial,trivial⟩) | (simp; done))
  rename_i k caps
  cases hr : Qa8 (xs.map (opv g σ'.fr) ++ caps) with
  | true =>
   have hh : σ.hp = σ'.hp := kZ.1 (by simp [hr])
   simp only [hh,and_self]
  | false =>
   have ev : ((xs.map (opv g σ'.fr) ++ caps).map (vw σ.hp 8)) = ((xs.map (opv g σ'.fr) ++ caps).map (vw σ'.hp 8)) := Qzs hr
   have oU : Qe4 (xs.map (opv g σ'.fr) ++ caps) = [] := Qgz _ hr
   simp only [ev,Bool.false_and]
   refine ⟨?_,by simp⟩
   split
   ·rename_i ok r bs hΓ
    cases hn : o.nid with
    | none => rfl
    | some j =>
     have hw := kZ.2.2
     simp only [ev,hΓ,hn] at hw
     have : Qfp σ.hp (base + j) bs.length = Qfp σ'.hp (base + j) bs.length := by
      have e : ∀ i,i < bs.length → σ.hp[base + j + i]? = σ'.hp[base + j + i]? := fun i hi => hw (base + j + i) (by simp only [Ql,Qol]; omega)
      rw [Zu]
      exact ⟨fun h => Qi8 fun i hi => by rw [← e i hi]; exact Qdh h i hi,fun h => Qi8 fun i hi => by rw [e i hi]; exact Qdh h i hi⟩
     simp only [this]
   ·rfl
end Go.Fam
namespace Go.Fam
variable {S : Nat → Prop} {w : World} {O : OInfo} {hp : List Blk}
section
variable {Γ : Gam} {E : TypeId → Nat → Prop} {g : Bool} {base : Nat}
mutual
theorem Qis (n : Nat) : ∀ v : V,Qan v = false → shV n v = v
 | .u,_ | .b _,_ | .i _,_ | .z _,_ | .sl _ _,_ | .sx _ _,_ | .pa _,_ | .pn,_ | .yl _,_ | .w _ _,_ | .pm _ _ _,_ | .fb _ _,_ => by simp [shV]
 | .ag cs,h | .tp cs,h => by simp only [Qan] at h; simp only [shV,Qda n cs h]
 | .fn _ cs,h => by simp only [Qan] at h; simp only [shV,Qda n cs h]
 | .gv _ v,h => by simp only [Qan] at h; simp only [shV,Qis n v h]
 | .ad _ _ _,h | .rf _ _ _ _ _,h | .mp _ _,h | .it _ _,h => by simp [Qan] at h
theorem Qda (n : Nat) : ∀ vs : List V,Qa8 vs = false → shL n vs = vs
 | [],_ => rfl
 | v :: vs,h => by
  simp only [Qa8,Qx] at h
  simp only [shL,Qis n v h.1,Qda n vs h.2]
end
def Qk6 : ∀ (a b : List (Nat × Blk)) (hp : List Blk),Qbf hp (a ++ b) = Qbf (Qbf hp a) b
 | [],_,_ => rfl
 | x :: a,b,hp => by simp only [Zf,Qbf,Qk6 a b]
def Qoy : ∀ (l : List Blk) (hp : List Blk) (q : Nat),Qbf hp (Qox q l) = Qow hp q l
 | [],_,_ => rfl
 | b :: l,hp,q => by simp only [Qox,Qbf,Qow,Qoy l]
def Qhd : ∀ (L : List Nat) (hp gW : List Blk) (j : Nat),(∀ id ∈ L,id < hp.length) → (Qbf hp (Qmu gW L))[j]? = if j ∈ L then some (Qjm (gW[j]?.getD .hole)) else hp[j]?
 | [],hp,gW,j,_ => by simp [Qmu,Qbf]
 | id :: L,hp,gW,j,h => by
  simp only [Qmu,Qbf]
  rw [Qhd L _ gW j (fun x hx => by rw [List.length_set]; exact h x (by simp [hx]))]
  by_cases hj : j ∈ L
  ·simp [hj]
  ·rw [if_neg hj]
   by_cases he : j = id
   ·subst he
    rw [Qk (h j (by simp)),if_pos (by simp)]
   ·rw [Qh (Ne.symm he),if_neg (by simp [he,hj])]
def Qpt (L : List Nat) (h : L.all (Qid hp) = true) : Qbf hp (Qmu hp L) = L.foldl Qh2 hp := by
 have hlt : ∀ id ∈ L,id < hp.length := fun id jF => by
  have := Qo.1 h id jF
  unfold Qid at this
  split at this
  ·rename_i hb; exact Qag hb
  ·rename_i hb; exact Qag hb
  ·cases this
 apply List.ext_getElem?
 intro j
 rw [Qhd L hp hp j hlt,Qg8]
 by_cases hj : j ∈ L
 ·rw [if_pos hj,if_pos hj,List.getElem?_eq_getElem (hlt j hj)]
  rfl
 ·rw [if_neg hj,if_neg hj]
def Qo4 {o : RO} {σ : St} (h : (eff Γ E g base o σ).1) : (step Γ E g base o σ).1 ∧ (step Γ E g base o σ).2 = Qaw Γ E g base o σ := by
 unfold eff at h
 unfold step Qaw eff
 cases hx : o.x with
 | q q => simp only [hx] at h ⊢; exact ⟨h,rfl⟩
 | w q =>
  simp only [hx] at h ⊢
  unfold Qmx
  cases xO : nv σ.hp q (opv g σ.fr) with
  | some t =>
   obtain ⟨ok,b,mk⟩ := t
   simp only [xO] at h ⊢
   cases hn : o.nid with
   | none => simp [hn] at h
   | some k => simp only [hn] at h ⊢; exact ⟨h,rfl⟩
  | none =>
   simp only [xO] at h ⊢
   refine ⟨h,?_⟩
   cases (sv E σ.hp q (opv g σ.fr)).2.2 <;> rfl
 | o f xs =>
  simp only [hx] at h ⊢
  unfold effO at h ⊢
  unfold Qrl ocV
  cases hf : opv g σ.fr f <;> simp only [hf] at h ⊢
  rename_i k caps
  split at h
  ·rename_i ok r bs hΓ
   try simp only [hΓ]
   cases hn : o.nid with
   | none =>
    simp only [hn] at h ⊢
    split at h
    ·rename_i hb
     obtain ⟨h1,h2,h3,rfl,h5⟩ := h
     simp only [Qp] at hb
     simp only [Qp,hb,nidQ,plO,plQ,plB,Qp,Zg,Qis _ _ h5,Qbf,and_true]
     exact ⟨h1,h2,h3⟩
    ·rename_i hb
     obtain ⟨h1,h2,h3,h4,rfl,h5⟩ := h
     simp only [Qp] at hb
     simp only [Qp,hb,nidQ,plO,plQ,plB,Qp,Zg,Qis _ _ h5,Qpt _ h4,and_true]
     exact ⟨h1,h2,h3,h4⟩
   | some j =>
    simp only [hn] at h ⊢
    split at h
    ·rename_i hb
     obtain ⟨h1,h2,h3,h4⟩ := h
     simp only [hb,nidQ,plO,plQ,plB,Qoy]
     exact ⟨⟨h1,h2,h3,h4⟩,trivial⟩
    ·rename_i hb
     obtain ⟨h1,h2,h3,h4,h5⟩ := h
     simp only [hb,nidQ,plO,plQ,plB,Qk6,Qpt _ h4,Qoy]
     exact ⟨⟨h1,h2,h3,h4,h5⟩,trivial⟩
  ·exact h.elim
def Zqa {Γ : Gam} {q : W} {fr : Nat → V} {id : Nat} {b : Blk} {o : RO} (hx : o.x = .w q) {σ : St} (hσ : σ.fr = fr) (h : (sv E hp q (opv g fr)).2.2 = some (id,b)) : id ∈ (fpR Γ g base o σ).wr := by
 unfold fpR
 subst hσ
 simp only [hx]
 cases q <;> simp only [sv] at h ⊢ <;> try (cases h; done)
 case app es bt x y =>
  split at h
  ·rename_i id' g1 off len es' vs n uN kX
   simp only [uN]
   split at h
   ·simp only [Qb.injEq,Prod.mk.injEq] at h; simp [h.1]
   ·cases h
  ·cases h
 all_goals
  split at h
  ·rename_i uN
   try simp only [uN]
   split at h
   ·simp only [Qb.injEq,Prod.mk.injEq] at h; simp_all [fpV]
   ·cases h
  ·cases h
def Qlq {id : Nat} {b : Blk} : ∀ {L : List Nat},(id,b) ∈ Qmu hp L → id ∈ L
 | [],h => by cases h
 | x :: L,h => by
  rcases Qr.1 h with h | h
  ·cases h; simp
  ·simp [Qlq h]
def Qqb {id : Nat} {b : Blk} : ∀ {l : List Blk} {q : Nat},(id,b) ∈ Qox q l → q ≤ id ∧ id < q + l.length
 | [],_,h => by cases h
 | x :: l,q,h => by
  rcases Qr.1 h with h | h
  ·cases h; simp
  ·have := Qqb h; simp only [Q5]; omega
def Qs4 {o : RO} {σ : St} {id : Nat} {b : Blk} (h : (id,b) ∈ (eff Γ E g base o σ).2.2) : id ∈ (fpR Γ g base o σ).wr := by
 unfold eff at h
 cases hx : o.x with
 | q q => simp [hx] at h
 | o f xs =>
  simp only [hx,effO] at h
  unfold fpR
  simp only [hx]
  cases hf : opv g σ.fr f <;> simp only [hf] at h ⊢ <;> try (cases h; done)
  rename_i k caps
  rw [Ql]
  split at h
  ·rename_i ok r bs hΓ
   have kU : ∀ j,(id,b) ∈ Qox (base + j) ((bs.map vB).map (shB (base + j))) → id ∈ upTo (base + j) bs.length := fun j h => by
    have := Qqb h
    simp only [List.length_map] at this
    rw [Qol]
    omega
   cases hn : o.nid with
   | none =>
    simp only [hn] at h
    split at h
    ·cases h
    ·exact .inl (Qlq h)
   | some j =>
    simp only [hn] at h
    simp only [hΓ]
    split at h
    ·exact .inr (kU j h)
    ·rcases Ql.1 h with h | h
     ·exact .inl (Qlq h)
     ·exact .inr (kU j h)
  ·cases h
 | w q =>
  simp only [hx] at h
  cases xO : nv σ.hp q (opv g σ.fr) with
  | some t =>
   obtain ⟨ok,vs,mk⟩ := t
   simp only [xO] at h
   cases hn : o.nid with
   | none => simp [hn] at h
   | some k =>
    simp only [hn,Zb,Prod.mk.injEq] at h
    obtain ⟨rfl,_⟩ := h
    unfold fpR
    simp only [hx]
    cases q <;> simp only [nv] at xO <;> try (simp [hn]; done)
    case st => cases xO
    case mup => cases xO
    case men => cases xO
    case mes => cases xO
    case cpy => cases xO
    case app es bt x y =>
     cases uN : opv g σ.fr x <;> simp only [uN] at xO ⊢ <;> first | (simp [hn]; done) | (cases xO)
  | none =>
   simp only [xO] at h
   refine Zqa (E := E) (hp := σ.hp) (b := b) hx rfl ?_
   cases hs : (sv E σ.hp q (opv g σ.fr)).2.2 with
   | none => rw [hs] at h; cases h
   | some y => rw [hs] at h; simp only [optL,Zb] at h; rw [h]
def Zi6 {o : RO} {σ : St} {y : List V × Option (List (List V))} (jA : (eff Γ E g base o σ).1) (h : ghO σ.hp = some y) : ghO (Qaw Γ E g base o σ).hp = some y := by
 obtain ⟨h1,h2⟩ := Qo4 jA
 rw [← h2]
 exact Qmm h1 h
def Qtd {fr : Nat → V} {d : Option Nat} {v : V} {t : Nat} (h : d ≠ some t) : upd fr d v t = fr t := by
 cases d with
 | none => rfl
 | some d => simp only [upd]; rw [if_neg]; rintro rfl; exact h rfl
def Qtc {fr : Nat → V} {d e : Option Nat} {v v' : V} (h : ∀ x,d = some x → e ≠ some x) : upd (upd fr d v) e v' = upd (upd fr e v') d v := by
 funext t
 cases d with
 | none => rfl
 | some d =>
  cases e with
  | none => rfl
  | some e =>
   simp only [upd]
   have := h d rfl
   by_cases h1 : t = e
   ·subst h1
    rw [if_pos rfl,if_neg (by rintro rfl; exact this rfl),if_pos rfl]
   ·rw [if_neg h1]
    by_cases h2 : t = d
    ·simp [h2]
    ·simp [h1,h2]
def Qor : ∀ {l : List (Nat × Blk)} {hp : List Blk} {i : Nat},(∀ id b,(id,b) ∈ l → id ≠ i) → (Qbf hp l)[i]? = hp[i]?
 | [],_,_,_ => rfl
 | (id,b) :: l,hp,i,h => by
  rw [Qbf,Qor fun id' b' h' => h id' b' (by simp [h'])]
  exact Qh (h id b (by simp))
def Qq4 : ∀ {l : List (Nat × Blk)} {hp : List Blk} {id : Nat} {b : Blk},(∀ id' b',(id',b') ∈ l → id ≠ id') → Qbf (hp.set id b) l = (Qbf hp l).set id b
 | [],_,_,_,_ => rfl
 | (id',b') :: l,hp,id,b,h => by
  rw [Qbf,Qbf]
  show Qbf ((hp.set id b).set id' b') l = (Qbf (hp.set id' b') l).set id b
  rw [List.set_comm _ _ (h id' b' (by simp)),Qq4 fun x y hx => h x y (by simp [hx])]
def Qnp : ∀ {x y : List (Nat × Blk)} {hp : List Blk},(∀ id b id' b',(id,b) ∈ x → (id',b') ∈ y → id ≠ id') → Qbf (Qbf hp x) y = Qbf (Qbf hp y) x
 | [],_,_,_ => rfl
 | (id,b) :: x,y,hp,h => by
  rw [Qbf,Qbf]
  show Qbf (Qbf (hp.set id b) x) y = Qbf ((Qbf hp y).set id b) x
  rw [Qnp fun a b c d ha hc => h a b c d (by simp [ha]) hc,Qq4 fun c d hc => h id b c d (by simp) hc]
def Ql0 {a b : RO} (h : Qn2 a b = true) : (∀ d,a.dst = some d → d ∉ b.reads ∧ b.dst ≠ some d) ∧ (∀ d,b.dst = some d → d ∉ a.reads) := by
 simp only [Qn2,Qt] at h
 refine ⟨fun d hd => ?_,fun d hd => ?_⟩
 ·have := h.1; rw [hd] at this; simpa using this
 ·have := h.2; rw [hd] at this; simpa using this
def Qhw {fa fb : FP} {x : List (Nat × Blk)} (hw : ∀ id b,(id,b) ∈ x → id ∈ fa.wr) (h : hits fa.wr fb = false) : Quo fb hp (Qbf hp x) := by
 cases iA : x with
 | nil => exact ⟨fun _ => rfl,fun _ _ _ _ => rfl,fun _ _ => rfl⟩
 | cons ib l =>
  rw [← iA]
  obtain ⟨id,b⟩ := ib
  have jF := hw id b (by rw [iA]; simp)
  have j7 : fa.wr.isEmpty = false := by cases hf : fa.wr with | nil => rw [hf] at jF; cases jF | cons _ _ => rfl
  simp only [hits,j7,Zx,Zj] at h
  cases hr : fb.rd with
  | none => simp [hr] at h
  | some r =>
   simp only [hr] at h
   have jX : ∀ id b,(id,b) ∈ x → r.contains id = false ∧ fb.wr.contains id = false := fun id b hm => by
    have := Zo.1 h id (hw id b hm)
    simpa using this
   refine ⟨fun h' => (by rw [hr] at h'; cases h'),fun r' hr' i hi => ?_,fun i hi => ?_⟩
   ·have zL : r = r' := by rw [hr] at hr'; exact Qb.inj hr'
    subst zL
    refine (Qor ?_).symm
    rintro id' b' h' rfl
    have := (jX _ _ h').1
    simp at this
    exact this hi
   ·refine (Qor ?_).symm
    rintro id' b' h' rfl
    have := (jX _ _ h').2
    simp at this
    exact this hi
def swap {a b : RO} {σ : St} (uD : Qn2 a b = true) (ha : (eff Γ E g base a σ).1) (hb : (eff Γ E g base b (Qaw Γ E g base a σ)).1)
  (hd : Qmr (fpR Γ g base a σ) (fpR Γ g base b (Qaw Γ E g base a σ)) = true) :
  (eff Γ E g base b σ).1 ∧ fpR Γ g base b σ = fpR Γ g base b (Qaw Γ E g base a σ) ∧ (eff Γ E g base a (Qaw Γ E g base b σ)).1 ∧
   fpR Γ g base a (Qaw Γ E g base b σ) = fpR Γ g base a σ ∧ Qaw Γ E g base a (Qaw Γ E g base b σ) = Qaw Γ E g base b (Qaw Γ E g base a σ) := by
 obtain ⟨h1,h2⟩ := Ql0 uD
 simp only [Qmr,Qt,Bool.not_eq_true'] at hd
 have r1 : ∀ n ∈ b.reads,(Qaw Γ E g base a σ).fr n = σ.fr n := fun n hn => by
  simp only [Qaw]
  exact Qtd fun h => (h1 n h).1 hn
 have e1 := Qi3 (Γ := Γ) (E := E) (g := g) (base := base) (o := b) (σ := Qaw Γ E g base a σ) (σ' := σ) r1 (by
  have := Qhw (fa := fpR Γ g base a σ) (fb := fpR Γ g base b (Qaw Γ E g base a σ)) (hp := σ.hp) (x := (eff Γ E g base a σ).2.2) (fun id b h => Qs4 h) hd.1
  simp only [Qaw] at this ⊢
  exact ⟨fun h => (this.1 h).symm,fun r hr i hi => (this.2.1 r hr i hi).symm,fun i hi => (this.2.2 i hi).symm⟩)
 have r2 : ∀ n ∈ a.reads,σ.fr n = (Qaw Γ E g base b σ).fr n := fun n hn => by
  simp only [Qaw]
  exact (Qtd fun h => h2 n h hn).symm
 have e2 := Qi3 (Γ := Γ) (E := E) (g := g) (base := base) (o := a) (σ := σ) (σ' := Qaw Γ E g base b σ) r2 (by
  have hw : ∀ id b',(id,b') ∈ (eff Γ E g base b σ).2.2 → id ∈ (fpR Γ g base b (Qaw Γ E g base a σ)).wr := fun id b' h => by rw [e1.2]; exact Qs4 h
  have := Qhw (fa := fpR Γ g base b (Qaw Γ E g base a σ)) (fb := fpR Γ g base a σ) (hp := σ.hp) (x := (eff Γ E g base b σ).2.2) hw hd.2
  simpa only [Qaw] using this)
 refine ⟨by rw [← e1.1]; exact hb,e1.2.symm,by rw [← e2.1]; exact ha,e2.2.symm,?_⟩
 have hx : Qaw Γ E g base a (Qaw Γ E g base b σ) = ⟨upd (upd σ.fr b.dst (eff Γ E g base b σ).2.1) a.dst (eff Γ E g base a σ).2.1,Qbf (Qbf σ.hp (eff Γ E g base b σ).2.2) (eff Γ E g base a σ).2.2⟩ := by
  show (⟨upd (Qaw Γ E g base b σ).fr a.dst (eff Γ E g base a (Qaw Γ E g base b σ)).2.1,Qbf (Qaw Γ E g base b σ).hp (eff Γ E g base a (Qaw Γ E g base b σ)).2.2⟩ : St) = _
  rw [← e2.1]
  rfl
 have hy : Qaw Γ E g base b (Qaw Γ E g base a σ) = ⟨upd (upd σ.fr a.dst (eff Γ E g base a σ).2.1) b.dst (eff Γ E g base b σ).2.1,Qbf (Qbf σ.hp (eff Γ E g base a σ).2.2) (eff Γ E g base b σ).2.2⟩ := by
  show (⟨upd (Qaw Γ E g base a σ).fr b.dst (eff Γ E g base b (Qaw Γ E g base a σ)).2.1,Qbf (Qaw Γ E g base a σ).hp (eff Γ E g base b (Qaw Γ E g base a σ)).2.2⟩ : St) = _
  rw [e1.1]
  rfl
 rw [hx,hy]
 congr 1
 ·exact (Qtc fun x hx' => (h1 x hx').2).symm
 ·refine Qnp fun id bb id' bb' hx' hy' => ?_
  have w1 := Qs4 hx'
  have w2 := Qs4 hy'
  rw [← e1.2] at w1
  have j7 : (fpR Γ g base a σ).wr.isEmpty = false := by cases hf : (fpR Γ g base a σ).wr with | nil => rw [hf] at w2; cases w2 | cons _ _ => rfl
  have := hd.1
  simp only [hits,j7,Zx,Zj] at this
  cases hr : (fpR Γ g base b (Qaw Γ E g base a σ)).rd with
  | none => simp [hr] at this
  | some r =>
   simp only [hr] at this
   have h3 := Zo.1 this id' w2
   simp at h3
   rintro rfl
   exact h3.2 w1
def lkmB (a b : RO) : Bool := match a.x,b.x with
 | .q (.lkp (.i z) false kt sk (.t m) (.t k)),.w (.men kt' sk' (.i z') (.t m') (.t k')) => z == z' && (kt == kt' && (sk == sk' && (m == m' && k == k')))
 | _,_ => false
def Qwg {a b : RO} (h : lkmB a b = true) : ∃ z kt sk m k,a.x = .q (.lkp (.i z) false kt sk (.t m) (.t k)) ∧ b.x = .w (.men kt sk (.i z) (.t m) (.t k)) := by
 unfold lkmB at h
 split at h
 ·rename_i z kt sk m k kt' sk' z' m' k' h1 h2
  simp only [Qt,beq_iff_eq] at h
  obtain ⟨rfl,rfl,rfl,rfl,rfl⟩ := h
  exact ⟨_,_,_,_,_,h1,h2⟩
 ·cases h
def Qyv {z : Int} {kt : TypeId} {sk : Bool} {m k : Od} {ρ : Od → V} (h : (sv E hp (.men kt sk (.i z) m k) ρ).1) :
  lkpV E (putB hp (sv E hp (.men kt sk (.i z) m k) ρ).2.2) (.i z) false kt sk (ρ m) (ρ k) = lkpV E hp (.i z) false kt sk (ρ m) (ρ k) := by
 simp only [sv] at h ⊢
 unfold lkpV
 cases hm : ρ m <;> simp only [hm] at h ⊢
 rename_i id g
 cases hk : keyL (ρ k) with
 | none => simp [hk] at h
 | some t =>
  obtain ⟨s,l⟩ := t
  simp only [hk] at h ⊢
  cases hb : hp[id]? with
  | none => simp [hb] at h
  | some b =>
   cases b <;> simp only [hb] at h ⊢
   rename_i st ks vs
   obtain ⟨hg,hs,jN,jV⟩ := h
   simp only [putB,Qk (Qag hb)]
   have dZ : sk = true → E kt l.length ∧ ∀ k ∈ putK ks l,k.length = l.length := fun e => ⟨(jV e).1,fun k hk => by
    unfold putK at hk
    split at hk
    ·exact (jV e).2 k hk
    ·rcases Ql.1 hk with hk | hk
     ·exact (jV e).2 k hk
     ·rw [Zb] at hk; rw [hk]⟩
   congr 1
   ·exact propext ⟨fun _ => ⟨hg,hs,jN,jV⟩,fun _ => ⟨hg,hs,jN,dZ⟩⟩
   ·simp only [Bool.false_eq_true,if_false]
    unfold putK
    by_cases hl : l ∈ ks
    ·rw [if_pos hl,if_pos hl]
    ·rw [if_neg hl,if_neg hl]
     have e1 : (ks ++ [l]).idxOf l = ks.length := by rw [List.idxOf_append,if_neg hl]; simp
     rw [e1,Zi hl]
     rcases Nat.lt_trichotomy ks.length vs.length with h1 | h1 | h1
     ·rw [Qu h1]
     ·rw [Q9 (by omega),h1,Nat.sub_self,Qq (Qf _)]; rfl
     ·rw [Qq (by simp; omega),Qq (by omega)]
def Qzp {a b : RO} {σ : St} (uD : Qn2 a b = true) (ha : (eff Γ E g base a σ).1) (hb : (eff Γ E g base b (Qaw Γ E g base a σ)).1)
  (hl : lkmB a b = true) :
  (eff Γ E g base b σ).1 ∧ fpR Γ g base b σ = fpR Γ g base b (Qaw Γ E g base a σ) ∧ (eff Γ E g base a (Qaw Γ E g base b σ)).1 ∧
   fpR Γ g base a (Qaw Γ E g base b σ) = fpR Γ g base a σ ∧ Qaw Γ E g base a (Qaw Γ E g base b σ) = Qaw Γ E g base b (Qaw Γ E g base a σ) := by
 obtain ⟨h1,h2⟩ := Ql0 uD
 obtain ⟨z,kt,sk,m,k,qB,mY⟩ := Qwg hl
 have ea : ∀ σ : St,(eff Γ E g base a σ).2.2 = [] := fun σ => by unfold eff; rw [qB]
 have oX : (Qaw Γ E g base a σ).hp = σ.hp := by simp only [Qaw,ea]; rfl
 have r1 : ∀ n ∈ b.reads,(Qaw Γ E g base a σ).fr n = σ.fr n := fun n hn => by
  simp only [Qaw]
  exact Qtd fun h => (h1 n h).1 hn
 have e1 := Qi3 (Γ := Γ) (E := E) (g := g) (base := base) (o := b) (σ := Qaw Γ E g base a σ) (σ' := σ) r1 (by rw [oX]; exact ⟨fun _ => rfl,fun _ _ _ _ => rfl,fun _ _ => rfl⟩)
 have hb' : (eff Γ E g base b σ).1 := by rw [← e1.1]; exact hb
 have r2 : ∀ n ∈ a.reads,σ.fr n = (Qaw Γ E g base b σ).fr n := fun n hn => by
  simp only [Qaw]
  exact (Qtd fun h => h2 n h hn).symm
 have e2 := Qi3 (Γ := Γ) (E := E) (g := g) (base := base) (o := a) (σ := σ) (σ' := ⟨(Qaw Γ E g base b σ).fr,σ.hp⟩) r2 ⟨fun _ => rfl,fun _ _ _ _ => rfl,fun _ _ => rfl⟩
 have xO : ∀ σ : St,nv σ.hp (.men kt sk (.i z) (.t m) (.t k)) (opv g σ.fr) = none := fun σ => rfl
 have cO : (sv E σ.hp (.men kt sk (.i z) (.t m) (.t k)) (opv g σ.fr)).1 := by
  have := hb'
  unfold eff at this
  rw [mY] at this
  simp only [xO] at this
  exact this.2
 have zG : (Qaw Γ E g base b σ).hp = putB σ.hp (sv E σ.hp (.men kt sk (.i z) (.t m) (.t k)) (opv g σ.fr)).2.2 := by
  simp only [Qaw]
  unfold eff
  rw [mY]
  simp only [xO]
  cases (sv E σ.hp (.men kt sk (.i z) (.t m) (.t k)) (opv g σ.fr)).2.2 <;> rfl
 have d6 : opv g (Qaw Γ E g base b σ).fr (.t m) = opv g σ.fr (.t m) ∧ opv g (Qaw Γ E g base b σ).fr (.t k) = opv g σ.fr (.t k) := by
  have k1 := r2 m (by simp [RO.reads,qB,Q.ods,Qek])
  have k2 := r2 k (by simp [RO.reads,qB,Q.ods,Qek])
  cases g <;> simp only [opv,evO,← k1,← k2] <;> exact ⟨trivial,trivial⟩
 have hq : ∀ fr',qv Γ E (Qaw Γ E g base b σ).hp (.lkp (.i z) false kt sk (.t m) (.t k)) fr' = qv Γ E σ.hp (.lkp (.i z) false kt sk (.t m) (.t k)) fr' ∨ fr' (.t m) ≠ opv g σ.fr (.t m) ∨ fr' (.t k) ≠ opv g σ.fr (.t k) := by
  intro fr'
  by_cases c1 : fr' (.t m) = opv g σ.fr (.t m)
  ·by_cases c2 : fr' (.t k) = opv g σ.fr (.t k)
   ·left
    simp only [qv]
    rw [c1,c2,zG]
    exact Qyv cO
   ·exact .inr (.inr c2)
  ·exact .inr (.inl c1)
 have hq' : qv Γ E (Qaw Γ E g base b σ).hp (.lkp (.i z) false kt sk (.t m) (.t k)) (opv g (Qaw Γ E g base b σ).fr) = qv Γ E σ.hp (.lkp (.i z) false kt sk (.t m) (.t k)) (opv g (Qaw Γ E g base b σ).fr) := by
  rcases hq (opv g (Qaw Γ E g base b σ).fr) with h | h | h
  ·exact h
  ·exact absurd d6.1 h
  ·exact absurd d6.2 h
 have e3 : eff Γ E g base a (Qaw Γ E g base b σ) = eff Γ E g base a ⟨(Qaw Γ E g base b σ).fr,σ.hp⟩ := by
  unfold eff
  rw [qB]
  simp only [Qh6]
  cases g with
  | false => simp only [hq']
  | true => simp only [hq']
 have e4 : fpR Γ g base a (Qaw Γ E g base b σ) = fpR Γ g base a ⟨(Qaw Γ E g base b σ).fr,σ.hp⟩ := by
  unfold fpR
  rw [qB]; rfl
 have e5 := e3.trans e2.1.symm
 refine ⟨hb',e1.2.symm,by rw [e5]; exact ha,e4.trans e2.2.symm,?_⟩
 have hx : Qaw Γ E g base a (Qaw Γ E g base b σ) = ⟨upd (upd σ.fr b.dst (eff Γ E g base b σ).2.1) a.dst (eff Γ E g base a σ).2.1,Qbf (Qbf σ.hp (eff Γ E g base b σ).2.2) (eff Γ E g base a σ).2.2⟩ := by
  show (⟨upd (Qaw Γ E g base b σ).fr a.dst (eff Γ E g base a (Qaw Γ E g base b σ)).2.1,Qbf (Qaw Γ E g base b σ).hp (eff Γ E g base a (Qaw Γ E g base b σ)).2.2⟩ : St) = _
  rw [e5]
  rfl
 have hy : Qaw Γ E g base b (Qaw Γ E g base a σ) = ⟨upd (upd σ.fr a.dst (eff Γ E g base a σ).2.1) b.dst (eff Γ E g base b σ).2.1,Qbf (Qbf σ.hp (eff Γ E g base a σ).2.2) (eff Γ E g base b σ).2.2⟩ := by
  show (⟨upd (Qaw Γ E g base a σ).fr b.dst (eff Γ E g base b (Qaw Γ E g base a σ)).2.1,Qbf (Qaw Γ E g base a σ).hp (eff Γ E g base b (Qaw Γ E g base a σ)).2.2⟩ : St) = _
  rw [e1.1]
  rfl
 rw [hx,hy]
 congr 1
 ·exact (Qtc fun x hx' => (h1 x hx').2).symm
 ·rw [ea σ]; rfl
def RunD (Γ : Gam) (E : TypeId → Nat → Prop) (g : Bool) (base : Nat) : List (Nat × RO × FP) → St → St → Prop
 | [],σ,τ => σ = τ
 | (_,o,f) :: l,σ,τ => (eff Γ E g base o σ).1 ∧ fpR Γ g base o σ = f ∧ RunD Γ E g base l (Qaw Γ E g base o σ) τ
def Qp5 (x y : Nat × RO × FP) : Prop := Qn2 x.2.1 y.2.1 = true ∧ (Qmr x.2.2 y.2.2 = true ∨ lkmB x.2.1 y.2.1 = true)
def RunD.move {x : Nat × RO × FP} {B : List (Nat × RO × FP)} {τ : St} : ∀ (A : List (Nat × RO × FP)) (σ : St),RunD Γ E g base (A ++ x :: B) σ τ → (∀ a ∈ A,Qp5 a x) → RunD Γ E g base (x :: (A ++ B)) σ τ
 | [],σ,h,_ => h
 | (k,a,f) :: A,σ,h,hi => by
  obtain ⟨j,o,f'⟩ := x
  simp only [Zf,RunD] at h
  obtain ⟨h1,h2,h3⟩ := h
  have ih := RunD.move A _ h3 fun a ha => hi a (by simp [ha])
  simp only [RunD] at ih ⊢
  obtain ⟨i1,i2,i3⟩ := ih
  have i8 := hi (k,a,f) (by simp)
  obtain ⟨s1,s2,s3,s4,s5⟩ := i8.2.elim (fun hd => swap (Γ := Γ) (E := E) (g := g) (base := base) i8.1 h1 i1 (by rw [h2,i2]; exact hd)) fun hl => Qzp (Γ := Γ) (E := E) (g := g) (base := base) i8.1 h1 i1 hl
  refine ⟨s1,s2.trans i2,?_⟩
  simp only [Zf,RunD]
  exact ⟨s3,s4.trans h2,by rw [s5]; exact i3⟩
end
end Go.Fam
