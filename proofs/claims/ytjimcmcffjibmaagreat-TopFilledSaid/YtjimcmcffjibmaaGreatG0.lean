import Derived.WalkKit
import Derived.OrdersIn
import Derived.RangeFuncFrom
import Derived.RangeFuncLeaves
import Derived.Maps.RangeRun
import Derived.MapKept
set_option linter.all false
set_option maxHeartbeats 4000000
open List renaming replicate → Qf,getElem?_eq_getElem → Qg,eq_nil_of_length_eq_zero → Qh,map_cons → Qi,getElem?_map → Qk,mem_cons → Ql,ext_getElem? → Qn,drop_drop → Qp,getElem?_eq_none → Qs,flatten_cons → Qt,idxOf_lt_length_of_mem → Qu,length_cons → Qw,replicate_succ → Qx,mem_of_mem_drop → Qz,idxOf_eq_length → Q0,mem_append → Q1,take_succ_cons → Q2,length_append → Q4,headD_eq_head?_getD → Q5,map_map → Q8,mem_of_mem_take → Q9,map_congr_left → Za,getElem?_take → Zb,getElem?_set → Zc,cons_append → Zd,length → Zf,head?_drop → Zg,idxOf_cons → Zh,length_map → Zi,cons → Zj
open Nat renaming le_refl → Qq,le_trans → Qr,succ_mul → Qv,lt_of_lt_of_le → Qy,add_comm → Q7,add_mul → Ze
open Bool renaming and_eq_true → Qm,or_eq_false_iff → Qo,false_eq_true → Q3
open Option renaming bind_eq_some_iff → Qa,bind_eq_bind → Qb,pure_def → Qc,some → Qd,map_eq_some_iff → Qe,map_some → Qj,getD_some → Q6
namespace Go.Fam
inductive V where
 | u | b (x : Bool) | i (x : Int) | z (es : Nat) | sl (es : Nat) (rows : List (List V)) | sx (es : Nat) (rows : List (List V)) | pa (cs : List V) | pn
 | ag (cs : List V) | tp (cs : List V) | fn (f : Nat) (caps : List V)
 | ad (id g off : Nat) | rf (id g off len es : Nat) | mp (id g : Nat) | it (id g : Nat) | yl (l : Nat) | gv (c : Bool) (v : V) | w (k : IntKind) (n : Int) | pm (st : Bool) (ks : List (List Int)) (vs : List V) | fb (f : Nat) (bs : List V)
instance : Inhabited V := ⟨.u⟩
def keyC (st : Bool) (l : List Int) : Value := if st then .agg (l.map (Value.int .i64)).toArray else .int .i64 (l.headD 0)
def Qhg (st : Bool) (ks : List (List Int)) (es : Array MapEntry) : Prop := es.toList.map (·.key) = ks.map (keyC st) ∧ ∀ (i : Nat) (e : MapEntry),es[i]? = some e → e.born = i
abbrev OInfo := Nat → Option (Nat × Option Nat)
def noO : OInfo := fun _ => none
mutual
def Rep (S : Nat → Prop) (w : World) (O : OInfo) : V → Value → Prop
 | .u,_ => True
 | .b x,c => c = .bool x
 | .i x,c => c = .int .i64 x
 | .z _,c => ∃ a,c = .slice a 0 0
 | .sl es rows,c => ∃ a cap,c = .slice a rows.length cap ∧ rows.length ≤ cap ∧ (rows = [] ∨ ∃ blk off cur e fr,a = some ⟨blk,off,none⟩ ∧ S blk ∧ w.heap[blk]? = some (.cells cur e fr) ∧ Qau S w es rows (cur.toList.drop off))
 | .sx es rows,c => ∃ a,c = .slice a rows.length rows.length ∧ (rows = [] ∨ ∃ blk off cur e fr,a = some ⟨blk,off,none⟩ ∧ S blk ∧ w.heap[blk]? = some (.cells cur e fr) ∧ Qau S w es rows (cur.toList.drop off))
 | .pa cs,c => ∃ blk off cur e fr,c = .pointer (some ⟨blk,off,none⟩) ∧ S blk ∧ w.heap[blk]? = some (.cells cur e fr) ∧ RepL S w noO cs (cur.toList.drop off)
 | .pn,c => c = .pointer none
 | .ag cs,c => ∃ ccs,c = .agg ccs ∧ ccs.size = cs.length ∧ RepL S w O cs ccs.toList
 | .tp cs,c => ∃ ccs,c = .tuple ccs ∧ ccs.size = cs.length ∧ RepL S w O cs ccs.toList
 | .fn f caps,c => ∃ ccs,c = .func (.func f) #[] ccs ∧ ccs.size = caps.length ∧ RepL S w O caps ccs.toList
 | .ad id g off,c => c.oneCell' = true ∧ ∃ g' ob,O id = some (g',ob) ∧ g ≤ g' ∧ (g = g' → ∃ b,ob = some b ∧ c = .pointer (some ⟨b,off,none⟩))
 | .rf id g off len es,c => c.oneCell' = true ∧ ∃ g' ob,O id = some (g',ob) ∧ g ≤ g' ∧ (g = g' → (∃ b cap cur e,ob = some b ∧ w.heap[b]? = some (.cells cur e (0,0)) ∧ c = .slice (some ⟨b,off,none⟩) len cap ∧ len ≤ cap ∧ off + cap * es ≤ cur.size) ∨ (ob = none ∧ len = 0 ∧ ∃ a,c = .slice a 0 0))
 | .mp id g,c => c.oneCell' = true ∧ ∃ g' ob,O id = some (g',ob) ∧ g ≤ g' ∧ (g = g' → ∃ b,ob = some b ∧ c = .map (some b))
 | .it id g,c => c.oneCell' = true ∧ ∃ g' ob,O id = some (g',ob) ∧ g ≤ g' ∧ (g = g' → ∃ b,ob = some b ∧ c = .pointer (some ⟨b,0,none⟩))
 | .yl l,c => c = .func (.yield l) #[] #[]
 | .w k n,c => c = .int k n
 | .pm st ks vs,c => ∃ b es,c = .map (some b) ∧ S b ∧ w.heap[b]? = some (.map es es.size) ∧ Qhg st ks es ∧ RepL S w noO vs (es.toList.map (·.val)) ∧ vs.length = ks.length ∧ ks.Nodup ∧ (st = false → ∀ k ∈ ks,k.length = 1)
 | .fb f bs,c => ∃ ccs,c = .func (.func f) ccs #[] ∧ ccs.size = bs.length ∧ RepL S w noO bs ccs.toList
 | .gv q v,c => (q = true → Rep S w O v c) ∧ (q = false → c = undef)
def RepL (S : Nat → Prop) (w : World) (O : OInfo) : List V → List Value → Prop
 | [],_ => True
 | _ :: _,[] => False
 | v :: vs,c :: cs => Rep S w O v c ∧ RepL S w O vs cs
def Qau (S : Nat → Prop) (w : World) (es : Nat) : List (List V) → List Value → Prop
 | [],_ => True
 | r :: rs,cs => (r.length = es ∧ ∀ c ∈ cs.take es,c.oneCell' = true) ∧ RepL S w noO r cs ∧ Qau S w es rs (cs.drop es)
end
structure Ext (S S' : Nat → Prop) (w w' : World) (O O' : OInfo) : Prop where
 keep : ∀ n,S n → S' n ∧ w'.heap[n]? = w.heap[n]?
 own : ∀ id g ob,O id = some (g,ob) → ∃ g' ob',O' id = some (g',ob') ∧ g ≤ g' ∧ (g' = g → ob' = ob ∧
  (∀ b cur e,ob = some b → w.heap[b]? = some (.cells cur e (0,0)) → ∃ cur',w'.heap[b]? = some (.cells cur' e (0,0)) ∧ cur'.size = cur.size))
def Ext.noO {S S' : Nat → Prop} {w w' : World} {O O' : OInfo} (h : Ext S S' w w' O O') : Ext S S' w w' Fam.noO Fam.noO :=
 ⟨h.keep,fun _ _ _ h => by cases h⟩
mutual
theorem Rep.ext {S S' : Nat → Prop} {w w' : World} {O O' : OInfo} (h : Ext S S' w w' O O') : ∀ (v : V) (c : Value),Rep S w O v c → Rep S' w' O' v c
 | .u,_,_ => by simp [Rep]
 | .b x,c,hr => by simpa [Rep] using hr
 | .i x,c,hr => by simpa [Rep] using hr
 | .z _,c,hr => by simpa [Rep] using hr
 | .sl es rows,c,hr => by
  simp only [Rep] at hr ⊢
  obtain ⟨a,cap,hc,zJ,hr⟩ := hr
  refine ⟨a,cap,hc,zJ,hr.imp id ?_⟩
  rintro ⟨blk,off,cur,e,fr,ha,hS,hb,hrow⟩
  exact ⟨blk,off,cur,e,fr,ha,(h.keep blk hS).1,(h.keep blk hS).2.trans hb,Qau.ext h es rows _ hrow⟩
 | .sx es rows,c,hr => by
  simp only [Rep] at hr ⊢
  obtain ⟨a,hc,hr⟩ := hr
  refine ⟨a,hc,hr.imp id ?_⟩
  rintro ⟨blk,off,cur,e,fr,ha,hS,hb,hrow⟩
  exact ⟨blk,off,cur,e,fr,ha,(h.keep blk hS).1,(h.keep blk hS).2.trans hb,Qau.ext h es rows _ hrow⟩
 | .pa cs,c,hr => by
  simp only [Rep] at hr ⊢
  obtain ⟨blk,off,cur,e,fr,ha,hS,hb,hrow⟩ := hr
  exact ⟨blk,off,cur,e,fr,ha,(h.keep blk hS).1,(h.keep blk hS).2.trans hb,RepL.ext h.noO cs _ hrow⟩
 | .pn,c,hr => by simpa [Rep] using hr
 | .ag cs,c,hr => by
  simp only [Rep] at hr ⊢
  obtain ⟨ccs,hc,hn,hr⟩ := hr
  exact ⟨ccs,hc,hn,RepL.ext h cs _ hr⟩
 | .tp cs,c,hr => by
  simp only [Rep] at hr ⊢
  obtain ⟨ccs,hc,hn,hr⟩ := hr
  exact ⟨ccs,hc,hn,RepL.ext h cs _ hr⟩
 | .fn f cs,c,hr => by
  simp only [Rep] at hr ⊢
  obtain ⟨ccs,hc,hn,hr⟩ := hr
  exact ⟨ccs,hc,hn,RepL.ext h cs _ hr⟩
 | .ad id g off,c,hr => by
  simp only [Rep] at hr ⊢
  obtain ⟨h1,g',ob,hO,hg,hr⟩ := hr
  obtain ⟨g'',ob',hO',hg',hk⟩ := h.own id g' ob hO
  refine ⟨h1,g'',ob',hO',Qr hg hg',fun e => ?_⟩
  have e1 : g'' = g' := by omega
  rw [(hk e1).1]
  exact hr (by omega)
 | .rf id g off len es,c,hr => by
  simp only [Rep] at hr ⊢
  obtain ⟨h1,g',ob,hO,hg,hr⟩ := hr
  obtain ⟨g'',ob',hO',hg',hk⟩ := h.own id g' ob hO
  refine ⟨h1,g'',ob',hO',Qr hg hg',fun e => ?_⟩
  have e1 : g'' = g' := by omega
  rw [(hk e1).1]
  rcases hr (by omega) with ⟨b,cap,cur,e2,hb,hh,hc,hl,hs⟩ | hr
  ·obtain ⟨cur',hh',hs'⟩ := (hk e1).2 b cur e2 hb hh
   exact .inl ⟨b,cap,cur',e2,hb,hh',hc,hl,by omega⟩
  ·exact .inr hr
 | .mp id g,c,hr => by
  simp only [Rep] at hr ⊢
  obtain ⟨h1,g',ob,hO,hg,hr⟩ := hr
  obtain ⟨g'',ob',hO',hg',hk⟩ := h.own id g' ob hO
  refine ⟨h1,g'',ob',hO',Qr hg hg',fun e => ?_⟩
  have e1 : g'' = g' := by omega
  rw [(hk e1).1]
  exact hr (by omega)
 | .it id g,c,hr => by
  simp only [Rep] at hr ⊢
  obtain ⟨h1,g',ob,hO,hg,hr⟩ := hr
  obtain ⟨g'',ob',hO',hg',hk⟩ := h.own id g' ob hO
  refine ⟨h1,g'',ob',hO',Qr hg hg',fun e => ?_⟩
  have e1 : g'' = g' := by omega
  rw [(hk e1).1]
  exact hr (by omega)
 | .yl l,c,hr => by simpa [Rep] using hr
 | .w k n,c,hr => by simpa [Rep] using hr
 | .fb f bs,c,hr => by
  simp only [Rep] at hr ⊢
  obtain ⟨ccs,hc,hn,hr⟩ := hr
  exact ⟨ccs,hc,hn,RepL.ext h.noO bs _ hr⟩
 | .pm st ks vs,c,hr => by
  simp only [Rep] at hr ⊢
  obtain ⟨b,es,hc,hS,hb,h1,h2,h3⟩ := hr
  exact ⟨b,es,hc,(h.keep b hS).1,(h.keep b hS).2.trans hb,h1,RepL.ext h.noO vs _ h2,h3⟩
 | .gv q v,c,hr => by
  simp only [Rep] at hr ⊢
  exact ⟨fun hq => Rep.ext h v c (hr.1 hq),hr.2⟩
theorem RepL.ext {S S' : Nat → Prop} {w w' : World} {O O' : OInfo} (h : Ext S S' w w' O O') : ∀ (vs : List V) (cs : List Value),RepL S w O vs cs → RepL S' w' O' vs cs
 | [],_,_ => by simp [RepL]
 | _ :: _,[],hr => by simp [RepL] at hr
 | v :: vs,c :: cs,hr => by
  simp only [RepL] at hr ⊢
  exact ⟨Rep.ext h v c hr.1,RepL.ext h vs cs hr.2⟩
theorem Qau.ext {S S' : Nat → Prop} {w w' : World} {O O' : OInfo} (h : Ext S S' w w' O O') (es : Nat) : ∀ (rs : List (List V)) (cs : List Value),Qau S w es rs cs → Qau S' w' es rs cs
 | [],_,_ => by simp [Qau]
 | r :: rs,cs,hr => by
  simp only [Qau] at hr ⊢
  exact ⟨hr.1,RepL.ext h.noO r cs hr.2.1,Qau.ext h es rs _ hr.2.2⟩
end
def Own (O : OInfo) (n : Nat) : Prop := ∃ id g,O id = some (g,some n)
structure Evol (S S' : Nat → Prop) (w w' : World) (O O' : OInfo) : Prop where
 ext : Ext S S' w w' O O'
 os : w'.os = w.os
 tape : w'.tape = w.tape
 output : w'.output = w.output
 size : w.heap.size ≤ w'.heap.size
 fz : ∀ a,a.block < w.heap.size → w'.frozen? a = w.frozen? a
 old : ∀ n,n < w.heap.size → ¬ Own O n → w'.heap[n]? = w.heap[n]?
 fresh : ∀ n,Own O' n → Own O n ∨ w.heap.size ≤ n
 grow : ∀ n,S' n → S n ∨ Own O n ∨ w.heap.size ≤ n
def Ext.refl (S : Nat → Prop) (w : World) (O : OInfo) : Ext S S w w O O :=
 ⟨fun _ h => ⟨h,rfl⟩,fun _ g ob h => ⟨g,ob,h,Qq _,fun _ => ⟨rfl,fun _ cur _ _ hb => ⟨cur,hb,rfl⟩⟩⟩⟩
def Ext.trans {S S' S'' : Nat → Prop} {w w' w'' : World} {O O' O'' : OInfo} (h : Ext S S' w w' O O') (k : Ext S' S'' w' w'' O' O'') : Ext S S'' w w'' O O'' := by
 refine ⟨fun n hn => ⟨(k.keep n (h.keep n hn).1).1,((k.keep n (h.keep n hn).1).2).trans (h.keep n hn).2⟩,fun id g ob ho => ?_⟩
 obtain ⟨g',ob',ho',hg,h1⟩ := h.own id g ob ho
 obtain ⟨g'',ob'',ho'',hg',h2⟩ := k.own id g' ob' ho'
 refine ⟨g'',ob'',ho'',Qr hg hg',fun e => ?_⟩
 have e1 : g' = g := by omega
 have e2 : g'' = g' := by omega
 obtain ⟨a1,a2⟩ := h1 e1
 obtain ⟨b1,b2⟩ := h2 e2
 refine ⟨b1.trans a1,fun b cur e hb hh => ?_⟩
 obtain ⟨cur',hh',hs⟩ := a2 b cur e hb hh
 obtain ⟨cur'',hh'',hs'⟩ := b2 b cur' e (a1.trans hb) hh'
 exact ⟨cur'',hh'',hs'.trans hs⟩
def Evol.refl (S : Nat → Prop) (w : World) (O : OInfo) : Evol S S w w O O :=
 ⟨Ext.refl S w O,rfl,rfl,rfl,Qq _,fun _ _ => rfl,fun _ _ _ => rfl,fun _ h => .inl h,fun _ h => .inl h⟩
def Evol.trans {S S' S'' : Nat → Prop} {w w' w'' : World} {O O' O'' : OInfo} (h : Evol S S' w w' O O') (k : Evol S' S'' w' w'' O' O'') : Evol S S'' w w'' O O'' := by
 refine ⟨h.ext.trans k.ext,k.os.trans h.os,k.tape.trans h.tape,k.output.trans h.output,Qr h.size k.size,fun a ha => (k.fz a (Qy ha h.size)).trans (h.fz a ha),fun n hn ho => ?_,fun n hn => ?_,fun n hn => ?_⟩
 ·refine (k.old n (Qy hn h.size) fun h' => ?_).trans (h.old n hn ho)
  rcases h.fresh n h' with h1 | h1
  ·exact ho h1
  ·omega
 ·rcases k.fresh n hn with h1 | h1
  ·exact h.fresh n h1
  ·exact .inr (Qr h.size h1)
 ·rcases k.grow n hn with h1 | h1 | h1
  ·exact h.grow n h1
  ·exact .inr (h.fresh n h1)
  ·exact .inr (.inr (Qr h.size h1))
inductive Blk where
 | cells (g : Nat) (vs : List V)
 | map (st : Bool) (ks : List (List Int)) (vs : List V)
 | iter (mid n : Nat) (left : List Nat) (cur : Option Nat)
 | gh (caps : List V) (ys : Option (List (List V)))
 | dead (g : Nat)
 | hole
def Qb6 (S : Nat → Prop) (w : World) (O : OInfo) (g : Nat) (ob : Option Nat) : Option Blk → Prop
 | some (.cells g' vs) => g' = g ∧ match ob with
  | some b => ∃ cur e,w.heap[b]? = some (.cells cur e (0,0)) ∧ RepL S w O vs cur.toList ∧ ∀ c ∈ cur.toList,c.oneCell' = true
  | none => vs = []
 | some (.map st ks vs) => g = 0 ∧ ∃ b es,ob = some b ∧ w.heap[b]? = some (.map es es.size) ∧ Qhg st ks es ∧
   RepL S w O vs (es.toList.map (·.val)) ∧ vs.length = ks.length ∧ ks.Nodup ∧ (st = false → ∀ k ∈ ks,k.length = 1)
 | some (.iter mid n left cur) => g = 0 ∧ ∃ b m seen,ob = some b ∧ w.heap[b]? = some (.mapIter (some m) n seen n) ∧ Rep S w O (.mp mid 0) (.map (some m)) ∧ left.Nodup ∧
   (∀ j,j ∈ left ↔ j < n ∧ j ∉ seen.toList) ∧ (∀ j,cur = some j → seen.back? = some j ∧ j < n)
 | some (.gh _ _) => False
 | some (.dead g') => g' = g
 | some .hole => False
 | none => False
def Qb6.ext {S S' : Nat → Prop} {w w' : World} {O O' : OInfo} {g : Nat} {ob : Option Nat} {x : Option Blk} (hx : Ext S S' w w' O O') (hh : ∀ b,ob = some b → w'.heap[b]? = w.heap[b]?) (h : Qb6 S w O g ob x) : Qb6 S' w' O' g ob x := by
 unfold Qb6 at h ⊢
 split at h
 ·refine ⟨h.1,?_⟩
  cases ob with
  | none => exact h.2
  | some b =>
   obtain ⟨cur,e,hb,hr,h1⟩ := h.2
   exact ⟨cur,e,(hh b rfl).trans hb,RepL.ext hx _ _ hr,h1⟩
 ·obtain ⟨h0,b,es,vT,hb,h1,h3,h4⟩ := h
  exact ⟨h0,b,es,vT,(hh b vT).trans hb,h1,RepL.ext hx _ _ h3,h4⟩
 ·obtain ⟨h0,b,m,seen,vT,hb,h1,h2⟩ := h
  exact ⟨h0,b,m,seen,vT,(hh b vT).trans hb,Rep.ext hx _ _ h1,h2⟩
 ·exact h
 ·exact h
 ·exact h
 ·exact h
structure Mat (S : Nat → Prop) (w : World) (O : OInfo) (hp : List Blk) : Prop where
 lt : ∀ n,S n → n < w.heap.size
 own : ∀ id g b,O id = some (g,some b) → b < w.heap.size ∧ ¬ S b
 inj : ∀ id id' g g' b,O id = some (g,some b) → O id' = some (g',some b) → id = id'
 blk : ∀ id g ob,O id = some (g,ob) → Qb6 S w O g ob hp[id]?
def Rep.one {S : Nat → Prop} {w : World} {O : OInfo} {v : V} {c : Value} (h : Rep S w O v c) : (match v with | .u | .ag _ | .tp _ | .gv _ _ => False | _ => True) → c.oneCell' = true := by
 cases v <;> simp only [Rep] at h <;> intro hv <;> try exact hv.elim
 all_goals first
  | exact h.1
  | (subst h; rfl)
  | (obtain ⟨a,rfl⟩ := h; rfl)
  | (obtain ⟨a,cap,rfl,_,_⟩ := h; rfl)
  | (obtain ⟨a,rfl,_⟩ := h; rfl)
  | (obtain ⟨blk,off,cur,e,fr,rfl,_,_,_⟩ := h; rfl)
  | (obtain ⟨ccs,rfl,_,_⟩ := h; rfl)
def RepL.length {S : Nat → Prop} {w : World} {O : OInfo} : ∀ (vs : List V) (cs : List Value),RepL S w O vs cs → vs.length ≤ cs.length
 | [],_,_ => Nat.zero_le _
 | _ :: _,[],h => by simp [RepL] at h
 | _ :: vs,_ :: cs,h => by simp only [RepL] at h; have := RepL.length vs cs h.2; simp; omega
def RepL.get {S : Nat → Prop} {w : World} {O : OInfo} : ∀ (vs : List V) (cs : List Value) (j : Nat) (v : V),RepL S w O vs cs → vs[j]? = some v → ∃ c,cs[j]? = some c ∧ Rep S w O v c
 | [],_,_,_,_,h => by simp at h
 | _ :: _,[],_,_,h,_ => by simp [RepL] at h
 | v :: vs,c :: cs,0,v',h,hv => by simp at hv; subst hv; exact ⟨c,rfl,h.1⟩
 | v :: vs,c :: cs,j + 1,v',h,hv => by
  simp only [RepL] at h
  simpa using RepL.get vs cs j v' h.2 (by simpa using hv)
def RepL.drop {S : Nat → Prop} {w : World} {O : OInfo} : ∀ (n : Nat) (vs : List V) (cs : List Value),RepL S w O vs cs → RepL S w O (vs.drop n) (cs.drop n)
 | 0,_,_,h => by simpa using h
 | _ + 1,[],_,_ => by simp [RepL]
 | _ + 1,_ :: _,[],h => by simp [RepL] at h
 | n + 1,_ :: vs,_ :: cs,h => by simp only [RepL] at h; simpa using RepL.drop n vs cs h.2
def RepL.take {S : Nat → Prop} {w : World} {O : OInfo} : ∀ (n : Nat) (vs : List V) (cs : List Value),RepL S w O vs cs → RepL S w O (vs.take n) cs
 | 0,_,_,_ => by simp [RepL]
 | _ + 1,[],_,_ => by simp [RepL]
 | _ + 1,_ :: _,[],h => by simp [RepL] at h
 | n + 1,v :: vs,c :: cs,h => by simp only [RepL] at h; simp only [Q2,RepL]; exact ⟨h.1,RepL.take n vs cs h.2⟩
def RepL.take_both {S : Nat → Prop} {w : World} {O : OInfo} (n : Nat) : ∀ (vs : List V) (cs : List Value),RepL S w O vs cs → vs.length ≤ n → RepL S w O vs (cs.take n) := by
 induction n with
 | zero => intro vs cs _ hn; have : vs = [] := Qh (by omega); subst this; simp [RepL]
 | succ n ih =>
  intro vs cs h hn
  cases vs with
  | nil => simp [RepL]
  | cons v vs =>
   cases cs with
   | nil => simp [RepL] at h
   | cons c cs =>
    simp only [RepL] at h
    simp only [Q2,RepL]
    exact ⟨h.1,ih vs cs h.2 (by simp at hn; omega)⟩
def RepL.append {S : Nat → Prop} {w : World} {O : OInfo} : ∀ (vs : List V) (cs : List Value) (vs' : List V) (cs' : List Value),RepL S w O vs cs → cs.length = vs.length → RepL S w O vs' cs' → RepL S w O (vs ++ vs') (cs ++ cs')
 | [],cs,_,_,_,hl,h' => by
  have : cs = [] := Qh (by simpa using hl)
  subst this; simpa using h'
 | _ :: _,[],_,_,h,_,_ => by simp [RepL] at h
 | v :: vs,c :: cs,vs',cs',h,hl,h' => by
  simp only [RepL] at h
  simp only [Zd,RepL]
  exact ⟨h.1,RepL.append vs cs vs' cs' h.2 (by simpa using hl) h'⟩
def RepL.more {S : Nat → Prop} {w : World} {O : OInfo} : ∀ (vs : List V) (cs cs' : List Value),RepL S w O vs cs → RepL S w O vs (cs ++ cs')
 | [],_,_,_ => by simp [RepL]
 | _ :: _,[],_,h => by simp [RepL] at h
 | v :: vs,c :: cs,cs',h => by
  simp only [RepL] at h
  simp only [Zd,RepL]
  exact ⟨h.1,RepL.more vs cs cs' h.2⟩
def RepL.set {S : Nat → Prop} {w : World} {O : OInfo} : ∀ (j : Nat) (vs : List V) (cs : List Value) (v : V) (c : Value),RepL S w O vs cs → Rep S w O v c → RepL S w O (vs.set j v) (cs.set j c)
 | _,[],_,_,_,_,_ => by simp [RepL]
 | _,_ :: _,[],_,_,h,_ => by simp [RepL] at h
 | 0,v :: vs,c :: cs,v',c',h,h' => by simp only [RepL] at h; simp only [List.set_cons_zero,RepL]; exact ⟨h',h.2⟩
 | j + 1,v :: vs,c :: cs,v',c',h,h' => by simp only [RepL] at h; simp only [List.set_cons_succ,RepL]; exact ⟨h.1,RepL.set j vs cs v' c' h.2 h'⟩
def RepL.map {S : Nat → Prop} {w : World} {O : OInfo} {α : Type} (f : α → V) (g : α → Value) : ∀ (l : List α),(∀ x ∈ l,Rep S w O (f x) (g x)) → RepL S w O (l.map f) (l.map g)
 | [],_ => by simp [RepL]
 | x :: l,h => by simp only [Qi,RepL]; exact ⟨h x (by simp),RepL.map f g l fun y hy => h y (by simp [hy])⟩
def Qau.get {S : Nat → Prop} {w : World} {es : Nat} : ∀ (rs : List (List V)) (cs : List Value) (j : Nat) (r : List V),Qau S w es rs cs → rs[j]? = some r → (r.length = es ∧ ∀ c ∈ (cs.drop (j * es)).take es,c.oneCell' = true) ∧ RepL S w noO r (cs.drop (j * es))
 | [],_,_,_,_,h => by simp at h
 | r :: rs,cs,0,r',h,hv => by simp only [Qau] at h; simp at hv; subst hv; simpa using ⟨h.1,h.2.1⟩
 | r :: rs,cs,j + 1,r',h,hv => by
  simp only [Qau] at h
  have := Qau.get rs (cs.drop es) j r' h.2.2 (by simpa using hv)
  rw [Qp] at this
  rw [Qv,Q7 (j * es) es]
  exact this
def Qau.flat {S : Nat → Prop} {w : World} {es : Nat} : ∀ (rs : List (List V)) (cs : List Value),Qau S w es rs cs → (RepL S w noO rs.flatten cs ∧ ∀ c ∈ cs.take (rs.length * es),c.oneCell' = true) ∧ rs.flatten.length = rs.length * es
 | [],_,_ => by simp [RepL]
 | r :: rs,cs,h => by
  simp only [Qau] at h
  obtain ⟨⟨h1,h1'⟩,h2,h3⟩ := h
  obtain ⟨⟨i1,i1'⟩,i2⟩ := Qau.flat rs _ h3
  have hl := RepL.length _ _ h2
  refine ⟨⟨?_,fun c hc => ?_⟩,by simp [i2,h1,Ze,Q7]⟩
  ·simp only [Qt]
   have := RepL.append r (cs.take es) rs.flatten (cs.drop es) (RepL.take_both es r cs h2 (by omega)) (by simp; omega) i1
   simpa using this
  ·rw [Qw,Qv,Q7,List.take_add] at hc
   rcases Q1.1 hc with hc | hc
   ·exact h1' c hc
   ·exact i1' c hc
def Qau.drop {S : Nat → Prop} {w : World} {es : Nat} : ∀ (n : Nat) (rs : List (List V)) (cs : List Value),Qau S w es rs cs → Qau S w es (rs.drop n) (cs.drop (n * es))
 | 0,_,_,h => by simpa using h
 | n + 1,[],_,_ => by simp [Qau]
 | n + 1,r :: rs,cs,h => by
  simp only [Qau] at h
  have := Qau.drop n rs (cs.drop es) h.2.2
  rw [Qp] at this
  rw [Qv,Q7 (n * es) es]
  simpa using this
def Qau.take {S : Nat → Prop} {w : World} {es : Nat} : ∀ (n : Nat) (rs : List (List V)) (cs : List Value),Qau S w es rs cs → Qau S w es (rs.take n) cs
 | 0,_,_,_ => by simp [Qau]
 | n + 1,[],_,_ => by simp [Qau]
 | n + 1,r :: rs,cs,h => by
  simp only [Qau] at h
  simp only [Q2,Qau]
  exact ⟨h.1,h.2.1,Qau.take n rs _ h.2.2⟩
end Go.Fam
namespace Go.Fam
inductive Od where
 | t (n : Nat) | k (v : V)
instance : Inhabited Od := ⟨.k .u⟩
def inI (n : Int) : Prop := -9223372036854775808 ≤ n ∧ n ≤ 9223372036854775807
def V.cells : V → List V | .ag cs => cs | v => [v]
def Qcg : V → Bool | .u | .ag _ | .tp _ | .gv _ _ => false | _ => true
def Qrk : V → Bool | .u | .gv _ _ | .tp _ => false | _ => true
def ug : V → Bool × V | .gv c v => (c,v) | v => (true,v)
def Qbi (es : Nat) (vs : List V) (off len : Nat) : List (List V) := (List.range len).map fun k => (vs.drop (off + k * es)).take es
mutual
def Qan : V → Bool
 | .ag cs | .tp cs => Qa8 cs
 | .fn _ cs => Qa8 cs
 | .ad _ _ _ | .rf _ _ _ _ _ | .mp _ _ | .it _ _ => true
 | .gv _ v => Qan v
 | _ => false
def Qa8 : List V → Bool
 | [] => false
 | v :: vs => Qan v || Qa8 vs
end
mutual
def flat : V → Bool
 | .b _ | .i _ | .pn | .z _ | .w _ _ => true
 | .ag cs | .tp cs => Qmt cs
 | _ => false
def Qmt : List V → Bool
 | [] => true
 | v :: vs => flat v && Qmt vs
end
def vw (hp : List Blk) : Nat → V → V
 | 0,_ => .u
 | n + 1,v => match v with
  | .z es => .sl es []
  | .ag cs => .ag (cs.map (vw hp n))
  | .tp cs => .tp (cs.map (vw hp n))
  | .fn f cs => .fn f (cs.map (vw hp n))
  | .ad id g off => match hp[id]? with
   | some (.cells g' vs) => if g' = g then .pa ((vs.drop off).map (vw hp n)) else .u
   | _ => .u
  | .rf id g off len es => match hp[id]? with
   | some (.cells g' vs) => if g' = g ∧ off + len * es ≤ vs.length then .sl es ((Qbi es vs off len).map fun r => r.map (vw hp n)) else .u
   | _ => .u
  | .mp id g => match hp[id]? with
   | some (.map st ks vs) => if g = 0 then .pm st ks (vs.map (vw hp n)) else .u
   | _ => .u
  | .it _ _ => .u
  | .gv c v => .gv c (vw hp n v)
  | v => v
inductive Q where
 | mv (x : Od) | bin (op : BinOp) (x y : Od) | bq (neg : Bool) (x y : Od) | eqs (neg : Bool) (ty : TypeId) (x y : Od) | not (x : Od) | neg (x : Od)
 | ld (ag : Bool) (n : Nat) (x : Od) | fad (off : Nat) (x : Od) | fld (ag : Bool) (n off : Nat) (x : Od)
 | iad (es : Nat) (x i : Od) | len (x : Od) | ext (x : Od) (k : Nat) | nilc (x : Od) | pick (c a b : Od)
 | mkf (f : Nat) (caps : List Od) | bld (zc : List V) (parts : List (Nat × Nat × Od)) | mn (x y : Od) | mx (x y : Od) | cvt (x : Od) | cvk (k : IntKind) (x : Od) | mkb (f : Nat) (bs : List Od)
 | bsl (es n : Nat) (zc : List V) (parts : List (Nat × Nat × Od)) | box (x : Od) | slc (es : Nat) (x : Od) (lo hi : Option Od) | slx (es : Nat) (x h m : Od)
 | call (f : Od) (args : List Od)
 | lkp (zc : V) (ok : Bool) (kt : TypeId) (sk : Bool) (m k : Od) | ent (it : Od) | mlen (x : Od) | iaa (es n : Nat) (x i : Od) | iva (n : Nat) (x i : Od)
def Q.ods : Q → List Od
 | .mv x | .not x | .neg x | .ld _ _ x | .fad _ x | .fld _ _ _ x | .len x | .ext x _ | .nilc x | .cvt x | .cvk _ x | .box x => [x]
 | .bin _ x y | .bq _ x y | .eqs _ _ x y | .iad _ x y | .mn x y | .mx x y => [x,y]
 | .pick c a b => [c,a,b]
 | .mkf _ xs => xs
 | .mkb _ xs => xs
 | .bld _ ps | .bsl _ _ _ ps => ps.map (·.2.2)
 | .slc _ x lo hi => x :: (lo.toList ++ hi.toList)
 | .slx _ x h m => [x,h,m]
 | .call f xs => f :: xs
 | .lkp _ _ _ _ m k => [m,k]
 | .ent x | .mlen x => [x]
 | .iaa _ _ x y => [x,y]
 | .iva _ x y => [x,y]
def Qdv : List V → Option (List Int)
 | [] => some []
 | .i n :: l => (Qdv l).map (n :: ·)
 | _ :: _ => none
def Qhh (op : BinOp) (k : IntKind) (a c : Int) : Int := match op with
 | .and => k.wrap (BitVec.ofInt k.bits a &&& BitVec.ofInt k.bits c).toNat
 | .or => k.wrap (BitVec.ofInt k.bits a ||| BitVec.ofInt k.bits c).toNat
 | .xor => k.wrap (BitVec.ofInt k.bits a ^^^ BitVec.ofInt k.bits c).toNat
 | _ => k.wrap (BitVec.ofInt k.bits a &&& ~~~BitVec.ofInt k.bits c).toNat
def shlW (k : IntKind) (a c : Int) : Int := k.wrap (a * 2 ^ min c.toNat k.bits)
def shrW (k : IntKind) (a c : Int) : Int := a.fdiv (2 ^ min c.toNat k.bits)
def binW (op : BinOp) (k : IntKind) (a c : Int) : Prop × V := match op with
 | .add => (True,.w k (k.wrap (a + c)))
 | .sub => (True,.w k (k.wrap (a - c)))
 | .mul => (True,.w k (k.wrap (a * c)))
 | .and | .or | .xor | .andNot => (True,.w k (Qhh op k a c))
 | .eql => (True,.b (decide (a = c)))
 | .neq => (True,.b (!decide (a = c)))
 | .lss => (True,.b (decide (a < c)))
 | .leq => (True,.b (decide (a ≤ c)))
 | .gtr => (True,.b (decide (c < a)))
 | .geq => (True,.b (decide (c ≤ a)))
 | _ => (False,.u)
def binV (op : BinOp) (x y : V) : Prop × V :=
 match x,y with
 | .w k a,.w k' c => match op with
  | .shl => (0 ≤ c,.w k (shlW k a c))
  | .shr => (0 ≤ c,.w k (shrW k a c))
  | op => if k = k' then binW op k a c else (False,.u)
 | .w k a,.i c => match op with
  | .shl => (0 ≤ c,.w k (shlW k a c))
  | .shr => (0 ≤ c,.w k (shrW k a c))
  | _ => (False,.u)
 | .i a,.i c => match op with
  | .add => (inI (a + c),.i (a + c))
  | .sub => (inI (a - c),.i (a - c))
  | .mul => (inI (a * c),.i (a * c))
  | .quo => (c ≠ 0 ∧ inI (a.tdiv c),.i (a.tdiv c))
  | .rem => (c ≠ 0,.i (a.tmod c))
  | .eql => (True,.b (decide (a = c)))
  | .neq => (True,.b (!decide (a = c)))
  | .lss => (True,.b (decide (a < c)))
  | .leq => (True,.b (decide (a ≤ c)))
  | .gtr => (True,.b (decide (c < a)))
  | .geq => (True,.b (decide (c ≤ a)))
  | .and | .or | .xor | .andNot => (True,.i (Qhh op .i64 a c))
  | .shl => (0 ≤ c,.i (shlW .i64 a c))
  | .shr => (0 ≤ c,.i (shrW .i64 a c))
 | _,_ => (False,.u)
def mkI (k : IntKind) (a : Int) : V := match k with | .i64 => .i (IntKind.i64.wrap a) | k => .w k (k.wrap a)
def cvkV (k : IntKind) (x : V) : Prop × V := match x with | .i a => (True,mkI k a) | .w _ a => (True,mkI k a) | _ => (False,.u)
def putAt (off : Nat) (vs cs : List V) : List V := cs.take off ++ vs ++ cs.drop (off + vs.length)
def ldV (hp : List Blk) (ag : Bool) (n : Nat) (x : V) : Prop × V :=
 match x with
 | .pa cs => (n ≤ cs.length,if ag then .ag (cs.take n) else cs.headD .u)
 | .ad id g off => match hp[id]? with
  | some (.cells g' vs) => (g' = g ∧ off + n ≤ vs.length,if ag then .ag ((vs.drop off).take n) else (vs.drop off).headD .u)
  | _ => (False,.u)
 | _ => (False,.u)
def iadV (hp : List Blk) (es : Nat) (x i : V) : Prop × V :=
 match i with
 | .i k => match x with
  | .sl es' rows => (es' = es ∧ 0 ≤ k ∧ k < rows.length,.pa (rows.getD k.toNat []))
  | .rf id g off len es' => match hp[id]? with
   | some (.cells g' _) => (g' = g ∧ es' = es ∧ 0 ≤ k ∧ k < len,.ad id g (off + k.toNat * es))
   | _ => (False,.u)
  | _ => (False,.u)
 | _ => (False,.u)
def curG (hp : List Blk) (id g : Nat) : Bool := match hp[id]? with | some (.cells g' _) => g' == g | _ => false
def lenV (hp : List Blk) (x : V) : Prop × V :=
 match x with
 | .sl _ rows => (True,.i rows.length)
 | .z _ => (True,.i 0)
 | .rf id g _ len _ => match hp[id]? with
  | some (.cells g' _) => (g' = g,.i len)
  | _ => (False,.u)
 | _ => (False,.u)
def Qg6 (d : Int) : Option V → Option Int
 | none => some d
 | some (.i n) => some n
 | _ => none
def slcV (hp : List Blk) (es : Nat) (x : V) (lo hi : Option V) : Prop × V :=
 match x with
 | .rf id g off len es' => match hp[id]? with
  | some (.cells g' _) => match Qg6 0 lo,Qg6 len hi with
   | some l,some h => (g' = g ∧ es' = es ∧ 0 ≤ l ∧ l < h ∧ h ≤ len,.rf id g (off + l.toNat * es) (h.toNat - l.toNat) es)
   | _,_ => (False,.u)
  | _ => (False,.u)
 | .sl es' rows => match Qg6 0 lo,Qg6 rows.length hi with
  | some l,some h => (es' = es ∧ 0 ≤ l ∧ l ≤ h ∧ h ≤ rows.length,.sl es ((rows.take h.toNat).drop l.toNat))
  | _,_ => (False,.u)
 | _ => (False,.u)
def slxV (es : Nat) (x hi mx : V) : Prop × V :=
 match x,hi,mx with
 | .sl es' rows,.i h,.i m => (es' = es ∧ 0 ≤ h ∧ h = m ∧ h ≤ rows.length,.sx es (rows.take h.toNat))
 | .z es',.i h,.i m => (es' = es ∧ h = 0 ∧ m = 0,.sx es [])
 | _,_,_ => (False,.u)
def keyV (st : Bool) (l : List Int) : V := if st then .ag (l.map .i) else .i (l.headD 0)
def keyL : V → Option (Bool × List Int)
 | .i n => some (false,[n])
 | .ag cs => (Qdv cs).map fun l => (true,l)
 | _ => none
def Qg7 (E : TypeId → Nat → Prop) (kt : TypeId) (sk st : Bool) (ks : List (List Int)) (s : Bool) (l : List Int) : Prop := s = sk ∧ st = sk ∧ (sk = true → E kt l.length ∧ ∀ k ∈ ks,k.length = l.length)
def lkpV (E : TypeId → Nat → Prop) (hp : List Blk) (zc : V) (ok : Bool) (kt : TypeId) (sk : Bool) (m k : V) : Prop × V := match m,keyL k with
 | .mp id g,some (s,l) => match hp[id]? with
  | some (.map st ks vs) => (g = 0 ∧ Qg7 E kt sk st ks s l,if ok then .tp [(vs[ks.idxOf l]?).getD zc,.b (decide (l ∈ ks))] else (vs[ks.idxOf l]?).getD zc)
  | _ => (False,.u)
 | .pm st ks vs,some (s,l) => (Qg7 E kt sk st ks s l,if ok then .tp [(vs[ks.idxOf l]?).getD zc,.b (decide (l ∈ ks))] else (vs[ks.idxOf l]?).getD zc)
 | _,_ => (False,.u)
def entV (hp : List Blk) (it : V) : Prop × V := match it with
 | .it id g => match hp[id]? with
  | some (.iter mid n _ (some j)) => match hp[mid]? with
   | some (.map st ks vs) => (g = 0 ∧ ks.length = n,.tp [keyV st (ks.getD j []),vs.getD j .u])
   | _ => (False,.u)
  | _ => (False,.u)
 | _ => (False,.u)
def Qwk (hp : List Blk) (m : V) : Prop × V := match m with
 | .mp id g => match hp[id]? with
  | some (.map _ ks _) => (g = 0,.i ks.length)
  | _ => (False,.u)
 | _ => (False,.u)
def Qtk (Γ : Nat → List V → Prop × V) (hp : List Blk) (f : V) (args : List V) : Prop × V :=
 match f with
 | .fn g caps =>
  let as0 := (args ++ caps).map (vw hp 8)
  let r := Γ g as0
  (g < 1000000 ∧ r.1 ∧ (Qa8 (args ++ caps) = true → flat r.2 = true),r.2)
 | _ => (False,.u)
def Qbg : List (Nat × Nat × V) → List V → List V
 | [],cs => cs
 | (off,_,v) :: ps,cs => Qbg ps (putAt off v.cells cs)
def Qck (n : Nat) : List (Nat × Nat × V) → Prop
 | [] => True
 | (off,sz,v) :: ps => (Qrk v = true ∧ v.cells.length = sz ∧ off + sz ≤ n) ∧ Qck n ps
def Qc8 : List (Nat × Nat × V) → Prop
 | [] => True
 | (_,_,v) :: ps => v.cells.all Qcg = true ∧ Qc8 ps
def Qmv (p : Bool) (a b : V) : Prop × V := match a,b with
 | .b x,.b y => (True,.b (if p then x else y))
 | .b x,_ => (p = true,.b x)
 | _,.b y => (p = false,.b y)
 | _,_ => (False,.u)
def Qq2 {p : Bool} {a b : V} (h : (Qmv p a b).1) : (∃ x,a = .b x ∧ p = true ∧ (Qmv p a b).2 = .b x) ∨ (∃ y,b = .b y ∧ p = false ∧ (Qmv p a b).2 = .b y) := by
 cases p <;> cases a <;> cases b <;> simp [Qmv] at h ⊢
def Qii (p x y : Bool) : Qmv p (.b x) (.b y) = (True,.b (if p then x else y)) := rfl
def Qrd (x : Bool) (v : V) : Qmv true (.b x) v = (True,.b x) := by cases v <;> simp [Qmv]
def Qrc (y : Bool) (v : V) : Qmv false v (.b y) = (True,.b y) := by cases v <;> simp [Qmv]
def qv (Γ : Nat → List V → Prop × V) (E : TypeId → Nat → Prop) (hp : List Blk) (q : Q) (ρ : Od → V) : Prop × V :=
 match q with
 | .mv x => (True,ρ x)
 | .bin op x y => binV op (ρ x) (ρ y)
 | .bq neg x y => match ρ x,ρ y with
  | .b p,.b q => (True,.b (neg ^^ (p == q)))
  | _,_ => (False,.u)
 | .eqs neg ty x y => match ρ x,ρ y with
  | .ag xs,.ag ys => match Qdv xs,Qdv ys with
   | some m,some n => (E ty xs.length ∧ xs.length = ys.length,.b (neg ^^ decide (m = n)))
   | _,_ => (False,.u)
  | _,_ => (False,.u)
 | .not x => match ρ x with | .b p => (True,.b (!p)) | _ => (False,.u)
 | .neg x => match ρ x with | .i a => (inI (-a),.i (-a)) | _ => (False,.u)
 | .ld ag n x => ldV hp ag n (ρ x)
 | .fad off x => match ρ x with
  | .pa cs => (True,.pa (cs.drop off))
  | .ad id g o => (curG hp id g = true,.ad id g (o + off))
  | _ => (False,.u)
 | .fld ag n off x => match ρ x with
  | .ag cs => (off + n ≤ cs.length,if ag then .ag ((cs.drop off).take n) else (cs.drop off).headD .u)
  | _ => (False,.u)
 | .iad es x i => iadV hp es (ρ x) (ρ i)
 | .iva n x i => match ρ i with
  | .i k => match ρ x with
   | .ag cs => (0 ≤ k ∧ k < n ∧ k < cs.length,(cs.drop k.toNat).headD .u)
   | _ => (False,.u)
  | _ => (False,.u)
 | .iaa es n x i => match ρ i with
  | .i k => match ρ x with
   | .pa cs => (0 ≤ k ∧ k < n,.pa (cs.drop (k.toNat * es)))
   | .ad id g o => (curG hp id g = true ∧ 0 ≤ k ∧ k < n,.ad id g (o + k.toNat * es))
   | _ => (False,.u)
  | _ => (False,.u)
 | .len x => lenV hp (ρ x)
 | .ext x k => match ρ x with
  | .tp cs => (k < cs.length,(cs[k]?).getD .u)
  | _ => (False,.u)
 | .nilc x => match ρ x with
  | .pa cs => (True,.pa cs)
  | .ad id g o => (curG hp id g = true,.ad id g o)
  | _ => (False,.u)
 | .pick c a b => match ρ c with
  | .b p => Qmv p (ρ a) (ρ b)
  | _ => (False,.u)
 | .mkf f caps => (True,.fn f (caps.map ρ))
 | .mkb f bs => (Qa8 (bs.map ρ) = false,.fb f (bs.map ρ))
 | .bld zc ps =>
  let vs := ps.map fun p => (p.1,p.2.1,ρ p.2.2)
  (Qck zc.length vs,.ag (Qbg vs zc))
 | .mn x y => match ρ x,ρ y with | .i a,.i c => (True,.i (min a c)) | _,_ => (False,.u)
 | .mx x y => match ρ x,ρ y with | .i a,.i c => (True,.i (max a c)) | _,_ => (False,.u)
 | .cvt x => match ρ x with | .i a => (inI a,.i a) | _ => (False,.u)
 | .cvk k x => cvkV k (ρ x)
 | .bsl es n zc ps =>
  let vs := ps.map fun p => (p.1,p.2.1,vw hp 8 (ρ p.2.2))
  ((Qa8 (ps.map fun p => ρ p.2.2) = false ∧ es ≠ 0) ∧ Qck (n * es) vs ∧ Qc8 vs,.sl es (Qbi es (Qbg vs (Qf n zc).flatten) 0 n))
 | .box x => (Qan (ρ x) = false ∧ Qrk (vw hp 8 (ρ x)) = true,.pa (vw hp 8 (ρ x)).cells)
 | .slc es x lo hi => slcV hp es (ρ x) (lo.map ρ) (hi.map ρ)
 | .slx es x hi mx => slxV es (ρ x) (ρ hi) (ρ mx)
 | .call f xs => Qtk Γ hp (ρ f) (xs.map ρ)
 | .lkp zc ok kt sk m k => lkpV E hp zc ok kt sk (ρ m) (ρ k)
 | .ent x => entV hp (ρ x)
 | .mlen x => Qwk hp (ρ x)
def Qbt (P : Program) (t : TypeId) : Bool := match P.underlying t with | some (.struct _) | some (.array _ _) => true | _ => false
def szB (P : Program) (t : TypeId) : Option Nat := (P.info? t).map (·.size)
def mapB (P : Program) (t : TypeId) : Option (TypeId × TypeId) := match P.underlying t with | some (.map k e) => some (k,e) | _ => none
def elB (P : Program) (t : TypeId) : Option TypeId := match P.underlying t with | some (.slice e) => some e | _ => none
def esB (P : Program) (t : TypeId) : Option Nat := (elB P t).bind (szB P)
def zV (P : Program) : Nat → TypeId → List V
 | 0,_ => []
 | n + 1,t => match P.underlying t with
  | some (.int .i64) => [.i 0]
  | some (.int k) => [.w k 0]
  | some .bool => [.b false]
  | some (.slice e) => [.z ((szB P e).getD 0)]
  | some (.pointer _) => [.pn]
  | some (.struct fs) => fs.toList.flatMap fun f => zV P n f.type
  | some (.array m e) => (Qf m (zV P n e)).flatten
  | _ => [.u]
def zE (P : Program) (t : TypeId) : V := if Qbt P t then .ag (zV P 9 t) else (zV P 9 t).headD .u
def zChk : List V → List Value → Bool
 | [],[] => true
 | .i a :: vs,.int .i64 b :: cs => a == b && zChk vs cs
 | .w k a :: vs,.int k' b :: cs => k == k' && (a == b && zChk vs cs)
 | .b a :: vs,.bool b :: cs => a == b && zChk vs cs
 | .z _ :: vs,.slice _ 0 0 :: cs => zChk vs cs
 | .pn :: vs,.pointer none :: cs => zChk vs cs
 | .u :: vs,c :: cs => c.oneCell' && zChk vs cs
 | _,_ => false
def Qfl : ∀ (vs : List V) (cs : List Value),zChk vs cs = true → ∀ S w O,RepL S w O vs cs ∧ (∀ c ∈ cs,c.oneCell' = true) ∧ vs.length = cs.length := by
 intro vs
 induction vs with
 | nil => intro cs h S w O; cases cs <;> simp_all [zChk,RepL]
 | cons v vs ih =>
  intro cs h S w O
  cases cs with
  | nil => cases v <;> simp [zChk] at h
  | cons c cs =>
   cases v <;> first | (simp [zChk] at h; done) | skip
   case u =>
    simp only [zChk,Qm] at h
    have := ih cs h.2 S w O
    refine ⟨by simp [RepL,Rep,this.1],?_,by simp [this.2.2]⟩
    intro c' hc'
    rcases Ql.1 hc' with rfl | hc'
    ·exact h.1
    ·exact this.2.1 _ hc'
   all_goals
    cases c <;> first | (simp [zChk] at h; done) | skip
   case b.bool =>
    simp [zChk] at h
    have := ih cs h.2 S w O
    refine ⟨by simp [RepL,Rep,this.1,h.1],?_,by simp [this.2.2]⟩
    intro c' hc'; rcases Ql.1 hc' with rfl | hc'
    ·rfl
    ·exact this.2.1 _ hc'
   case i.int k n =>
    cases k <;> simp [zChk] at h
    have := ih cs h.2 S w O
    refine ⟨by simp [RepL,Rep,this.1,h.1],?_,by simp [this.2.2]⟩
    intro c' hc'; rcases Ql.1 hc' with rfl | hc'
    ·rfl
    ·exact this.2.1 _ hc'
   case w.int k n k' n' =>
    simp [zChk] at h
    have := ih cs h.2.2 S w O
    obtain ⟨h1,h2,_⟩ := h
    subst h1 h2
    refine ⟨by simp [RepL,Rep,this.1],?_,by simp [this.2.2]⟩
    intro c' hc'; rcases Ql.1 hc' with rfl | hc'
    ·rfl
    ·exact this.2.1 _ hc'
   case z.slice a l cp =>
    cases l <;> cases cp <;> simp [zChk] at h
    have := ih cs h S w O
    refine ⟨by simp [RepL,Rep,this.1],?_,by simp [this.2.2]⟩
    intro c' hc'; rcases Ql.1 hc' with rfl | hc'
    ·rfl
    ·exact this.2.1 _ hc'
   case pn.pointer a =>
    cases a <;> simp [zChk] at h
    have := ih cs h S w O
    refine ⟨by simp [RepL,Rep,this.1],?_,by simp [this.2.2]⟩
    intro c' hc'; rcases Ql.1 hc' with rfl | hc'
    ·rfl
    ·exact this.2.1 _ hc'
def Qpo : List Value → Option (List V)
 | [] => some []
 | .int .i64 n :: cs => (Qpo cs).map (.i n :: ·)
 | .bool n :: cs => (Qpo cs).map (.b n :: ·)
 | _ => none
def cV (P : Program) (t : TypeId) (c : Value) : Option V :=
 match c with
 | .bool b => some (.b b)
 | .int .i64 n => some (.i n)
 | .int k n => some (.w k n)
 | .slice _ 0 0 => some (.z ((esB P t).getD 0))
 | .pointer none => some .pn
 | .agg cs => if zChk (zV P 9 t) cs.toList then some (.ag (zV P 9 t)) else (Qpo cs.toList).map .ag
 | .tuple cs => if cs.size = 0 then some (.tp []) else none
 | .map none | .nilFunc => some .u
 | _ => none
def rOd (P : Program) (t : TypeId) : Operand → Option Od
 | .tmp n => some (.t n)
 | .const v => (cV P t v).map .k
 | .func f => some (.k (.fn f []))
 | .global _ => none
def Qyt : ∀ (cs : List Value) (vs : List V),Qpo cs = some vs → ∀ S w O,RepL S w O vs cs ∧ vs.length = cs.length := by
 intro cs
 induction cs with
 | nil => intro vs h S w O; simp [Qpo] at h; subst h; simp [RepL]
 | cons c cs ih =>
  intro vs h S w O
  cases c <;> first | (simp [Qpo] at h; done) | skip
  case bool b =>
   simp [Qpo] at h
   obtain ⟨vs',h1,rfl⟩ := h
   have := ih vs' h1 S w O
   simp [RepL,Rep,this]
  case int k n =>
   cases k <;> simp [Qpo] at h
   obtain ⟨vs',h1,rfl⟩ := h
   have := ih vs' h1 S w O
   simp [RepL,Rep,this]
def Qxw {P : Program} {t : TypeId} {c : Value} {v : V} (h : cV P t c = some v) (S : Nat → Prop) (w : World) (O : OInfo) : Rep S w O v c := by
 cases c with
 | bool b => simp [cV] at h; subst h; simp [Rep]
 | int k n => cases k <;> simp [cV] at h <;> subst h <;> simp [Rep]
 | slice a l cp =>
  rcases l with _ | l
  ·rcases cp with _ | cp
   ·simp [cV] at h; subst h; simp [Rep]
   ·simp [cV] at h
  ·simp [cV] at h
 | pointer a => cases a <;> simp [cV] at h; subst h; simp [Rep]
 | agg cs =>
  simp only [cV] at h
  split at h
  ·rename_i hz
   simp at h; subst h
   have := Qfl _ _ hz S w O
   simp only [Rep]
   exact ⟨cs,rfl,by simp [this.2.2],this.1⟩
  ·simp at h
   obtain ⟨vs,h1,rfl⟩ := h
   have := Qyt _ _ h1 S w O
   simp only [Rep]
   exact ⟨cs,rfl,by simp [this.2],this.1⟩
 | tuple cs =>
  simp only [cV] at h
  split at h
  ·rename_i hz
   simp at h; subst h
   simp only [Rep]
   exact ⟨cs,rfl,by simpa using hz,by simp [RepL]⟩
  ·cases h
 | map m =>
  cases m with
  | none => simp [cV] at h; subst h; simp [Rep]
  | some m => simp [cV] at h
 | nilFunc => simp [cV] at h; subst h; simp [Rep]
 | _ => simp [cV] at h
end Go.Fam
namespace Go.Fam
def ldB (P : Program) (t : TypeId) : Option Nat := if Qbt P t then szB P t else (P.underlying t).map fun _ => 1
def Qlb (P : Program) (t : TypeId) : Option (Array Field) := match P.underlying t with | some (.struct fs) => some fs | _ => none
def Qia (P : Program) (t : TypeId) : Bool := match P.underlying t with | some (.int .i64) => true | _ => false
def Qvx (P : Program) (t : TypeId) : Bool := match P.underlying t with | some .bool => true | _ => false
def zOk (P : Program) (t : TypeId) : Bool := match (P.info? t).bind (·.zero) with
 | some z => zChk (zV P 9 t) z.cells.toList && szB P t == some z.cells.size
 | none => false
def Qte (P : Program) (t : TypeId) : Bool := match (P.info? t).bind (·.zero) with
 | some (.agg _) => Qbt P t
 | some (.tuple _) => false
 | some _ => !Qbt P t
 | none => false
def rOds (P : Program) : List Operand → List TypeId → Option (List Od)
 | [],_ => some []
 | x :: xs,[] => do return (← rOd P 0 x) :: (← rOds P xs [])
 | x :: xs,t :: ts => do return (← rOd P t x) :: (← rOds P xs ts)
def rOpt (P : Program) (t : TypeId) : Option Operand → Option (Option Od)
 | none => some none
 | some x => (rOd P t x).map some
def Qma (P : Program) (place : Nat → Option (Nat × Nat × TypeId)) : List (Nat × Operand) → Option (List (Nat × Nat × Od))
 | [] => some []
 | (i,x) :: ps => do
  let (off,sz,t) ← place i
  return (off,sz,← rOd P t x) :: (← Qma P place ps)
def Qs5 (P : Program) (fs : Array Field) (i : Nat) : Option (Nat × Nat × TypeId) := do
 let f ← fs[i]?
 return (f.offset,← szB P f.type,f.type)
def resQ (P : Program) (pu : Bool) (o : Oper) : Option Q :=
 match o.op with
 | .move x | .assign x => (rOd P o.type x).map .mv
 | .pick c a b => do return .pick (← rOd P 0 c) (← rOd P o.type a) (← rOd P o.type b)
 | .binOp op t x y _ =>
  if Qbt P t then
   match op with
   | .eql => do return .eqs false t (← rOd P t x) (← rOd P t y)
   | .neq => do return .eqs true t (← rOd P t x) (← rOd P t y)
   | _ => none
  else if Qvx P t then
   match op with
   | .eql => do return .bq false (← rOd P t x) (← rOd P t y)
   | .neq => do return .bq true (← rOd P t x) (← rOd P t y)
   | _ => none
  else do return .bin op (← rOd P t x) (← rOd P t y)
 | .unOp op t x => match op with
  | .not => (rOd P t x).map .not
  | .neg => (rOd P t x).map .neg
  | _ => none
 | .load t a => do return .ld (Qbt P t) (← ldB P t) (← rOd P 0 a)
 | .fieldAddr t x i => do
  let fs ← Qlb P t
  let f ← fs[i]?
  if szB P f.type = some 0 ∨ szB P f.type = none then none else do return .fad f.offset (← rOd P 0 x)
 | .field t x i => do
  let fs ← Qlb P t
  let f ← fs[i]?
  return .fld (Qbt P f.type) (← ldB P f.type) f.offset (← rOd P t x)
 | .indexAddr t x i => match P.underlying t with
  | some (.array n e) => do return .iaa (← szB P e) n (← rOd P t x) (← rOd P 0 i)
  | _ => do
   let es ← esB P t
   return .iad es (← rOd P t x) (← rOd P 0 i)
 | .index t x i => match P.underlying t with
  | some (.array n e) => if Qbt P e = false ∧ ldB P e = some 1 ∧ szB P e = some 1 then do return .iva n (← rOd P t x) (← rOd P 0 i) else none
  | _ => none
 | .call c => match c.callee with
  | .builtin .len => match c.args.toList,c.argTypes.toList with
   | [x],[t] => match mapB P t with
    | some _ => (rOd P t x).map .mlen
    | none => do let _ ← elB P t; return .len (← rOd P t x)
   | _,_ => none
  | .builtin .min => match c.args.toList with
   | [x,y] => do return .mn (← rOd P 0 x) (← rOd P 0 y)
   | _ => none
  | .builtin .max => match c.args.toList with
   | [x,y] => do return .mx (← rOd P 0 x) (← rOd P 0 y)
   | _ => none
  | .value f => do return .call (← rOd P 0 f) (← rOds P c.args.toList c.argTypes.toList)
  | _ => none
 | .extract x k => do return .ext (← rOd P 0 x) k
 | .nilCheck x => do return .nilc (← rOd P 0 x)
 | .makeFunc (.func f) first caps => if first.size = 0 then do return .mkf f (← rOds P caps.toList []) else if caps.size = 0 then do return .mkb f (← rOds P first.toList []) else none
 | .build t ps => do
  let fs ← Qlb P t
  if zOk P t && (fs.all fun f => (szB P f.type).isSome) then return .bld (zV P 9 t) (← Qma P (Qs5 P fs) ps.toList) else none
 | .convert s d x => if Qia P s && Qia P d then do return .cvt (← rOd P s x) else match P.underlying s,P.underlying d with
  | some (.int _),some (.int k) => do return .cvk k (← rOd P s x)
  | _,_ => none
 | .buildSlice t n ps => if pu then do
   let e ← elB P t
   let es ← szB P e
   if es ≠ 0 ∧ n * es ≤ 16777216 ∧ zOk P e = true then return .bsl es n (zV P 9 e) (← Qma P (fun i => some (i * es,es,e)) ps.toList) else none
  else none
 | .box t x => if pu then do return .box (← rOd P t x) else none
 | .slice t x lo hi none => do
  let es ← esB P t
  return .slc es (← rOd P t x) (← rOpt P 0 lo) (← rOpt P 0 hi)
 | .slice t x none (some hi) (some mx) => do
  let es ← esB P t
  return .slx es (← rOd P t x) (← rOd P 0 hi) (← rOd P 0 mx)
 | .lookup t x k ok => do
  let (kt,et) ← mapB P t
  if zOk P et && Qte P et then return .lkp (zE P et) ok kt (!Qia P kt) (← rOd P t x) (← rOd P kt k) else none
 | .entry x => (rOd P 0 x).map .ent
 | _ => none
def Qbz (F : Fence) : Prop := (∀ f,F.fn f) ∧ F.depth = none ∧ F.alive = false
def Qdy : Qbz Fence.wide := ⟨fun _ => trivial,rfl,rfl⟩
def Qbz.fenced {F : Fence} (h : Qbz F) (P : Program) (m : Machine) : m.fenced P F := by
 intro g _
 refine ⟨fun h' => ?_,Or.inl (h.1 _),fun _ _ => h.1 _,fun _ h' => ?_⟩
 ·rw [h.2.2] at h'; cases h'
 ·rw [h.2.1] at h'; cases h'
def Qbz.room {F : Fence} (h : Qbz F) (n : Nat) : F.room n := fun _ h' => by rw [h.2.1] at h'; cases h'
def Qbz.callsIn {F : Fence} (h : Qbz F) {n : Nat} {P : Program} {f : FuncId} {args : Array Value} {w : World} {R : Ending → World → Prop} (hc : Calls P f args w R) : CallsIn F n P f args w R := by
 refine ⟨h.1 f,fun cs _ => ?_⟩
 obtain ⟨e,w',fr,hR,hs,uI,hl⟩ := hc cs
 refine ⟨e,w',fr,hR,?_,uI,hl⟩
 cases e with
 | outgrown => exact hs
 | returned v => exact (StepsIn.of_steps hs).mono fun m _ => h.fenced P m
 | panicked ch => exact (StepsIn.of_steps hs).mono fun m _ => h.fenced P m
def Qbz.calls {F : Fence} (h : Qbz F) {n : Nat} {P : Program} {f : FuncId} {args : Array Value} {w : World} {R : Ending → World → Prop} (hc : CallsIn F n P f args w R) : Calls P f args w R := by
 intro cs
 obtain ⟨e,w',fr,hR,hs,uI,hl⟩ := hc.2 cs (h.room _)
 exact ⟨e,w',fr,hR,hs.comes,uI,hl⟩
def Qar (P : Program) (t : TypeId) (n : Nat) : Prop := (∃ fs,P.underlying t = some (.struct fs)) ∧ ∀ (xs ys : List Int) (w : World),xs.length = n → ys.length = n →
 (∀ op x y,(op = .eql ∨ op = .neq) → (eqGuard op t x y (.agg (xs.map (Value.int .i64)).toArray) (.agg (ys.map (Value.int .i64)).toArray)).run P w = .ok () w ∧
  (binOp op t (.agg (xs.map (Value.int .i64)).toArray) (.agg (ys.map (Value.int .i64)).toArray)).run P w = .ok (.bool ((op == .neq) ^^ decide (xs = ys))) w) ∧
 (Op.equal t (.agg (xs.map (Value.int .i64)).toArray) (.agg (ys.map (Value.int .i64)).toArray)).run P w = .ok (decide (xs = ys)) w ∧
 ∀ e,(Instr.checkKey e 10000 t (.agg (xs.map (Value.int .i64)).toArray)).run P w = .ok () w
def Qel (P : Program) (f : FuncId) : Prop := ∀ args w,(callFunc f args).run P w = .ok (.enter f args) w
def Sfr (S : Nat → Prop) (w w' : World) : Nat → Prop := fun n => S n ∨ (w.heap.size ≤ n ∧ n < w'.heap.size)
def Qa1 (P : Program) (f : FuncId) (args : List V) (r : V) : Prop :=
 ∀ S w (cargs : Array Value),(∀ n,S n → n < w.heap.size) → cargs.size = args.length → RepL S w noO args cargs.toList →
  Calls P f cargs w fun e w' => ∃ c,e = .returned c ∧ Evol S (Sfr S w w') w w' noO noO ∧ Rep (Sfr S w w') w' noO r c
mutual
def shV (k : Nat) : V → V
 | .ad id g off => .ad (k + id) g off
 | .rf id g off len es => .rf (k + id) g off len es
 | .mp id g => .mp (k + id) g
 | .it id g => .it (k + id) g
 | .ag cs => .ag (shL k cs)
 | .tp cs => .tp (shL k cs)
 | .fn f cs => .fn f (shL k cs)
 | .gv q v => .gv q (shV k v)
 | v => v
def shL (k : Nat) : List V → List V
 | [] => []
 | v :: vs => shV k v :: shL k vs
end
def shB (k : Nat) : Blk → Blk
 | .cells g vs => .cells g (shL k vs)
 | .map st ks vs => .map st ks (shL k vs)
 | .iter mid n l c => .iter (k + mid) n l c
 | b => b
def bV : Blk → V
 | .cells g vs => .ag (.i g :: vs)
 | .map st ks vs => .tp (.b st :: .sl 0 (ks.map fun l => l.map .i) :: vs)
 | _ => .u
def vB : V → Blk
 | .ag (.i g :: vs) => .cells g.toNat vs
 | .tp (.b st :: .sl _ rows :: vs) => .map st (rows.map fun r => (Qdv r).getD []) vs
 | _ => .hole
def Qnh : ∀ l : List Int,Qdv (l.map .i) = some l
 | [] => rfl
 | n :: l => by simp [Qdv,Qnh l]
def Qb2 (g : Nat) (vs : List V) : vB (bV (.cells g vs)) = .cells g vs := by simp [bV,vB]
def Zce (st : Bool) (ks : List (List Int)) (vs : List V) : vB (bV (.map st ks vs)) = .map st ks vs := by
 simp [bV,vB,Function.comp_def,Qnh]
def Qd3 (P : Program) (f : FuncId) (args : List V) (r : V) (hp : List Blk) : Prop :=
 ∀ S w (cargs : Array Value),(∀ n,S n → n < w.heap.size) → cargs.size = args.length → RepL S w noO args cargs.toList →
  Calls P f cargs w fun e w' => ∃ c S' O',e = .returned c ∧ Evol S S' w w' noO O' ∧ Mat S' w' O' hp ∧ Rep S' w' O' r c
def Qdt (P : Program) (f : FuncId) (args : List V) (R : V → List Blk → Prop) : Prop :=
 ∀ S w (cargs : Array Value),(∀ n,S n → n < w.heap.size) → cargs.size = args.length → RepL S w noO args cargs.toList →
  Calls P f cargs w fun e w' => ∃ c S' O' r hp,e = .returned c ∧ R r hp ∧ Evol S S' w w' noO O' ∧ Mat S' w' O' hp ∧ Rep S' w' O' r c
structure Later (w w' : World) : Prop where
 os : w'.os = w.os
 tape : w'.tape = w.tape
 output : w'.output = w.output
 size : w.heap.size ≤ w'.heap.size
 fz : ∀ a,a.block < w.heap.size → w'.frozen? a = w.frozen? a
 old : ∀ n,n < w.heap.size → w'.heap[n]? = w.heap[n]?
def Qxs (P : Program) (gf : FuncId) (caps : List V) (ys : List (List V)) : Prop :=
 ∀ (F : Fence) (n : Nat) (S : Nat → Prop) (w : World) (ccaps : Array Value) (l : Nat) (J Jx : Nat → World → Prop),Qbz F → F.round = none → (∀ n,S n → n < w.heap.size) → ccaps.size = caps.length → RepL S w noO caps ccaps.toList →
  (∀ k W W',J k W → Later W W' → J k W') → (∀ k W W',Jx k W → Later W W' → Jx k W') → (∀ k W,J k W ∨ Jx k W → w.heap.size ≤ W.heap.size ∧ ∀ n,S n → W.heap[n]? = w.heap[n]?) →
  (∀ k x W (cx : Array Value),ys[k]? = some x → J k W → RepL (fun _ => False) W noO x cx.toList → cx.size = x.length →
   YieldAt F (n - 1) P l cx W fun e W' => (e = .returned (.bool true) ∧ J (k + 1) W') ∨ (e = .returned (.bool false) ∧ Jx k W')) →
  J 0 w → CallsIn F n P gf (#[.func (.yield l) #[] #[]] ++ ccaps) w fun e W' => (∃ v,e = .returned v) ∧ (J ys.length W' ∨ ∃ k,Jx k W')
def ghO (hp : List Blk) : Option (List V × Option (List (List V))) := match (hp[0]? : Option Blk) with | some (Blk.gh c y) => some (c,y) | _ => none
def Qb7 (P : Program) (f : FuncId) (args : List V) (hp : List Blk) (R : V → List Blk → Prop) : Prop :=
 ∀ S w O (cargs : Array Value),Mat S w O hp → cargs.size = args.length → RepL S w O args cargs.toList →
  Calls P f cargs w fun e w' => ∃ c S' O' r hp',e = .returned c ∧ R r hp' ∧ Evol S S' w w' O O' ∧ Mat S' w' O' hp' ∧ Rep S' w' O' r c
def Qh1 (O : OInfo) (n : Nat) : OInfo := fun id => if id < n then none else O id
def Qby (O : OInfo) (n : Nat) : OInfo := fun id => if id < n then O id else none
def cutS (S : Nat → Prop) (O : OInfo) (n : Nat) : Nat → Prop := fun k => S k ∨ Own (Qh1 O n) k
abbrev gyA (b : Bool) (bv : List V) : List V := .b b :: bv
abbrev gyE (x z : List V) : List V := [.tp x,.tp z]
structure YOk (P : Program) (F : Fence) (al : List V → Prop) (lo : Nat) (C : (Nat → Prop) → World → OInfo → Option (List V × Option (List (List V))) → Prop) : Prop where
 evol : ∀ {S S' : Nat → Prop} {w w' : World} {O O' : OInfo} {h h' : Option (List V × Option (List (List V)))},C S w O h → (∀ k,S k → k < w.heap.size) → Evol S S' w w' O O' → (∀ y,h = some y → h' = some y) → C S' w' O' h'
 cut : ∀ {S : Nat → Prop} {w : World} {O : OInfo} {h h' : Option (List V × Option (List (List V)))} {k : Nat},C S w O h → lo ≤ k → (∀ y,h = some y → h' = some y) → C (cutS S O k) w (Qby O k) h'
 yld : ∀ {S : Nat → Prop} {w : World} {O : OInfo} {caps bv x z : List V} {rest : List (List V)} {cx : Array Value} {l m : Nat},C S w O (some (caps,some (gyA true bv :: gyE x z :: rest))) → Mat S w O (.hole :: (bv ++ z).map vB) → caps[0]? = some (.yl l) →
  RepL S w O x cx.toList → cx.size = x.length → YieldAt F m P l cx w fun e W' => ∃ b S' O' bv',e = .returned (.bool b) ∧ al bv' ∧ C S' W' O' (some (caps,some (gyA b bv' :: if b then rest else []))) ∧ Ext S S' w W' O O' ∧ Mat S' W' O' (.hole :: (bv' ++ z).map vB)
def Qkc (P : Program) (f : FuncId) (al : List V → Prop) (args : List V) (hp : List Blk) (R : V → List Blk → Prop) : Prop :=
 ∀ (F : Fence) (n lo : Nat) (C : (Nat → Prop) → World → OInfo → Option (List V × Option (List (List V))) → Prop) (S : Nat → Prop) (w : World) (O : OInfo) (cargs : Array Value),Qbz F → F.round = none → YOk P F al lo C → lo ≤ hp.length → C S w O (ghO hp) → Mat S w O hp →
  cargs.size = args.length → RepL S w O args cargs.toList → CallsIn F n P f cargs w fun e w' => ∃ c S' O' r hp',e = .returned c ∧ R r hp' ∧ C S' w' O' (ghO hp') ∧ Ext S S' w w' O O' ∧ Mat S' w' O' hp' ∧ Rep S' w' O' r c
structure Gam where
 f : Nat → List V → Prop × V
 h : Nat → List V → List Blk → Prop × (V → List Blk → Prop)
 al : List V → Prop
 y : Nat → (List V → Prop) → List V → List Blk → Prop × (V → List Blk → Prop)
instance : CoeFun Gam fun _ => Nat → List V → Prop × V := ⟨Gam.f⟩
instance : Coe Gam (Nat → List V → Prop × V) := ⟨Gam.f⟩
structure GOk (P : Program) (Γ : Gam) : Prop where
 pure : ∀ f args,f < 1000000 → (Γ f args).1 → Qel P f ∧ Qa1 P f args (Γ f args).2
 own : ∀ f args r bs,(Γ (1000000 + f) args).1 → f < 1000000 → (Γ (1000000 + f) args).2 = .tp [r,.tp bs] → Qel P f ∧ Qd3 P f args r (bs.map vB)
 iter : ∀ f caps ys,f < 1000000 → (Γ (2000000 + f) caps).1 → (Γ (2000000 + f) caps).2 = .sl 0 ys → Qel P f ∧ Qxs P f caps ys
 rel : ∀ f args,f < 1000000 → (Γ (3000000 + f) args).1 → Qel P f ∧ Qdt P f args fun r hp => ∃ bs : List V,hp = bs.map vB ∧ (Γ (4000000 + f) (.tp (r :: bs) :: args)).1
 heap : ∀ f args hp,(Γ.h f args hp).1 → Qel P f ∧ (∀ r hp',(Γ.h f args hp).2 r hp' → ∀ y,ghO hp = some y → ghO hp' = some y) ∧ Qb7 P f args hp (Γ.h f args hp).2
 yc : ∀ f al args hp,(Γ.y f al args hp).1 → Qel P f ∧ Qkc P f al args hp (Γ.y f al args hp).2
section
variable {P : Program} {F : Fence} {n : Nat}
def Qb9 {o : Oper} {a : Act} {w w' : World} {c : Value} {K : Act → World → Prop} {Q' : Exit → Act → World → Prop} (hF : Qbz F)
  (hd : ∀ c,o.op ≠ .defer c) (hr : (execOp a.eval o).run P w = .ok (.value c) w') (h : K (a.put o.dst c) w') : o.wpIn F n P a w K Q' := by
 refine ⟨fun f _ => hF.1 f,?_⟩
 rw [Oper.semAt_eq _ _ _ hd,hr]
 exact h
def Qjx {o : Oper} {a : Act} {w w' : World} {K : Act → World → Prop} {Q' : Exit → Act → World → Prop} (hF : Qbz F)
  (hd : ∀ c,o.op ≠ .defer c) (hr : (execOp a.eval o).run P w = .ok .skip w') (h : K (a.put o.dst undef) w') : o.wpIn F n P a w K Q' := by
 refine ⟨fun f _ => hF.1 f,?_⟩
 rw [Oper.semAt_eq _ _ _ hd,hr]
 exact h
def Qf5 {o : Oper} {a : Act} {w w' : World} {f : FuncId} {args : Array Value} {K : Act → World → Prop} {Q' : Exit → Act → World → Prop} (hF : Qbz F)
  (hd : ∀ c,o.op ≠ .defer c) (hr : (execOp a.eval o).run P w = .ok (.enter f args) w')
  (h : Calls P f args w' fun e w'' => ∃ c,e = .returned c ∧ K (a.put o.dst c) w'') : o.wpIn F n P a w K Q' := by
 refine ⟨fun f _ => hF.1 f,?_⟩
 rw [Oper.semAt_eq _ _ _ hd,hr]
 refine ⟨fun hh => by simp [hF.2.1] at hh,(hF.callsIn h).mono ?_⟩
 rintro e w2 ⟨c,rfl,hK⟩
 exact hK
def Qf0 {t : TypeId} {d : TypeDesc} (h : P.underlying t = some d) (w : World) : (isAgg t).run P w = .ok (Qbt P t) w := by
 simp only [isAgg,Sem.run_bind,run_underlying h,Result.andThen_ok,Qbt,h]
 cases d <;> rfl
def Qb4 {t : TypeId} {s : Nat} (h : szB P t = some s) (w : World) : (sizeOf t).run P w = .ok s w := by
 simp only [szB,Qe] at h
 obtain ⟨i,hi,rfl⟩ := h
 simp [sizeOf,typeInfo,hi]
def Quz {w : World} {b off : Nat} {cur : Array Value} {e : TypeId} {fr : Nat × Nat} (h : w.heap[b]? = some (.cells cur e fr)) (j : Nat) :
  w.cell? ((⟨b,off,none⟩ : Addr).add j) = (cur.toList.drop off)[j]? := by
 unfold Addr.add
 split
 ·rename_i hj; subst hj; simp [World.cell?,h]
 ·simp [World.cell?,h]
def Qbv {w : World} {b off : Nat} {cur : Array Value} {e : TypeId} {fr : Nat × Nat} (h : w.heap[b]? = some (.cells cur e fr)) (k : Nat) (hk : k ≤ (cur.toList.drop off).length) :
  (loadCells ⟨b,off,none⟩ k).run P w = .ok ((cur.toList.drop off).take k).toArray w := by
 have := run_loadCells_list (P := P) w ⟨b,off,none⟩ ((cur.toList.drop off).take k) (fun j v hv => by
  rw [Quz h,← hv,Zb]
  split
  ·rfl
  ·rename_i hj; rw [Zb,if_neg hj] at hv; cases hv)
 rwa [List.length_take,Nat.min_eq_left hk] at this
def Qhe {w : World} {b off : Nat} {cur : Array Value} {e : TypeId} {fr : Nat × Nat} (h : w.heap[b]? = some (.cells cur e fr)) {t : TypeId} {k : Nat} (ht : ldB P t = some k) {d : TypeDesc} (hu : P.underlying t = some d)
  (hk : k ≤ (cur.toList.drop off).length) :
  (loadVar t ⟨b,off,none⟩).run P w = .ok (if Qbt P t then .agg ((cur.toList.drop off).take k).toArray else (cur.toList.drop off).headD undef) w := by
 simp only [loadVar,Sem.run_bind,Qf0 hu,Result.andThen_ok]
 by_cases ha : Qbt P t = true
 ·simp only [ha,if_true]
  have hs : szB P t = some k := by simpa [ldB,ha] using ht
  simp [Sem.run_bind,Qb4 hs,Qbv h k hk]
 ·simp only [ha]
  have kY : k = 1 := by simpa [ldB,ha,hu] using ht.symm
  subst kY
  have hc := Quz (off := off) h 0
  cases hd : cur.toList.drop off with
  | nil => rw [hd] at hk; simp at hk
  | cons c cs =>
   rw [hd] at hc
   have hc' : w.cell? ⟨b,off,none⟩ = some c := by simpa [Addr.add] using hc
   simp [run_load,hc']
def RepL.head {S : Nat → Prop} {w : World} {O : OInfo} {vs : List V} {cs : List Value} (h : RepL S w O vs cs) (hn : 1 ≤ vs.length) : Rep S w O (vs.headD .u) (cs.headD undef) := by
 cases vs with
 | nil => simp at hn
 | cons v vs =>
  cases cs with
  | nil => simp [RepL] at h
  | cons c cs => simp only [RepL] at h; simpa using h.1
def Qgy {S : Nat → Prop} {w : World} {O : OInfo} {vs : List V} {cs : List Value} (h : RepL S w O vs cs) (ag : Bool) (k : Nat) (hk : k ≤ vs.length) (h1 : ag = false → k = 1) :
  Rep S w O (if ag then .ag (vs.take k) else vs.headD .u) (if ag then .agg (cs.take k).toArray else cs.headD undef) := by
 have hl := RepL.length _ _ h
 cases ag with
 | false => have := h1 rfl; subst this; simpa using h.head hk
 | true =>
  simp only [if_true,Rep]
  refine ⟨_,rfl,by simp; omega,?_⟩
  simpa using RepL.take_both k _ _ (h.take k) (by simp; omega)
def Mat.keep {S S' : Nat → Prop} {w w' : World} {O : OInfo} {hp : List Blk} (h : Mat S w O hp) (hx : Ext S S' w w' O O) (hs : w.heap.size ≤ w'.heap.size)
  (hown : ∀ b,Own O b → w'.heap[b]? = w.heap[b]?) (hlt : ∀ k,S' k → k < w'.heap.size) (jX : ∀ k,S' k → ¬ Own O k) : Mat S' w' O hp := by
 refine ⟨hlt,fun id g b hb => ⟨Qy (h.own id g b hb).1 hs,fun hS => jX b hS ⟨id,g,hb⟩⟩,h.inj,fun id g ob ho => ?_⟩
 have := h.blk id g ob ho
 exact this.ext hx fun b hb => hown b ⟨id,g,by rw [ho,hb]⟩
def Qfo (w : World) (o : Obj) {n : Nat} (h : ¬ n = w.heap.size) : (w.alloc o).heap[n]? = w.heap[n]? := by
 rcases Nat.lt_or_ge n w.heap.size with h' | h'
 ·exact heap_alloc_old w o h'
 ·have : w.heap.size + 1 ≤ n := by omega
  rw [Array.getElem?_eq_none (by simp; omega),Array.getElem?_eq_none (by omega)]
def Qg1 (w : World) (c : Array Value) (t : TypeId) (a : Addr) : (w.alloc (.cells c t)).frozen? a = w.frozen? a := by
 by_cases h : a.block = w.heap.size
 ·have h1 : (w.alloc (.cells c t)).heap[a.block]? = some (.cells c t) := by rw [h]; exact heap_alloc_new w _
  have h2 : w.heap[a.block]? = none := by rw [h]; simp
  simp [World.frozen?,h1,h2]
 ·simp only [World.frozen?,Qfo w _ h]
def Qli {w w' : World} (h : w'.heap = w.heap) (a : Addr) : w'.frozen? a = w.frozen? a := by simp [World.frozen?,h]
def Qn8 {S : Nat → Prop} {w : World} {O : OInfo} {hp : List Blk} (h : Mat S w O hp) (c : Array Value) (t : TypeId) :
  Evol S (fun k => S k ∨ k = w.heap.size) w (w.alloc (.cells c t)) O O ∧ Mat (fun k => S k ∨ k = w.heap.size) (w.alloc (.cells c t)) O hp := by
 obtain ⟨o,ho⟩ : ∃ o : Obj,o = .cells c t := ⟨_,rfl⟩
 have hfz : ∀ a,(w.alloc o).frozen? a = w.frozen? a := by rw [ho]; exact Qg1 w c t
 rw [← ho]
 have jZ : ∀ k,k < w.heap.size → (w.alloc o).heap[k]? = w.heap[k]? := fun k hk => heap_alloc_old w o hk
 have hx : Ext S (fun k => S k ∨ k = w.heap.size) w (w.alloc o) O O :=
  ⟨fun k hk => ⟨.inl hk,jZ k (h.lt k hk)⟩,fun id g ob ho => ⟨g,ob,ho,Qq _,fun _ => ⟨rfl,fun b cur e hb hh =>
   ⟨cur,(jZ b (by subst hb; exact (h.own id g b ho).1)).trans hh,rfl⟩⟩⟩⟩
 refine ⟨⟨hx,rfl,rfl,rfl,by simp,fun a _ => hfz a,fun k hk _ => jZ k hk,fun _ h => .inl h,fun k hk => ?_⟩,?_⟩
 ·rcases hk with hk | hk
  ·exact .inl hk
  ·exact .inr (.inr (by omega))
 ·refine h.keep hx (by simp) (fun b ⟨id,g,hb⟩ => jZ b (h.own id g b hb).1) ?_ ?_
  ·intro k hk
   rcases hk with hk | hk
   ·have := h.lt k hk; simp; omega
   ·simp; omega
  ·rintro k hk ⟨id,g,hb⟩
   have := h.own id g k hb
   rcases hk with hk | hk
   ·exact this.2 hk
   ·omega
def Qn4 (es : Nat) (vs : List V) (off len : Nat) : Qbi es vs off (len + 1) = (vs.drop off).take es :: Qbi es vs (off + es) len := by
 unfold Qbi
 rw [List.range_succ_eq_map,Qi,Q8]
 congr 1
 ·simp
 ·apply Za
  intro k _
  simp only [Function.comp,Nat.succ_eq_add_one,Ze,Nat.one_mul]
  congr 2
  omega
def Qp8 (es : Nat) (vs : List V) (off len : Nat) (f : V → V) : (Qbi es vs off len).map (fun r => r.map f) = Qbi es (vs.map f) off len := by
 unfold Qbi
 rw [Q8]
 apply Za
 intro k _
 simp [List.map_take,List.map_drop]
def Qgk {S : Nat → Prop} {w : World} {es : Nat} {vs : List V} : ∀ (len off : Nat) (cs : List Value),RepL S w noO (vs.drop off) cs → (∀ c ∈ cs,c.oneCell' = true) → off + len * es ≤ vs.length → Qau S w es (Qbi es vs off len) cs
 | 0,off,cs,_,_,_ => by simp [Qbi,Qau]
 | len + 1,off,cs,h,h1,hl => by
  rw [Qn4]
  rw [Qv] at hl
  simp only [Qau]
  refine ⟨⟨by simp; omega,fun c hc => h1 c (Q9 hc)⟩,h.take es,?_⟩
  have hd := h.drop es
  rw [Qp] at hd
  exact Qgk len (off + es) (cs.drop es) hd (fun c hc => h1 c (Qz hc)) (by omega)
def Qcy (es : Nat) (vs : List V) (off len : Nat) : (Qbi es vs off len).length = len := by simp [Qbi]
def RepL.mapTo {S S' : Nat → Prop} {w : World} {O O' : OInfo} (f : V → V) (h : ∀ v c,Rep S w O v c → Rep S' w O' (f v) c) : ∀ (vs : List V) (cs : List Value),RepL S w O vs cs → RepL S' w O' (vs.map f) cs
 | [],_,_ => by simp [RepL]
 | _ :: _,[],h' => by simp [RepL] at h'
 | v :: vs,c :: cs,h' => by simp only [RepL] at h'; simp only [Qi,RepL]; exact ⟨h v c h'.1,RepL.mapTo f h vs cs h'.2⟩
def Qmp {S : Nat → Prop} {w : World} {O : OInfo} {hp : List Blk} (hm : Mat S w O hp) : ∀ (n : Nat) (v : V) (c : Value),Rep S w O v c → Rep (fun k => S k ∨ Own O k) w noO (vw hp n v) c := by
 have hx : Ext S (fun k => S k ∨ Own O k) w w noO noO := ⟨fun k hk => ⟨.inl hk,rfl⟩,fun _ _ _ h => by cases h⟩
 intro n
 induction n with
 | zero => intro v c _; simp [vw,Rep]
 | succ n ih =>
  intro v c h
  cases v with
  | u => simp [vw,Rep]
  | b x => simpa [vw,Rep] using h
  | i x => simpa [vw,Rep] using h
  | pn => simpa [vw,Rep] using h
  | yl x => simpa [vw,Rep] using h
  | w k x => simpa [vw,Rep] using h
  | z es =>
   simp only [vw,Rep] at h ⊢
   obtain ⟨a,rfl⟩ := h
   exact ⟨a,0,rfl,by simp,.inl trivial⟩
  | sl es rows =>
   have h' : Rep S w noO (.sl es rows) c := by simpa only [Rep] using h
   simpa [vw] using Rep.ext hx _ _ h'
  | sx es rows =>
   have h' : Rep S w noO (.sx es rows) c := by simpa only [Rep] using h
   simpa [vw] using Rep.ext hx _ _ h'
  | pa cs =>
   have h' : Rep S w noO (.pa cs) c := by simpa only [Rep] using h
   simpa [vw] using Rep.ext hx _ _ h'
  | ag cs =>
   simp only [vw,Rep] at h ⊢
   obtain ⟨ccs,hc,hn,hr⟩ := h
   exact ⟨ccs,hc,by simpa using hn,RepL.mapTo _ ih _ _ hr⟩
  | tp cs =>
   simp only [vw,Rep] at h ⊢
   obtain ⟨ccs,hc,hn,hr⟩ := h
   exact ⟨ccs,hc,by simpa using hn,RepL.mapTo _ ih _ _ hr⟩
  | fn f cs =>
   simp only [vw,Rep] at h ⊢
   obtain ⟨ccs,hc,hn,hr⟩ := h
   exact ⟨ccs,hc,by simpa using hn,RepL.mapTo _ ih _ _ hr⟩
  | fb f bs =>
   have h' : Rep S w noO (.fb f bs) c := by simpa only [Rep] using h
   simpa [vw] using Rep.ext hx _ _ h'
  | pm st ks vs =>
   have h' : Rep S w noO (.pm st ks vs) c := by simpa only [Rep] using h
   simpa [vw] using Rep.ext hx _ _ h'
  | mp id g =>
   simp only [vw]
   split
   ·rename_i st ks vs jF
    split
    ·rename_i hg
     subst hg
     simp only [Rep] at h ⊢
     obtain ⟨_,gO,ob,hO,kA,hr⟩ := h
     have hb := hm.blk id gO ob hO
     rw [jF] at hb
     simp only [Qb6] at hb
     obtain ⟨h0,b,es,rfl,hh,h1,h2,h3,h4⟩ := hb
     obtain ⟨b',hb',rfl⟩ := hr h0.symm
     cases hb'
     exact ⟨b,es,rfl,.inr ⟨id,gO,hO⟩,hh,h1,RepL.mapTo _ ih _ _ h2,by simpa using h3,h4⟩
    ·simp [Rep]
   ·simp [Rep]
  | it id g => simp [vw,Rep]
  | gv q v =>
   simp only [vw,Rep] at h ⊢
   exact ⟨fun hq => ih v c (h.1 hq),h.2⟩
  | ad id g off =>
   simp only [vw]
   split
   ·rename_i g' vs jF
    split
    ·rename_i hg
     subst hg
     simp only [Rep] at h ⊢
     obtain ⟨_,gO,ob,hO,kA,hr⟩ := h
     have hb := hm.blk id gO ob hO
     rw [jF] at hb
     simp only [Qb6] at hb
     obtain ⟨b,rfl,rfl⟩ := hr hb.1
     obtain ⟨cur,e,hh,kH,h1⟩ := hb.2
     exact ⟨b,off,cur,e,(0,0),rfl,.inr ⟨id,gO,hO⟩,hh,RepL.mapTo _ ih _ _ (kH.drop off)⟩
    ·simp [Rep]
   ·simp [Rep]
  | rf id g off len es =>
   simp only [vw]
   split
   ·rename_i g' vs jF
    split
    ·rename_i hg
     obtain ⟨hg,jV⟩ := hg
     subst hg
     simp only [Rep] at h ⊢
     obtain ⟨_,gO,ob,hO,kA,hr⟩ := h
     have hb := hm.blk id gO ob hO
     rw [jF] at hb
     simp only [Qb6] at hb
     rcases hr hb.1 with ⟨b,cap,cur',e',rfl,hh',rfl,uJ,hsz⟩ | ⟨rfl,rfl,a,rfl⟩
     ·obtain ⟨cur,e,hh,kH,h1⟩ := hb.2
      refine ⟨_,cap,by simp [Qcy],by simpa [Qcy] using uJ,.inr ⟨b,off,cur,e,(0,0),rfl,.inr ⟨id,gO,hO⟩,hh,?_⟩⟩
      rw [Qp8]
      refine Qgk len off _ ?_ (fun c hc => h1 c (Qz hc)) (by simpa using jV)
      rw [← List.map_drop]
      exact RepL.mapTo _ ih _ _ (kH.drop off)
     ·exact ⟨a,0,by simp [Qbi],by simp [Qbi],.inl (by simp [Qbi])⟩
    ·simp [Rep]
   ·simp [Rep]
end
end Go.Fam
namespace Go.Fam
variable {S : Nat → Prop} {w : World} {O : OInfo} {hp : List Blk}
section
variable {P : Program} {F : Fence} {n : Nat}
def Qdr {x : Int} {c : Value} (h : Rep S w O (.i x) c) : c = .int .i64 x := by simpa [Rep] using h
def Zfb {k : IntKind} {x : Int} {c : Value} (h : Rep S w O (.w k x) c) : c = .int k x := by simpa [Rep] using h
def Qkh {x : Bool} {c : Value} (h : Rep S w O (.b x) c) : c = .bool x := by simpa [Rep] using h
def Qjy {x : Int} (h : inI x) : IntKind.i64.wrap x = x := by
 unfold inI at h
 exact IntWalk.i64_in _ h
def Zda {op : BinOp} {t : TypeId} {x y : V} {cx cy : Value} {X Y : Operand}
  (hx : Rep S w O x cx) (hy : Rep S w O y cy) (jA : (binV op x y).1) :
  ∃ c,(do eqGuard op t X Y cx cy; binOp op t cx cy : Sem Value).run P w = .ok c w ∧ Rep S w O (binV op x y).2 c := by
 cases x <;> cases y <;> first | (simp [binV] at jA; done) | skip
 case w.w k p k' q =>
  rw [Zfb hx,Zfb hy]
  by_cases hs : op = .shl ∨ op = .shr
  ·rcases hs with rfl | rfl
   all_goals
    simp only [binV] at jA ⊢
    have hq : ¬ q < 0 := by omega
    simp [eqGuard,binOp,Op.shift,hq,Rep,shlW,shrW]
  have h1 : op ≠ .shl := fun e => hs (.inl e)
  have h2 : op ≠ .shr := fun e => hs (.inr e)
  by_cases hk : k = k'
  ·subst hk
   cases op <;> first | exact absurd rfl h1 | exact absurd rfl h2 | skip
   all_goals simp only [binV,if_true] at jA ⊢
   all_goals first | (simp [binW] at jA; done) | skip
   all_goals simp only [binW,Rep,exists_eq_right]
   all_goals simp [eqGuard,binOp,Op.intArith,Op.intCmp,Op.intBits,Qhh]
   case eql => by_cases h : p = q <;> simp [h]
   case neq => by_cases h : p = q <;> simp [h]
  ·cases op <;> first | exact absurd rfl h1 | exact absurd rfl h2 | skip
   all_goals simp [binV,hk] at jA
 case w.i k p q =>
  rw [Zfb hx,Qdr hy]
  cases op <;> first | (simp [binV] at jA; done) | skip
  all_goals
   simp only [binV] at jA ⊢
   have hq : ¬ q < 0 := by omega
   simp [eqGuard,binOp,Op.shift,hq,Rep,shlW,shrW]
 case i.i p q =>
  rw [Qdr hx,Qdr hy]
  cases op <;> first | (simp [binV] at jA; done) | skip
  all_goals simp only [binV] at jA ⊢
  all_goals simp only [Rep,exists_eq_right]
  case shl => simp [eqGuard,binOp,Op.shift,show ¬ q < 0 by omega,shlW]
  case shr => simp [eqGuard,binOp,Op.shift,show ¬ q < 0 by omega,shrW]
  all_goals simp [eqGuard,binOp,Op.intArith,Op.intCmp,Op.intDiv,Op.intBits,Qhh,Qjy,jA]
  case eql => by_cases h : p = q <;> simp [h]
  case neq => by_cases h : p = q <;> simp [h]
def Zgu {ng : Bool} {op : BinOp} (jE : op = if ng then .neq else .eql) {t : TypeId} (ht : Qvx P t = true) {p q : Bool} {X Y : Operand} :
  (do eqGuard op t X Y (.bool p) (.bool q); binOp op t (.bool p) (.bool q) : Sem Value).run P w = .ok (.bool (ng ^^ (p == q))) w := by
 have hu : P.underlying t = some .bool := by
  unfold Qvx at ht
  split at ht
  ·assumption
  ·cases ht
 have he : (Op.equal t (.bool p) (.bool q)).run P w = .ok (p == q) w := by
  show (Op.equalIn (9999 + 1) t (.bool p) (.bool q)).run P w = _
  generalize 9999 = d
  simp [Op.equalIn,run_underlying hu]
 subst jE
 cases ng
 ·have : (binOp .eql t (.bool p) (.bool q)) = (do pure (.bool (← Op.equal t (.bool p) (.bool q))) : Sem Value) := rfl
  simp [eqGuard,this,he]
 ·have : (binOp .neq t (.bool p) (.bool q)) = (do pure (.bool (!(← Op.equal t (.bool p) (.bool q)))) : Sem Value) := rfl
  simp [eqGuard,this,he]
def Qjk : ∀ (vs : List V) (m : List Int) (cs : List Value),Qdv vs = some m → ∀ S w O,RepL S w O vs cs → cs.length = vs.length → cs = m.map (Value.int .i64) ∧ m.length = vs.length := by
 intro vs
 induction vs with
 | nil => intro m cs h S w O _ hl; simp [Qdv] at h; subst h; simpa using hl
 | cons v vs ih =>
  intro m cs h S w O hr hl
  cases cs with
  | nil => simp [RepL] at hr
  | cons c cs =>
   cases v <;> first | (simp [Qdv] at h; done) | skip
   case i k =>
    simp [Qdv] at h
    obtain ⟨m',hm',rfl⟩ := h
    simp only [RepL] at hr
    have := ih m' cs hm' S w O hr.2 (by simpa using hl)
    simp [Qdr hr.1,this.1,this.2]
def Zdt {ng : Bool} {op : BinOp} (jE : op = if ng then .neq else .eql) {t : TypeId} {xs ys : List V} {m k : List Int} (hm : Qdv xs = some m) (hk : Qdv ys = some k)
  (hE : Qar P t xs.length) (hl : xs.length = ys.length) {S : Nat → Prop} {w : World} {O : OInfo} {cx cy : Value} (hx : Rep S w O (.ag xs) cx) (hy : Rep S w O (.ag ys) cy) {X Y : Operand} :
  (do eqGuard op t X Y cx cy; binOp op t cx cy : Sem Value).run P w = .ok (.bool (ng ^^ decide (m = k))) w := by
 simp only [Rep] at hx hy
 obtain ⟨cxs,rfl,hn,hr⟩ := hx
 obtain ⟨cys,rfl,hn',hr'⟩ := hy
 obtain ⟨e1,l1⟩ := Qjk _ _ _ hm S w O hr (by simpa using hn)
 obtain ⟨e2,l2⟩ := Qjk _ _ _ hk S w O hr' (by simpa using hn')
 have e1' : cxs = (m.map (Value.int .i64)).toArray := by rw [← e1]
 have e2' : cys = (k.map (Value.int .i64)).toArray := by rw [← e2]
 obtain ⟨h1,h2⟩ := (hE.2 m k w l1 (by omega)).1 op X Y (by subst jE; cases ng <;> simp)
 rw [← e1',← e2'] at h1 h2
 simp only [Sem.run_bind,h1,h2,Result.andThen_ok]
 subst jE
 cases ng <;> rfl
def Qr3 {t : TypeId} {k : Nat} (h : ldB P t = some k) : ∃ d,P.underlying t = some d := by
 unfold ldB at h
 split at h
 ·rename_i ha
  unfold Qbt at ha
  cases hu : P.underlying t with
  | none => simp [hu] at ha
  | some d => exact ⟨d,rfl⟩
 ·cases hu : P.underlying t with
  | none => simp [hu] at h
  | some d => exact ⟨d,rfl⟩
def Qlr {t : TypeId} {k : Nat} (h : ldB P t = some k) : Qbt P t = false → k = 1 := by
 intro ha
 simp only [ldB,ha,Q3,if_false,Qe] at h
 obtain ⟨_,_,e⟩ := h
 exact e.symm
def Zal {t : TypeId} {k : Nat} (ht : ldB P t = some k) (hm : Mat S w O hp) {x : V} {cx : Value} (hx : Rep S w O x cx) (jA : (ldV hp (Qbt P t) k x).1) :
  ∃ c,(Instr.loadAt t cx).run P w = .ok c w ∧ Rep S w O (ldV hp (Qbt P t) k x).2 c := by
 obtain ⟨d,hu⟩ := Qr3 ht
 cases x <;> first | (simp [ldV] at jA; done) | skip
 case pa cs =>
  simp only [Rep] at hx
  obtain ⟨blk,off,cur,e,fr,rfl,hS,hh,hr⟩ := hx
  simp only [ldV] at jA ⊢
  have hl := RepL.length _ _ hr
  have jB := Qhe (P := P) (off := off) hh ht hu (by omega)
  refine ⟨_,by simp only [Instr.loadAt,Instr.sureAddr,Sem.run_bind,Sem.run_pure,Result.andThen_ok]; exact jB,?_⟩
  have hr' := RepL.ext (S' := S) (w' := w) (O' := O) ⟨fun _ h => ⟨h,rfl⟩,fun _ _ _ h => by cases h⟩ _ _ hr
  exact Qgy hr' _ k jA (Qlr ht)
 case ad id g off =>
  simp only [ldV] at jA ⊢
  split at jA
  ·rename_i g' vs jF
   obtain ⟨hg,hk⟩ := jA
   subst hg
   simp only [Rep] at hx
   obtain ⟨_,gO,ob,hO,kA,hr⟩ := hx
   have hb := hm.blk id gO ob hO
   rw [jF] at hb
   simp only [Qb6] at hb
   obtain ⟨b,rfl,rfl⟩ := hr hb.1
   obtain ⟨cur,e,hh,kH,h1⟩ := hb.2
   have hd := kH.drop off
   have hl := RepL.length _ _ hd
   have hk' : k ≤ (vs.drop off).length := by simp; omega
   have jB := Qhe (P := P) (off := off) hh ht hu (by omega)
   refine ⟨_,by simp only [Instr.loadAt,Instr.sureAddr,Sem.run_bind,Sem.run_pure,Result.andThen_ok]; exact jB,?_⟩
   exact Qgy hd _ k hk' (Qlr ht)
  ·exact jA.elim
def Qvj {t : TypeId} {fs : Array Field} (hu : P.underlying t = some (.struct fs)) {i : Nat} {f : Field} (hf : fs[i]? = some f) {s : Nat} (hs : szB P f.type = some s) (h0 : s ≠ 0) (b off : Nat) (w : World) :
  (Instr.fieldAt t (.pointer (some ⟨b,off,none⟩)) i).run P w = .ok (.pointer (some ⟨b,off + f.offset,none⟩)) w := by
 have vI : (⟨b,off,none⟩ : Addr).add f.offset = ⟨b,off + f.offset,none⟩ := by unfold Addr.add; split <;> simp_all
 simp [Instr.fieldAt,run_underlying hu,hf,Instr.sureAddr,fieldPlace,Qb4 hs,h0,vI]
def Ze0 {t : TypeId} {fs : Array Field} (hu : P.underlying t = some (.struct fs)) {i : Nat} {f : Field} (hf : fs[i]? = some f) {k : Nat} (hk : ldB P f.type = some k)
  {S : Nat → Prop} {w : World} {O : OInfo} {cs : List V} {c : Value} (hx : Rep S w O (.ag cs) c) (hl : f.offset + k ≤ cs.length) :
  ∃ c',(Instr.field t c i).run P w = .ok c' w ∧ Rep S w O (if Qbt P f.type then .ag ((cs.drop f.offset).take k) else (cs.drop f.offset).headD .u) c' := by
 simp only [Rep] at hx
 obtain ⟨ccs,rfl,hn,hr⟩ := hx
 obtain ⟨d,hd⟩ := Qr3 hk
 have cK := hr.drop f.offset
 have hlen : k ≤ (cs.drop f.offset).length := by simp; omega
 have vN := Qgy cK (Qbt P f.type) k hlen (Qlr hk)
 refine ⟨_,?_,vN⟩
 simp only [Instr.field,Sem.run_bind,run_underlying hu,Result.andThen_ok,hf,asAgg,Sem.run_pure,part,Qf0 hd]
 by_cases ha : Qbt P f.type = true
 ·have hs : szB P f.type = some k := by simpa [ldB,ha] using hk
  have he : ccs.extract f.offset (f.offset + k) = ((ccs.toList.drop f.offset).take k).toArray := by
   apply Array.ext'
   simp [List.extract]
  simp [ha,Qb4 hs,he]
 ·have h1 := Qlr hk (by simpa using ha)
  subst h1
  have hlt : f.offset < ccs.size := by simp at hlen; omega
  have hh : (ccs.toList.drop f.offset).headD undef = ccs[f.offset] := by
   rw [Q5,Zg]
   simp [hlt]
  simp [ha,hlt]
def Ze7 {t e : TypeId} {n : Nat} (hu : P.underlying t = some (.array n e)) (ha : Qbt P e = false) (hk : ldB P e = some 1) (hs : szB P e = some 1)
  {S : Nat → Prop} {w : World} {O : OInfo} {cs : List V} {c : Value} (hx : Rep S w O (.ag cs) c) {k : Int} (h0 : 0 ≤ k ∧ k < n ∧ k < cs.length) :
  ∃ c',(Instr.index t c (.int .i64 k)).run P w = .ok c' w ∧ Rep S w O ((cs.drop k.toNat).headD .u) c' := by
 simp only [Rep] at hx
 obtain ⟨ccs,rfl,hn,hr⟩ := hx
 obtain ⟨d,hd⟩ := Qr3 hk
 have cK := hr.drop k.toNat
 have hlen : 1 ≤ (cs.drop k.toNat).length := by simp; omega
 have vN := Qgy cK (Qbt P e) 1 hlen (Qlr hk)
 rw [ha] at vN
 simp only [Q3,if_false] at vN
 refine ⟨_,?_,vN⟩
 have hlt : k.toNat < ccs.size := by simp at hlen; omega
 have hh : (ccs.toList.drop k.toNat).headD undef = ccs[k.toNat] := by
  rw [Q5,Zg]
  simp [hlt]
 simp [Instr.index,asIntOf,run_underlying hu,h0.1,h0.2.1,Qb4 hs,part,Qf0 hd,ha,hlt]
def Qvv {t e : TypeId} {n es : Nat} (hu : P.underlying t = some (.array n e)) (hs : szB P e = some es) (b off : Nat) {k : Int} (h0 : 0 ≤ k ∧ k < n) (w : World) :
  (Instr.indexAt t (.pointer (some ⟨b,off,none⟩)) (.int .i64 k)).run P w = .ok (.pointer (some ⟨b,off + k.toNat * es,none⟩)) w := by
 have vI : (⟨b,off,none⟩ : Addr).add (k.toNat * es) = ⟨b,off + k.toNat * es,none⟩ := by unfold Addr.add; split <;> simp_all
 simp [Instr.indexAt,asIntOf,run_underlying hu,Instr.sureAddr,h0,Qb4 hs,vI]
def Ze3 {t : TypeId} {es : Nat} (jP : esB P t = some es) (hm : Mat S w O hp) {x i : V} {cx ci : Value} (hx : Rep S w O x cx) (hi : Rep S w O i ci) (jA : (iadV hp es x i).1) :
  ∃ c,(Instr.indexAt t cx ci).run P w = .ok c w ∧ Rep S w O (iadV hp es x i).2 c := by
 obtain ⟨e,hu,hs⟩ : ∃ e,P.underlying t = some (.slice e) ∧ szB P e = some es := by
  simp only [esB,elB,Qa] at jP
  obtain ⟨e,he,hs⟩ := jP
  split at he
  ·rename_i e' hu; cases he; exact ⟨_,hu,hs⟩
  ·cases he
 cases i <;> first | (simp [iadV] at jA; done) | skip
 case i k =>
 rw [Qdr hi]
 have vI : ∀ b off,(⟨b,off,none⟩ : Addr).add (k.toNat * es) = ⟨b,off + k.toNat * es,none⟩ := by intro b off; unfold Addr.add; split <;> simp_all
 cases x <;> first | (simp [iadV] at jA; done) | skip
 case sl es' rows =>
  simp only [iadV] at jA ⊢
  obtain ⟨rfl,h0,hk⟩ := jA
  simp only [Rep] at hx
  obtain ⟨a,cap,rfl,_,hr⟩ := hx
  have j7 : rows ≠ [] := by intro h; subst h; simp at hk; omega
  obtain ⟨blk,off,cur,e',fr,rfl,hS,hh,hrow⟩ := hr.resolve_left j7
  have qS : k.toNat < rows.length := by omega
  refine ⟨.pointer (some ⟨blk,off + k.toNat * es',none⟩),?_,?_⟩
  ·simp [Instr.indexAt,asIntOf,run_underlying hu,h0,hk,Qb4 hs,vI]
  ·simp only [Rep]
   have hg : rows[k.toNat]? = some (rows.getD k.toNat []) := by simp [qS]
   have := Qau.get _ _ k.toNat _ hrow hg
   rw [Qp] at this
   exact ⟨blk,_,cur,e',fr,rfl,hS,hh,this.2⟩
 case rf id g off len es' =>
  simp only [iadV] at jA ⊢
  split at jA
  ·rename_i g' vs jF
   obtain ⟨hg,rfl,h0,hk⟩ := jA
   subst hg
   simp only [Rep] at hx
   obtain ⟨_,gO,ob,hO,kA,hr⟩ := hx
   have hb := hm.blk id gO ob hO
   rw [jF] at hb
   simp only [Qb6] at hb
   rcases hr hb.1 with ⟨b,cap,cur',e',rfl,hh',rfl,uJ,hsz⟩ | ⟨rfl,rfl,a,rfl⟩
   ·refine ⟨.pointer (some ⟨b,off + k.toNat * es',none⟩),?_,?_⟩
    ·simp [Instr.indexAt,asIntOf,run_underlying hu,h0,hk,Qb4 hs,vI]
    ·simp only [Rep]
     exact ⟨rfl,gO,some b,hO,kA,fun _ => ⟨b,rfl,rfl⟩⟩
   ·simp at hk; omega
  ·exact jA.elim
def Qvc {t : TypeId} {es : Nat} (jP : esB P t = some es) : ∃ e,P.underlying t = some (.slice e) ∧ szB P e = some es := by
 simp only [esB,elB,Qa] at jP
 obtain ⟨e,he,hs⟩ := jP
 split at he
 ·rename_i e' hu; cases he; exact ⟨_,hu,hs⟩
 ·cases he
def Zef {t e : TypeId} (hu : P.underlying t = some (.slice e)) {ty : TypeId} {S : Nat → Prop} {w : World} {O : OInfo} {hp : List Blk} (hm : Mat S w O hp) {x : V} {cx : Value} (hx : Rep S w O x cx) (jA : (lenV hp x).1) :
  ∃ c,(Builtin.len_ #[t] ty #[cx]).run P w = .ok c w ∧ Rep S w O (lenV hp x).2 c := by
 cases x <;> first | (simp [lenV] at jA; done) | skip
 case z es =>
  simp only [Rep] at hx
  obtain ⟨a,rfl⟩ := hx
  exact ⟨.int .i64 0,by simp [Builtin.len_,run_underlying hu,goInt],by simp [lenV,Rep]⟩
 case sl es rows =>
  simp only [Rep] at hx
  obtain ⟨a,cap,rfl,_,_⟩ := hx
  exact ⟨.int .i64 rows.length,by simp [Builtin.len_,run_underlying hu,goInt],by simp [lenV,Rep]⟩
 case rf id g off len es =>
  simp only [lenV] at jA ⊢
  split at jA
  ·rename_i g' vs jF
   have hg : g' = g := jA
   subst hg
   simp only [Rep] at hx
   obtain ⟨_,gO,ob,hO,kA,hr⟩ := hx
   have hb := hm.blk id gO ob hO
   rw [jF] at hb
   simp only [Qb6] at hb
   rcases hr hb.1 with ⟨b,cap,cur',e',rfl,hh',rfl,uJ,hsz⟩ | ⟨rfl,rfl,a,rfl⟩
   ·exact ⟨.int .i64 len,by simp [Builtin.len_,run_underlying hu,goInt],by simp [Rep]⟩
   ·exact ⟨.int .i64 0,by simp [Builtin.len_,run_underlying hu,goInt],by simp [Rep]⟩
  ·exact jA.elim
def Zfh {t : TypeId} {es : Nat} (jP : esB P t = some es) {x : V} {cx : Value} (hx : Rep S w O x cx)
  {lo hi : Option V} {clo chi : Option Value} (kL : ∀ v,lo = some v → ∃ c,clo = some c ∧ Rep S w O v c) (q9 : lo = none → clo = none) (yY : ∀ v,hi = some v → ∃ c,chi = some c ∧ Rep S w O v c) (wA : hi = none → chi = none)
  {hp : List Blk} (hm : Mat S w O hp) (jA : (slcV hp es x lo hi).1) :
  ∃ c,(Instr.sliceAt t cx clo chi none).run P w = .ok c w ∧ Rep S w O (slcV hp es x lo hi).2 c := by
 obtain ⟨e,hu,hs⟩ := Qvc jP
 have bound : ∀ (c : Value) (k : Int) (y : Nat) code,c = .int .i64 k → 0 ≤ k → k ≤ y → (Instr.sliceBound c y code).run P w = .ok k.toNat w := by
  intro c k y code hc h0 h1
  subst hc
  simp [Instr.sliceBound,asIntOf,h0,h1]
 cases x <;> first | (simp [slcV] at jA; done) | skip
 case rf id g off len es' =>
  simp only [slcV] at jA ⊢
  split at jA
  ·rename_i g' vs jF
   split at jA
   ·rename_i l h hl hh
    obtain ⟨rfl,rfl,h0,nZ,fW⟩ := jA
    simp only [jF,hl,hh]
    simp only [Rep] at hx ⊢
    obtain ⟨h1,gO,ob,hO,kA,hr⟩ := hx
    have hb := hm.blk id gO ob hO
    rw [jF] at hb
    simp only [Qb6] at hb
    have aO := hb.1
    subst aO
    rcases hr rfl with ⟨b,cap,cur,e2,rfl,zG,v8,uJ,hsz⟩ | ⟨_,hl0,_⟩
    ·subst v8
     have aP : (chi = none ∧ h = len) ∨ chi = some (.int .i64 h) := by
      cases hi with
      | none => left; simp only [Qg6,Qd.injEq] at hh; exact ⟨wA rfl,hh.symm⟩
      | some v =>
       right
       obtain ⟨c,rfl,hc⟩ := yY v rfl
       cases v <;> simp [Qg6] at hh
       subst hh
       rw [Qdr hc]
     have aQ : (clo = none ∧ l = 0) ∨ clo = some (.int .i64 l) := by
      cases lo with
      | none => left; simp only [Qg6,Qd.injEq] at hl; exact ⟨q9 rfl,hl.symm⟩
      | some v =>
       right
       obtain ⟨c,rfl,hc⟩ := kL v rfl
       cases v <;> simp [Qg6] at hl
       subst hl
       rw [Qdr hc]
     clear kL q9 yY wA hl hh
     have hb : (Instr.sliceBounds true len cap clo chi none).run P w = .ok (l.toNat,h.toNat,cap) w := by
      have b1 := bound (.int .i64 h) h cap .sliceAcap rfl (by omega) (by omega)
      have b2 := bound (.int .i64 l) l h.toNat .sliceB rfl (by omega) (by omega)
      unfold Instr.sliceBounds
      rcases aP with ⟨rfl,rfl⟩ | rfl <;> rcases aQ with ⟨rfl,rfl⟩ | rfl <;> simp_all
     have hcl : cap ≠ l.toNat := by omega
     have vI : (⟨b,off,none⟩ : Addr).add (l.toNat * es') = ⟨b,off + l.toNat * es',none⟩ := by unfold Addr.add; split <;> simp_all
     refine ⟨.slice (some ⟨b,off + l.toNat * es',none⟩) (h.toNat - l.toNat) (cap - l.toNat),?_,by rfl,g',some b,hO,Qq _,fun _ => .inl ⟨b,cap - l.toNat,cur,e2,rfl,zG,rfl,by omega,?_⟩⟩
     ·simp [Instr.sliceAt,Instr.slice,run_underlying hu,hb,Qb4 hs,hcl,vI]
     ·have : (l.toNat + (cap - l.toNat)) * es' = cap * es' := by congr 1; omega
      rw [Ze] at this
      omega
    ·omega
   ·exact jA.elim
  ·exact jA.elim
 case sl es' rows =>
 simp only [slcV] at jA ⊢
 split at jA
 ·rename_i l h hl hh
  obtain ⟨rfl,h0,nZ,fW⟩ := jA
  simp only [Rep] at hx
  obtain ⟨a,cap,rfl,zJ,hr⟩ := hx
  have bound : ∀ (c : Value) (k : Int) (y : Nat) code,c = .int .i64 k → 0 ≤ k → k ≤ y → (Instr.sliceBound c y code).run P w = .ok k.toNat w := by
   intro c k y code hc h0 h1
   subst hc
   simp [Instr.sliceBound,asIntOf,h0,h1]
  have aP : (chi = none ∧ h = rows.length) ∨ chi = some (.int .i64 h) := by
   cases hi with
   | none => left; simp only [Qg6,Qd.injEq] at hh; exact ⟨wA rfl,hh.symm⟩
   | some v =>
    right
    obtain ⟨c,rfl,hc⟩ := yY v rfl
    cases v <;> simp [Qg6] at hh
    subst hh
    rw [Qdr hc]
  have aQ : (clo = none ∧ l = 0) ∨ clo = some (.int .i64 l) := by
   cases lo with
   | none => left; simp only [Qg6,Qd.injEq] at hl; exact ⟨q9 rfl,hl.symm⟩
   | some v =>
    right
    obtain ⟨c,rfl,hc⟩ := kL v rfl
    cases v <;> simp [Qg6] at hl
    subst hl
    rw [Qdr hc]
  clear kL q9 yY wA hl hh
  have hb : (Instr.sliceBounds true rows.length cap clo chi none).run P w = .ok (l.toNat,h.toNat,cap) w := by
   have b1 := bound (.int .i64 h) h cap .sliceAcap rfl (by omega) (by omega)
   have b2 := bound (.int .i64 l) l h.toNat .sliceB rfl (by omega) (by omega)
   unfold Instr.sliceBounds
   rcases aP with ⟨rfl,rfl⟩ | rfl <;> rcases aQ with ⟨rfl,rfl⟩ | rfl <;> simp_all
  refine ⟨.slice (if cap = l.toNat then a else a.map (·.add (l.toNat * es'))) (h.toNat - l.toNat) (cap - l.toNat),?_,?_⟩
  ·simp [Instr.sliceAt,Instr.slice,run_underlying hu,hb,Qb4 hs]
  ·simp only [Rep]
   have hlen : ((rows.take h.toNat).drop l.toNat).length = h.toNat - l.toNat := by simp; omega
   refine ⟨_,_,by rw [hlen],by rw [hlen]; omega,?_⟩
   by_cases he : h.toNat - l.toNat = 0
   ·left; exact Qh (by omega)
   ·right
    have j7 : rows ≠ [] := by intro h'; subst h'; simp at fW; omega
    obtain ⟨blk,off,cur,e',fr,rfl,hS,zG,hrow⟩ := hr.resolve_left j7
    have hcl : cap ≠ l.toNat := by omega
    have vI : (⟨blk,off,none⟩ : Addr).add (l.toNat * es') = ⟨blk,off + l.toNat * es',none⟩ := by unfold Addr.add; split <;> simp_all
    refine ⟨blk,off + l.toNat * es',cur,e',fr,by simp [hcl,vI],hS,zG,?_⟩
    have := (hrow.take h.toNat).drop l.toNat
    rwa [Qp] at this
 ·exact jA.elim
def Zfj {t : TypeId} {es : Nat} (jP : esB P t = some es) {x hi mx : V} {cx chi cmx : Value} (hx : Rep S w O x cx)
  (yY : Rep S w O hi chi) (hmx : Rep S w O mx cmx) (jA : (slxV es x hi mx).1) :
  ∃ c,(Instr.sliceAt t cx none (some chi) (some cmx)).run P w = .ok c w ∧ Rep S w O (slxV es x hi mx).2 c := by
 obtain ⟨e,hu,hs⟩ := Qvc jP
 have bound : ∀ (c : Value) (k : Int) (y : Nat) code,c = .int .i64 k → 0 ≤ k → k ≤ y → (Instr.sliceBound c y code).run P w = .ok k.toNat w := by
  intro c k y code hc h0 h1
  subst hc
  simp [Instr.sliceBound,asIntOf,h0,h1]
 unfold slxV at jA ⊢
 split at jA
 ·rename_i es' rows h m
  obtain ⟨rfl,h0,rfl,fW⟩ := jA
  have e1 := Qdr yY
  have e2 := Qdr hmx
  subst e1
  subst e2
  simp only [Rep] at hx
  obtain ⟨a,cap,rfl,zJ,hr⟩ := hx
  have hb : (Instr.sliceBounds true rows.length cap none (some (.int .i64 h)) (some (.int .i64 h))).run P w = .ok (0,h.toNat,h.toNat) w := by
   have b1 := bound (.int .i64 h) h cap .slice3Acap rfl (by omega) (by omega)
   have b2 := bound (.int .i64 h) h h.toNat .slice3B rfl (by omega) (by omega)
   simp [Instr.sliceBounds,b1,b2]
  refine ⟨.slice (if h.toNat = 0 then a else a.map (·.add (0 * es'))) (h.toNat - 0) (h.toNat - 0),?_,?_⟩
  ·simp [Instr.sliceAt,Instr.slice,run_underlying hu,hb,Qb4 hs]
  ·simp only [Rep]
   have hlen : (rows.take h.toNat).length = h.toNat := by simp; omega
   refine ⟨_,by rw [hlen]; rfl,?_⟩
   by_cases he : h.toNat = 0
   ·left; exact Qh (by omega)
   ·right
    have j7 : rows ≠ [] := by intro h'; subst h'; simp at fW; omega
    obtain ⟨blk,off,cur,e',fr,rfl,hS,zG,hrow⟩ := hr.resolve_left j7
    have vI : (⟨blk,off,none⟩ : Addr).add (0 * es') = ⟨blk,off,none⟩ := by unfold Addr.add; simp
    refine ⟨blk,off,cur,e',fr,?_,hS,zG,hrow.take h.toNat⟩
    rw [if_neg he]; simp only [Qj,vI]
 ·rename_i es' h m
  obtain ⟨rfl,rfl,rfl⟩ := jA
  have e1 := Qdr yY
  have e2 := Qdr hmx
  subst e1
  subst e2
  simp only [Rep] at hx
  obtain ⟨a,rfl⟩ := hx
  have hb : (Instr.sliceBounds true 0 0 none (some (.int .i64 0)) (some (.int .i64 0))).run P w = .ok (0,0,0) w := by
   have b1 := bound (.int .i64 0) 0 0 .slice3Acap rfl (by omega) (by omega)
   have b2 := bound (.int .i64 0) 0 0 .slice3B rfl (by omega) (by omega)
   simp only [Int.toNat_zero] at b1 b2
   simp [Instr.sliceBounds,b1,b2]
  refine ⟨.slice a 0 0,?_,?_⟩
  ·simp [Instr.sliceAt,Instr.slice,run_underlying hu,hb,Qb4 hs]
  ·simp only [Rep]
   exact ⟨a,rfl,.inl trivial⟩
 ·exact jA.elim
end
end Go.Fam
namespace Go.Fam
variable {S : Nat → Prop} {w : World} {O : OInfo} {hp : List Blk}
section
variable {P : Program} {F : Fence} {n : Nat}
def Qhy {v : V} {c : Value} (h : Rep S w O v c) (hs : Qrk v = true) :
  RepL S w O v.cells c.cells.toList ∧ c.cells.size = v.cells.length ∧ (v.cells.all Qcg = true → ∀ x ∈ c.cells.toList,x.oneCell' = true) := by
 by_cases kZ : ∃ cs,v = .ag cs
 ·obtain ⟨cs,rfl⟩ := kZ
  have h' := h
  simp only [Rep] at h
  obtain ⟨ccs,rfl,hn,hr⟩ := h
  refine ⟨by simpa [V.cells,Value.cells] using hr,by simpa [V.cells,Value.cells] using hn,fun jR => ?_⟩
  simp only [V.cells,Value.cells] at jR ⊢
  clear h' hs
  have hn' : ccs.toList.length = cs.length := by simpa using hn
  revert hn' jR
  generalize ccs.toList = l at hr ⊢
  clear hn
  induction cs generalizing l with
  | nil => intro jR hn' x hx; have : l = [] := Qh (by simpa using hn'); subst this; cases hx
  | cons v vs ih =>
   intro jR hn'
   cases l with
   | nil => simp [RepL] at hr
   | cons c cs =>
    simp only [RepL] at hr
    simp only [List.all_cons,Qm] at jR
    intro x hx
    rcases Ql.1 hx with rfl | hx
    ·exact hr.1.one (by cases v <;> simp_all [Qcg])
    ·exact ih cs hr.2 jR.2 (by simpa using hn') x hx
 ·have h1 : c.oneCell' = true := h.one (by cases v <;> simp_all [Qrk])
  have hv : v.cells = [v] := by cases v <;> simp_all [V.cells]
  have hc : c.cells = #[c] := by cases c <;> simp_all [Value.cells,Value.oneCell']
  rw [hv,hc]
  exact ⟨by simp [RepL,h],by simp,by simp [h1]⟩
def Qsd (off : Nat) : ∀ (l : List Value) (k : Nat) (cs : Array Value),off + k + l.length ≤ cs.size →
  ((l.zipIdx k).foldl (fun (cs : Array Value) (x : Value × Nat) => cs.setIfInBounds (off + x.2) x.1) cs).toList = cs.toList.take (off + k) ++ l ++ cs.toList.drop (off + k + l.length)
 | [],k,cs,h => by simp
 | c :: l,k,cs,h => by
  simp only [List.zipIdx_cons,List.foldl_cons]
  simp only [Qw] at h
  rw [Qsd off l (k + 1) _ (by simp; omega)]
  have hlt : off + k < cs.toList.length := by simp; omega
  simp only [Array.toList_setIfInBounds,Qw]
  have e1 : off + (k + 1) = off + k + 1 := by omega
  rw [e1]
  rw [List.take_set,List.drop_set,if_pos (by omega)]
  have e2 : (cs.toList.take (off + k + 1)).set (off + k) c = cs.toList.take (off + k) ++ [c] := by
   rw [List.take_succ_eq_append_getElem hlt]
   have e4 : (cs.toList.take (off + k)).length = off + k := by simp at hlt ⊢; omega
   rw [List.set_append_right _ _ (by omega),e4]
   simp
  rw [e2]
  have e3 : off + k + 1 + l.length = off + k + (l.length + 1) := by omega
  rw [e3]
  simp
def RepL.putAt {vs ns : List V} {cs ms : List Value} (h : RepL S w O vs cs) (hn : RepL S w O ns ms) (hl : ms.length = ns.length) (hcs : cs.length = vs.length) (off : Nat) (dF : off + ns.length ≤ vs.length) :
  RepL S w O (Fam.putAt off ns vs) (cs.take off ++ ms ++ cs.drop (off + ms.length)) ∧ (Fam.putAt off ns vs).length = vs.length := by
 unfold Fam.putAt
 refine ⟨?_,by simp; omega⟩
 refine RepL.append _ _ _ _ (RepL.append _ _ _ _ (RepL.take_both off _ _ (h.take off) (by simp; omega)) (by simp; omega) hn) (by simp; omega) ?_
 rw [hl]
 exact h.drop _
inductive Parts (S : Nat → Prop) (w : World) (O : OInfo) (place : Nat → Option (Nat × Nat)) : List (Nat × Nat × V) → List (Nat × Value) → Prop
 | nil : Parts S w O place [] []
 | cons {off sz i : Nat} {v : V} {c : Value} {vs : List (Nat × Nat × V)} {cs : List (Nat × Value)} (hp : place i = some (off,sz)) (hr : Rep S w O v c) (h : Parts S w O place vs cs) : Parts S w O place ((off,sz,v) :: vs) ((i,c) :: cs)
def Qs9 {place : Nat → Option (Nat × Nat)} {vs : List (Nat × Nat × V)} {ps : List (Nat × Value)} (hp : Parts S w O place vs ps) :
  ∀ (zs : List V) (cs : Array Value),RepL S w O zs cs.toList → cs.size = zs.length → Qck zs.length vs →
   ∃ cells,Instr.fill place cs ps = some cells ∧ cells.size = zs.length ∧ RepL S w O (Qbg vs zs) cells.toList ∧ (Qbg vs zs).length = zs.length ∧
    (Qc8 vs → (∀ c ∈ cs.toList,c.oneCell' = true) → ∀ c ∈ cells.toList,c.oneCell' = true) := by
 induction hp with
 | nil => intro zs cs h hl _; exact ⟨cs,rfl,hl,h,rfl,fun _ h1 => h1⟩
 | @cons off sz i v c vs ps xL hr hp ih =>
  intro zs cs h hl jA
  simp only [Qck] at jA
  obtain ⟨⟨hs,hsz,dF⟩,jA⟩ := jA
  obtain ⟨r1,r2,r3⟩ := Qhy hr hs
  have kU := Qsd off c.cells.toList 0 cs (by simp; omega)
  simp only [Nat.add_zero] at kU
  have kC := h.putAt (ns := v.cells) (ms := c.cells.toList) r1 (by simpa using r2) (by simpa using hl) off (by omega)
  rw [← kU] at kC
  have vU : (c.cells.toList.zipIdx.foldl (fun (cs : Array Value) (x : Value × Nat) => cs.setIfInBounds (off + x.2) x.1) cs).size = (putAt off v.cells zs).length := by
   rw [← Array.length_toList,kU,kC.2]; simp; omega
  obtain ⟨cells,hf,hc1,vO,uZ,wB⟩ := ih _ _ kC.1 vU (by rw [kC.2]; exact jA)
  refine ⟨cells,?_,hc1.trans kC.2,vO,uZ.trans kC.2,fun hone h1 => ?_⟩
  ·unfold Instr.fill
   rw [xL]
   simp only
   rw [if_neg (by simp; omega)]
   rw [← hf]
   congr 1
   rw [← Array.foldl_toList]
   simp
  ·simp only [Qc8] at hone
   refine wB hone.2 ?_
   rw [kU]
   intro x hx
   rcases Q1.1 hx with hx | hx
   ·rcases Q1.1 hx with hx | hx
    ·exact h1 x (Q9 hx)
    ·exact r3 hone.1 x hx
   ·exact h1 x (Qz hx)
def Qeg {t : TypeId} (h : zOk P t = true) : ∃ i z,P.info? t = some i ∧ i.zero = some z ∧ zChk (zV P 9 t) z.cells.toList = true ∧ szB P t = some z.cells.size := by
 unfold zOk at h
 split at h
 ·rename_i z hz
  simp only [Qa] at hz
  obtain ⟨i,hi,hz⟩ := hz
  simp only [Qm,beq_iff_eq] at h
  exact ⟨i,z,hi,hz,h⟩
 ·cases h
def Zdb {t : TypeId} {fs : Array Field} (hu : P.underlying t = some (.struct fs)) (hz : zOk P t = true) (hsz : fs.all (fun f => (szB P f.type).isSome) = true)
  {S : Nat → Prop} {w : World} {O : OInfo} {vs : List (Nat × Nat × V)} {ps : Array (Nat × Value)}
  (hp : Parts S w O (fun i => (Qs5 P fs i).map fun x => (x.1,x.2.1)) vs ps.toList) (jA : Qck (zV P 9 t).length vs) :
  ∃ c,(Instr.build t ps).run P w = .ok c w ∧ Rep S w O (.ag (Qbg vs (zV P 9 t))) c := by
 obtain ⟨i,z,hi,vJ,xA,zK⟩ := Qeg hz
 obtain ⟨z1,z2,z3⟩ := Qfl _ _ xA S w O
 obtain ⟨cells,hf,hc1,vO,uZ,_⟩ := Qs9 hp _ z.cells z1 (by simpa using z3.symm) jA
 have wC : ∃ places,fs.toList.mapM (fun f : Field => (P.info? f.type).map fun i => (f.offset,i.size)) = some places ∧
   (fun i => places.toArray[i]?) = (fun i => (Qs5 P fs i).map fun x => (x.1,x.2.1)) := by
  have jR : ∀ f : Field,f ∈ fs.toList → (szB P f.type).isSome = true := fun f hf => Array.all_eq_true_iff_forall_mem.1 hsz f (by simpa using hf)
  have key : ∀ l : List Field,(∀ f : Field,f ∈ l → (szB P f.type).isSome = true) → ∃ places : List (Nat × Nat),l.mapM (fun f : Field => (P.info? f.type).map fun i => (f.offset,i.size)) = some places ∧
    ∀ i : Nat,places[i]? = (do let f : Field ← l[i]?; return (f.offset,← szB P f.type) : Option (Nat × Nat)) := by
   intro l
   induction l with
   | nil => intro _; exact ⟨[],rfl,fun i => by simp⟩
   | cons f l ih =>
    intro h
    obtain ⟨places,h1,h2⟩ := ih fun f hf => h f (by simp [hf])
    have hf := h f (by simp)
    simp only [szB,Option.isSome_map] at hf
    obtain ⟨j,hj⟩ := Option.isSome_iff_exists.1 hf
    refine ⟨(f.offset,j.size) :: places,by simp [hj,h1],fun i => ?_⟩
    cases i with
    | zero => simp [szB,hj]
    | succ i => simpa using h2 i
  obtain ⟨places,h1,h2⟩ := key fs.toList jR
  refine ⟨places,h1,funext fun i => ?_⟩
  have := h2 i
  simp only [List.getElem?_toArray,this,Qs5]
  cases u0 : fs[i]? with
  | none => simp [u0]
  | some f =>
   cases hs : szB P f.type <;> simp [u0,hs]
 obtain ⟨places,xL,n5⟩ := wC
 refine ⟨.agg cells,?_,?_⟩
 ·refine run_build w t ps cells ?_
  unfold Program.built
  simp only [hi,hu,vJ,xL]
  rw [n5]
  exact hf
 ·simp only [Rep]
  exact ⟨cells,rfl,by rw [hc1,uZ],vO⟩
def RepL.flatten {zs : List V} {cs : List Value} (h : RepL S w O zs cs) (hl : cs.length = zs.length) : ∀ n,RepL S w O (Qf n zs).flatten (Qf n cs).flatten ∧ (Qf n cs).flatten.length = (Qf n zs).flatten.length
 | 0 => by simp [RepL]
 | n + 1 => by
  have ih := RepL.flatten h hl n
  simp only [Qx,Qt]
  exact ⟨RepL.append _ _ _ _ h hl ih.1,by simp only [Q4,ih.2,hl]⟩
def Qmb (z : Array Value) (hz : 0 < z.size) : ∀ n,((Array.range (n * z.size)).map fun i => z[i % z.size]!).toList = (Qf n z.toList).flatten := by
 intro n
 apply Qn
 intro j
 have key : ∀ (n : Nat) (l : List Value),l ≠ [] → ∀ j,j < n * l.length → (Qf n l).flatten[j]? = l[j % l.length]? := by
  intro n l hl
  induction n with
  | zero => intro j hj; simp at hj
  | succ n ih =>
   intro j hj
   simp only [Qx,Qt]
   by_cases h : j < l.length
   ·rw [List.getElem?_append_left h,Nat.mod_eq_of_lt h]
   ·rw [List.getElem?_append_right (by omega),ih _ (by rw [Qv] at hj; omega)]
    congr 1
    rw [Nat.mod_eq_sub_mod (a := j) (by omega)]
 by_cases hj : j < n * z.size
 ·rw [key n z.toList (by intro h; simp at h; subst h; simp at hz) j (by simpa using hj)]
  have hm : j % z.size < z.size := Nat.mod_lt _ hz
  simp [hj,hm]
 ·have h1 : ((Array.range (n * z.size)).map fun i => z[i % z.size]!).toList.length = n * z.size := by simp
  rw [Qs (by omega)]
  symm
  rw [Qs]
  have : ∀ n : Nat,(Qf n z.toList).flatten.length = n * z.size := by
   intro n
   induction n with
   | zero => simp
   | succ n ih => simp only [Qx,Qt,Q4,ih,Array.length_toList,Qv]; omega
  rw [this]; omega
def Quy {t e : TypeId} {es k : Nat} (hu : P.underlying t = some (.slice e)) (hs : szB P e = some es) (h0 : es ≠ 0) (jV : k * es ≤ 16777216) (hz : zOk P e = true)
  {S : Nat → Prop} {w : World} {O : OInfo} {vs : List (Nat × Nat × V)} {ps : Array (Nat × Value)}
  (hp : Parts S w O (fun i => some (i * es,es)) vs ps.toList) (jA : Qck (k * es) vs) (hone : Qc8 vs) :
  ∃ cells,(Instr.buildSlice t k ps).run P w = .ok (.slice (some ⟨w.heap.size,0,none⟩) k k) (w.alloc (.cells cells e)) ∧ cells.size = k * es ∧
   RepL S w O (Qbg vs (Qf k (zV P 9 e)).flatten) cells.toList ∧ (Qbg vs (Qf k (zV P 9 e)).flatten).length = k * es ∧ (∀ c ∈ cells.toList,c.oneCell' = true) := by
 obtain ⟨i,z,hi,vJ,xA,zK⟩ := Qeg hz
 obtain ⟨z1,z2,z3⟩ := Qfl _ _ xA S w O
 have vD : i.size = es := by simpa [szB,hi] using hs
 have wV := RepL.flatten (S := S) (w := w) (O := O) z1 (by simpa using z3.symm) k
 have u4 : z.cells.size = es := by rw [hs] at zK; exact (Qd.inj zK).symm
 have hrep : ∀ (l : List V) (m : Nat),(Qf m l).flatten.length = m * l.length := by
  intro l m
  induction m with
  | zero => simp
  | succ m ih => simp only [Qx,Qt,Q4,ih,Qv]; omega
 have hlen : (Qf k (zV P 9 e)).flatten.length = k * es := by rw [hrep,z3]; simp [u4]
 have j8 := Qmb z.cells (by omega) k
 rw [u4] at j8
 have dH : RepL S w O (Qf k (zV P 9 e)).flatten ((Array.range (k * es)).map fun i => z.cells[i % es]!).toList := by rw [j8]; exact wV.1
 have yZ : ∀ c ∈ ((Array.range (k * es)).map fun i => z.cells[i % es]!).toList,c.oneCell' = true := by
  rw [j8]
  intro c hc
  rw [List.mem_flatten] at hc
  obtain ⟨l,hl,hc⟩ := hc
  rw [List.eq_of_mem_replicate hl] at hc
  exact z2 c hc
 obtain ⟨cells,hf,hc1,vO,uZ,wB⟩ := Qs9 hp _ ((Array.range (k * es)).map fun i => z.cells[i % es]!) dH (by simp [hlen]) (by rw [hlen]; exact jA)
 refine ⟨cells,?_,by rw [hc1,hlen],vO,by rw [uZ,hlen],wB hone yZ⟩
 have y0 : ¬ (k * es > 2 ^ 24) := by omega
 by_cases hk : k = 0
 ·subst hk
  have uK : Array.range 0 = #[] := rfl
  have hf' : Instr.fill (fun i => some (i * es,es)) #[] ps.toList = some cells := by simpa [uK] using hf
  simp [Instr.buildSlice,run_underlying hu,Qb4 hs,uK,hf',newRow]
 ·have j7 : k * es ≠ 0 := Nat.mul_ne_zero hk h0
  have n7 : (zeroValue e).run P w = .ok z w := by simp [zeroValue,typeInfo,hi,vJ]
  simp only [Instr.buildSlice,Sem.run_bind,run_underlying hu,Result.andThen_ok,Qb4 hs,if_neg y0,if_neg j7,n7,Sem.run_pure,u4]
  simp [hf,newRow]
end
end Go.Fam
namespace Go.Fam
variable {S : Nat → Prop} {w : World} {O : OInfo} {hp : List Blk}
section
variable {P : Program} {F : Fence} {n : Nat}
mutual
theorem Qew {S : Nat → Prop} {w : World} {O : OInfo} : ∀ (v : V) (c : Value),Qan v = false → Rep S w O v c → Rep S w noO v c
 | .u,_,_,_ => by simp [Rep]
 | .b _,c,_,h => by simpa only [Rep] using h
 | .i _,c,_,h => by simpa only [Rep] using h
 | .z _,c,_,h => by simpa only [Rep] using h
 | .sl _ _,c,_,h => by simpa only [Rep] using h
 | .sx _ _,c,_,h => by simpa only [Rep] using h
 | .pa _,c,_,h => by simpa only [Rep] using h
 | .pn,c,_,h => by simpa only [Rep] using h
 | .yl _,c,_,h => by simpa only [Rep] using h
 | .w _ _,c,_,h => by simpa only [Rep] using h
 | .pm _ _ _,c,_,h => by simpa only [Rep] using h
 | .fb _ _,c,_,h => by simpa only [Rep] using h
 | .ag cs,c,hn,h => by
  simp only [Qan] at hn
  simp only [Rep] at h ⊢
  obtain ⟨ccs,hc,hl,hr⟩ := h
  exact ⟨ccs,hc,hl,Qdx cs _ hn hr⟩
 | .tp cs,c,hn,h => by
  simp only [Qan] at hn
  simp only [Rep] at h ⊢
  obtain ⟨ccs,hc,hl,hr⟩ := h
  exact ⟨ccs,hc,hl,Qdx cs _ hn hr⟩
 | .fn f cs,c,hn,h => by
  simp only [Qan] at hn
  simp only [Rep] at h ⊢
  obtain ⟨ccs,hc,hl,hr⟩ := h
  exact ⟨ccs,hc,hl,Qdx cs _ hn hr⟩
 | .ad _ _ _,_,hn,_ => by simp [Qan] at hn
 | .rf _ _ _ _ _,_,hn,_ => by simp [Qan] at hn
 | .mp _ _,_,hn,_ => by simp [Qan] at hn
 | .it _ _,_,hn,_ => by simp [Qan] at hn
 | .gv q v,c,hn,h => by
  simp only [Qan] at hn
  simp only [Rep] at h ⊢
  exact ⟨fun hq => Qew v c hn (h.1 hq),h.2⟩
theorem Qdx {S : Nat → Prop} {w : World} {O : OInfo} : ∀ (vs : List V) (cs : List Value),Qa8 vs = false → RepL S w O vs cs → RepL S w noO vs cs
 | [],_,_,_ => by simp [RepL]
 | _ :: _,[],_,h => by simp [RepL] at h
 | v :: vs,c :: cs,hn,h => by
  simp only [Qa8,Qo] at hn
  simp only [RepL] at h ⊢
  exact ⟨Qew v c hn.1 h.1,Qdx vs cs hn.2 h.2⟩
end
def Qhm : ∀ (vs : List V),Qa8 vs = false → ∀ v ∈ vs,Qan v = false := by
 intro vs
 induction vs with
 | nil => intro _ v hv; cases hv
 | cons v vs ih =>
  intro h x hx
  simp only [Qa8,Qo] at h
  rcases Ql.1 hx with rfl | hx
  ·exact h.1
  ·exact ih h.2 x hx
def Qiw : ∀ (n : Nat) (v : V) (c : Value),Qan v = false → Rep S w noO v c → Rep S w noO (vw hp n v) c := by
 intro n
 induction n with
 | zero => intro v c _ _; simp [vw,Rep]
 | succ n ih =>
  have ihL : ∀ (vs : List V) (cs : List Value),Qa8 vs = false → RepL S w noO vs cs → RepL S w noO (vs.map (vw hp n)) cs := by
   intro vs
   induction vs with
   | nil => intro cs _ _; simp [RepL]
   | cons v vs ihv =>
    intro cs hn h
    cases cs with
    | nil => simp [RepL] at h
    | cons c cs =>
     simp only [Qa8,Qo] at hn
     simp only [RepL] at h
     simp only [Qi,RepL]
     exact ⟨ih v c hn.1 h.1,ihv cs hn.2 h.2⟩
  intro v c hn h
  cases v with
  | z es =>
   simp only [vw,Rep] at h ⊢
   obtain ⟨a,rfl⟩ := h
   exact ⟨a,0,rfl,by simp,.inl trivial⟩
  | ag cs =>
   simp only [Qan] at hn
   simp only [vw,Rep] at h ⊢
   obtain ⟨ccs,hc,hl,hr⟩ := h
   exact ⟨ccs,hc,by simpa using hl,ihL _ _ hn hr⟩
  | tp cs =>
   simp only [Qan] at hn
   simp only [vw,Rep] at h ⊢
   obtain ⟨ccs,hc,hl,hr⟩ := h
   exact ⟨ccs,hc,by simpa using hl,ihL _ _ hn hr⟩
  | fn f cs =>
   simp only [Qan] at hn
   simp only [vw,Rep] at h ⊢
   obtain ⟨ccs,hc,hl,hr⟩ := h
   exact ⟨ccs,hc,by simpa using hl,ihL _ _ hn hr⟩
  | gv q v =>
   simp only [Qan] at hn
   simp only [vw,Rep] at h ⊢
   exact ⟨fun hq => ih v c hn (h.1 hq),h.2⟩
  | ad _ _ _ => simp [Qan] at hn
  | rf _ _ _ _ _ => simp [Qan] at hn
  | mp _ _ => simp [Qan] at hn
  | it _ _ => simp [Qan] at hn
  | _ => simpa [vw] using h
mutual
theorem Qsc {S S' : Nat → Prop} {w w' : World} {O O' : OInfo} : ∀ (v : V) (c : Value),flat v = true → Rep S w O v c → Rep S' w' O' v c
 | .b _,c,_,h => by simpa only [Rep] using h
 | .i _,c,_,h => by simpa only [Rep] using h
 | .z _,c,_,h => by simpa only [Rep] using h
 | .pn,c,_,h => by simpa only [Rep] using h
 | .w _ _,c,_,h => by simpa only [Rep] using h
 | .ag cs,c,hn,h => by
  simp only [flat] at hn
  simp only [Rep] at h ⊢
  obtain ⟨ccs,hc,hl,hr⟩ := h
  exact ⟨ccs,hc,hl,Qlg cs _ hn hr⟩
 | .tp cs,c,hn,h => by
  simp only [flat] at hn
  simp only [Rep] at h ⊢
  obtain ⟨ccs,hc,hl,hr⟩ := h
  exact ⟨ccs,hc,hl,Qlg cs _ hn hr⟩
 | .u,_,hn,_ => by simp [flat] at hn
 | .sl _ _,_,hn,_ => by simp [flat] at hn
 | .sx _ _,_,hn,_ => by simp [flat] at hn
 | .pa _,_,hn,_ => by simp [flat] at hn
 | .pm _ _ _,_,hn,_ => by simp [flat] at hn
 | .fb _ _,_,hn,_ => by simp [flat] at hn
 | .fn _ _,_,hn,_ => by simp [flat] at hn
 | .yl _,_,hn,_ => by simp [flat] at hn
 | .ad _ _ _,_,hn,_ => by simp [flat] at hn
 | .rf _ _ _ _ _,_,hn,_ => by simp [flat] at hn
 | .mp _ _,_,hn,_ => by simp [flat] at hn
 | .it _ _,_,hn,_ => by simp [flat] at hn
 | .gv _ _,_,hn,_ => by simp [flat] at hn
theorem Qlg {S S' : Nat → Prop} {w w' : World} {O O' : OInfo} : ∀ (vs : List V) (cs : List Value),Qmt vs = true → RepL S w O vs cs → RepL S' w' O' vs cs
 | [],_,_,_ => by simp [RepL]
 | _ :: _,[],_,h => by simp [RepL] at h
 | v :: vs,c :: cs,hn,h => by
  simp only [Qmt,Qm] at hn
  simp only [RepL] at h ⊢
  exact ⟨Qsc v c hn.1 h.1,Qlg vs cs hn.2 h.2⟩
end
def Qmc {v : V} {c : Value} (h : Rep S w noO v c) : Rep S w O v c :=
 Rep.ext ⟨fun _ h => ⟨h,rfl⟩,fun _ _ _ h => by cases h⟩ v c h
def Qtl {Γ : Gam} (hG : GOk P Γ) (hm : Mat S w O hp) {g : Nat} {as0 : List V} {cargs : Array Value}
  (hsz : cargs.size = as0.length) (hr : RepL S w O as0 cargs.toList) (vP : g < 1000000) (jA : (Γ g (as0.map (vw hp 8))).1) (xM : Qa8 as0 = true → flat (Γ g (as0.map (vw hp 8))).2 = true) :
  Qel P g ∧ Calls P g cargs w fun e w' => ∃ c S',e = .returned c ∧ Evol S S' w w' O O ∧ Mat S' w' O hp ∧ Rep S' w' O (Γ g (as0.map (vw hp 8))).2 c := by
 obtain ⟨hen,fX⟩ := hG.pure g _ vP jA
 refine ⟨hen,?_⟩
 have fin : ∀ (S1 : Nat → Prop) (w' : World),(∀ k,S k → S1 k) → Evol S1 (Sfr S1 w w') w w' noO noO → Evol S (Sfr S w w') w w' O O ∧ Mat (Sfr S w w') w' O hp := by
  intro S1 w' gA jD
  have jZ : ∀ k,k < w.heap.size → w'.heap[k]? = w.heap[k]? := fun k hk => jD.old k hk (by rintro ⟨id,g,h⟩; cases h)
  have hx : Ext S (Sfr S w w') w w' O O := ⟨fun k hk => ⟨.inl hk,(jD.ext.keep k (gA k hk)).2⟩,fun id g ob ho => ⟨g,ob,ho,Qq _,fun _ => ⟨rfl,fun b cur e hb hh =>
   ⟨cur,(jZ b (by subst hb; exact (hm.own id g b ho).1)).trans hh,rfl⟩⟩⟩⟩
  refine ⟨⟨hx,jD.os,jD.tape,jD.output,jD.size,jD.fz,fun k hk _ => jZ k hk,fun _ h => .inl h,?_⟩,?_⟩
  ·rintro k (hk | hk)
   ·exact .inl hk
   ·exact .inr (.inr hk.1)
  ·refine hm.keep hx jD.size (fun b ⟨id,g,hb⟩ => jZ b (hm.own id g b hb).1) ?_ ?_
   ·rintro k (hk | hk)
    ·exact Qy (hm.lt k hk) jD.size
    ·exact hk.2
   ·rintro k (hk | hk) ⟨id,g,hb⟩
    ·exact (hm.own id g k hb).2 hk
    ·have := (hm.own id g k hb).1; omega
 by_cases gD : Qa8 as0 = true
 ·have hr' : RepL (fun k => S k ∨ Own O k) w noO (as0.map (vw hp 8)) cargs.toList := RepL.mapTo _ (fun v c h => Qmp hm 8 v c h) _ _ hr
  refine (fX (fun k => S k ∨ Own O k) w cargs ?_ (by simpa using hsz) hr').mono ?_
  ·rintro k (hk | ⟨id,g,hk⟩)
   ·exact hm.lt k hk
   ·exact (hm.own id g k hk).1
  ·rintro e w' ⟨c,rfl,jD,hrep⟩
   obtain ⟨h1,h2⟩ := fin _ w' (fun k hk => .inl hk) jD
   exact ⟨c,_,rfl,h1,h2,Qsc _ _ (xM gD) hrep⟩
 ·have wW : Qa8 as0 = false := by simpa using gD
  have iJ : RepL S w noO (as0.map (vw hp 8)) cargs.toList := by
   have h0 := Qdx _ _ wW hr
   clear hr jA xM fX hsz gD hen fin
   revert h0 wW
   generalize cargs.toList = cs
   induction as0 generalizing cs with
   | nil => intro _ _; simp [RepL]
   | cons v vs ih =>
    intro hn h
    cases cs with
    | nil => simp [RepL] at h
    | cons c cs =>
     simp only [Qa8,Qo] at hn
     simp only [RepL] at h
     simp only [Qi,RepL]
     exact ⟨Qiw 8 v c hn.1 h.1,ih cs hn.2 h.2⟩
  refine (fX S w cargs hm.lt (by simpa using hsz) iJ).mono ?_
  rintro e w' ⟨c,rfl,jD,hrep⟩
  obtain ⟨h1,h2⟩ := fin _ w' (fun k hk => hk) jD
  exact ⟨c,_,rfl,h1,h2,Qmc hrep⟩
end
end Go.Fam
namespace Go.Fam
section
variable {P : Program}
def putK (ks : List (List Int)) (l : List Int) : List (List Int) := if l ∈ ks then ks else ks ++ [l]
def Qfv {α : Type} (ks : List (List Int)) (vs : List α) (l : List Int) (v : α) : List α := if l ∈ ks then vs.set (ks.idxOf l) v else vs ++ [v]
def Qth (P : Program) (kt : TypeId) (sk : Bool) (ks : List (List Int)) (l : List Int) : Prop :=
 (sk = false → P.underlying kt = some (.int .i64) ∧ l.length = 1 ∧ ∀ k ∈ ks,k.length = 1) ∧ (sk = true → Qar P kt l.length ∧ ∀ k ∈ ks,k.length = l.length)
def Zc5 {l : List Int} (h : l.length = 1) : l = [l.headD 0] := by
 match l,h with
 | [x],_ => rfl
def Qlc (x : Int) : ∀ (es : List MapEntry) (ks : List (List Int)) (i : Nat),es.map (·.key) = ks.map (keyC false) → (∀ k ∈ ks,k.length = 1) →
  ∃ r,Instr.findNow (.int .i64) (.int .i64 x) es i = some r ∧ (([x] ∈ ks ∧ ∃ e,es[ks.idxOf [x]]? = some e ∧ r = some (i + ks.idxOf [x],e.val)) ∨ ([x] ∉ ks ∧ r = none))
 | [],ks,i,h,_ => by
  have : ks = [] := by simpa using h.symm
  subst this
  exact ⟨none,rfl,.inr ⟨by simp,rfl⟩⟩
 | e :: es,[],i,h,_ => by simp at h
 | e :: es,k :: ks,i,h,h1 => by
  simp only [Qi,Zj.injEq] at h
  obtain ⟨he,h⟩ := h
  have hk := Zc5 (h1 k (by simp))
  have hkey : e.key = .int .i64 (k.headD 0) := by rw [he]; rfl
  by_cases hx : x = k.headD 0
  ·refine ⟨some (i,e.val),?_,.inl ⟨by rw [hk,← hx]; simp,e,?_,?_⟩⟩
   ·simp [Instr.findNow,hkey,Instr.sameNow,hx]
   ·rw [hk,← hx]; simp
   ·rw [hk,← hx]; simp
  ·obtain ⟨r,hr,jG⟩ := Qlc x es ks (i + 1) h (fun k' hk' => h1 k' (by simp [hk']))
   have j7 : k ≠ [x] := by rintro rfl; exact hx rfl
   refine ⟨r,?_,?_⟩
   ·have hx' : (x == k.headD 0) = false := beq_false_of_ne hx
    simp only [Instr.findNow,hkey,Instr.sameNow,if_true,hx',hr]
   ·have gE : (k :: ks).idxOf [x] = ks.idxOf [x] + 1 := by rw [Zh,beq_false_of_ne j7]; rfl
    rw [gE]
    rcases jG with ⟨h2,e',he',hr'⟩ | ⟨h2,hr'⟩
    ·exact .inl ⟨by simp [h2],e',by simpa using he',by rw [hr']; congr 2; omega⟩
    ·exact .inr ⟨by simp [h2,Ne.symm j7],hr'⟩
def Qh8 {kt : TypeId} {l : List Int} (hE : Qar P kt l.length) (w : World) : ∀ (es : List MapEntry) (ks : List (List Int)) (i : Nat),es.map (·.key) = ks.map (keyC true) → (∀ k ∈ ks,k.length = l.length) →
  ∃ r,(Instr.findAsking kt (keyC true l) es i).run P w = .ok r w ∧ ((l ∈ ks ∧ ∃ e,es[ks.idxOf l]? = some e ∧ r = some (i + ks.idxOf l,e.val)) ∨ (l ∉ ks ∧ r = none))
 | [],ks,i,h,_ => by
  have : ks = [] := by simpa using h.symm
  subst this
  exact ⟨none,by simp [Instr.findAsking],.inr ⟨by simp,rfl⟩⟩
 | e :: es,[],i,h,_ => by simp at h
 | e :: es,k :: ks,i,h,h1 => by
  simp only [Qi,Zj.injEq] at h
  obtain ⟨he,h⟩ := h
  have x6 := (hE.2 l k w rfl (h1 k (by simp))).2.1
  have hkey : e.key = .agg (k.map (Value.int .i64)).toArray := by rw [he]; rfl
  by_cases hx : l = k
  ·subst hx
   refine ⟨some (i,e.val),?_,.inl ⟨by simp,e,by simp,by simp⟩⟩
   simp only [Instr.findAsking,hkey,keyC,if_true,Sem.run_bind,x6,Result.andThen_ok]
   simp
  ·obtain ⟨r,hr,jG⟩ := Qh8 hE w es ks (i + 1) h (fun k' hk' => h1 k' (by simp [hk']))
   refine ⟨r,?_,?_⟩
   ·simp only [keyC,if_true] at hr
    simp only [Instr.findAsking,hkey,keyC,if_true,Sem.run_bind,x6,Result.andThen_ok]
    simp [hx,hr]
   ·have gE : (k :: ks).idxOf l = ks.idxOf l + 1 := by rw [Zh,beq_false_of_ne (Ne.symm hx)]; rfl
    rw [gE]
    rcases jG with ⟨h2,e',he',hr'⟩ | ⟨h2,hr'⟩
    ·exact .inl ⟨by simp [h2],e',by simpa using he',by rw [hr']; congr 2; omega⟩
    ·exact .inr ⟨by simp [h2,hx],hr'⟩
def Qhl {kt : TypeId} {sk : Bool} {ks : List (List Int)} {l : List Int} (hK : Qth P kt sk ks l) (w : World) {es : List MapEntry} (h : es.map (·.key) = ks.map (keyC sk)) :
  ∃ r,(Instr.findKey kt (keyC sk l) es).run P w = .ok r w ∧ ((l ∈ ks ∧ ∃ e,es[ks.idxOf l]? = some e ∧ r = some (ks.idxOf l,e.val)) ∨ (l ∉ ks ∧ r = none)) := by
 cases sk with
 | false =>
  obtain ⟨hu,hl,h1⟩ := hK.1 rfl
  have hl' := Zc5 hl
  obtain ⟨r,hr,hc⟩ := Qlc (l.headD 0) es ks 0 h h1
  rw [← hl'] at hc
  refine ⟨r,?_,by simpa using hc⟩
  simp only [Instr.findKey,keyC,Sem.run_bind,run_underlying hu,Result.andThen_ok,Q3,if_false,hr,Sem.run_pure]
 | true =>
  obtain ⟨hE,h1⟩ := hK.2 rfl
  obtain ⟨fs,hu⟩ := hE.1
  cases es with
  | nil =>
   have : ks = [] := by simpa using h.symm
   subst this
   refine ⟨none,?_,.inr ⟨by simp,rfl⟩⟩
   simp [Instr.findKey,run_underlying hu,Instr.findNow]
  | cons e es =>
   obtain ⟨r,hr,hc⟩ := Qh8 hE w (e :: es) ks 0 h h1
   refine ⟨r,?_,by simpa using hc⟩
   cases ks with
   | nil => simp at h
   | cons k ks =>
    have hkey : e.key = .agg (k.map (Value.int .i64)).toArray := by simp only [Qi,Zj.injEq] at h; rw [h.1]; rfl
    simp only [Instr.findKey,Sem.run_bind,run_underlying hu,Result.andThen_ok,Instr.findNow,keyC,if_true,hkey,Instr.sameNow]
    simpa only [keyC,if_true] using hr
def Qfy {kt : TypeId} {sk : Bool} {ks : List (List Int)} {l : List Int} (hK : Qth P kt sk ks l) (e : Bool) (w : World) : (Instr.checkKey e 10000 kt (keyC sk l)).run P w = .ok () w := by
 cases sk with
 | false =>
  obtain ⟨hu,hl,h1⟩ := hK.1 rfl
  obtain ⟨m,hm⟩ : ∃ m,10000 = m + 1 := ⟨9999,rfl⟩
  rw [hm]
  simp [Instr.checkKey,run_underlying hu,keyC]
 | true => exact ((hK.2 rfl).1.2 l l w rfl rfl).2.2 e
def Qk9 (sk : Bool) (l : List Int) : Instr.sameBits 10000 (keyC sk l) (keyC sk l) = true := by
 obtain ⟨m,hm⟩ : ∃ m,10000 = m + 1 + 1 := ⟨9998,rfl⟩
 rw [hm]
 cases sk with
 | false => simp [keyC,Instr.sameBits]
 | true =>
  simp only [keyC,if_true,Instr.sameBits,beq_self_eq_true,Bool.true_and]
  rw [List.all_eq_true]
  rintro ⟨x,y⟩ wX
  have : ∀ (l : List Int) (x y : Value),(x,y) ∈ (l.map (Value.int .i64)).zip (l.map (Value.int .i64)) → ∃ n,x = .int .i64 n ∧ y = .int .i64 n := by
   intro l
   induction l with
   | nil => intro x y h; simp at h
   | cons n l ih =>
    intro x y h
    simp only [Qi,List.zip_cons_cons,Ql,Prod.mk.injEq] at h
    rcases h with ⟨rfl,rfl⟩ | h
    ·exact ⟨n,rfl,rfl⟩
    ·exact ih x y h
  obtain ⟨n,rfl,rfl⟩ := this l x y (by simpa using wX)
  simp [Instr.sameBits]
def Qni {t kt et : TypeId} (ht : P.underlying t = some (.map kt et)) {sk : Bool} {ks : List (List Int)} {l : List Int} (hK : Qth P kt sk ks l) {w : World} {b : Nat} {es : Array MapEntry} {clock : Nat}
  (hb : w.heap[b]? = some (.map es clock)) (jP : es.toList.map (·.key) = ks.map (keyC sk)) {z : Value} (hz : ∀ w,(zeroValue et).run P w = .ok z w) (ok : Bool) :
  ∃ v,(Instr.lookup t (.map (some b)) (keyC sk l) ok).run P w = .ok (if ok then .tuple #[v,.bool (decide (l ∈ ks))] else v) w ∧ ((l ∈ ks ∧ ∃ e,es[ks.idxOf l]? = some e ∧ v = e.val) ∨ (l ∉ ks ∧ v = z)) := by
 obtain ⟨r,hr,hc⟩ := Qhl hK w jP
 have vH := Qfy hK es.isEmpty w
 have hg := run_getObj_map (P := P) (hb := hb)
 rcases hc with ⟨h1,e,he,hr'⟩ | ⟨h1,hr'⟩
 ·subst hr'
  refine ⟨e.val,?_,.inl ⟨h1,e,by simpa using he,rfl⟩⟩
  simp only [Instr.lookup,Sem.run_bind,run_underlying ht,Result.andThen_ok,hg,Sem.run_pure,vH,hr]
  cases ok <;> simp [h1]
 ·subst hr'
  refine ⟨z,?_,.inr ⟨h1,rfl⟩⟩
  simp only [Instr.lookup,Sem.run_bind,run_underlying ht,Result.andThen_ok,hg,Sem.run_pure,vH,hr,hz]
  cases ok <;> simp [h1]
def Qgr {α β : Type} {f : α → β} {l : List α} {m : List β} (h : l.map f = m) (i : Nat) : (l[i]?).map f = m[i]? := by rw [← h,Qk]
def Zad {sk : Bool} {ks : List (List Int)} {l : List Int} {es : Array MapEntry} (h : Qhg sk ks es) (hl : l ∈ ks) (v : Value) :
  Qhg sk ks (es.modify (ks.idxOf l) fun e => { e with val := v }) ∧ (es.modify (ks.idxOf l) fun e => { e with val := v }).toList.map (·.val) = (es.toList.map (·.val)).set (ks.idxOf l) v ∧
   (es.modify (ks.idxOf l) fun e => { e with key := keyC sk l,val := v }) = (es.modify (ks.idxOf l) fun e => { e with val := v }) ∧ (es.modify (ks.idxOf l) fun e => { e with key := keyC sk l }) = es ∧
   (es.modify (ks.idxOf l) fun e => { e with val := v }).size = es.size := by
 have hlt : ks.idxOf l < ks.length := Qu hl
 have hlen : es.size = ks.length := by have := congrArg Zf h.1; simpa using this
 have hkey : ∀ e,es[ks.idxOf l]? = some e → e.key = keyC sk l := by
  intro e he
  have := Qgr h.1 (ks.idxOf l)
  rw [Array.getElem?_toList,he] at this
  simp only [Qj,Qk,Qg hlt,Qj,List.getElem_idxOf hlt,Qd.injEq] at this
  exact this
 have uL : ∀ (f : MapEntry → MapEntry) (i : Nat),(es.modify (ks.idxOf l) f)[i]? = if ks.idxOf l = i then (es[i]?).map f else es[i]? := by
  intro f i
  rw [Array.getElem?_modify]
 have vV : (es.modify (ks.idxOf l) fun e => { e with key := keyC sk l }) = es := by
  apply Array.ext_getElem?
  intro i
  rw [uL]
  split
  ·rename_i hi
   subst hi
   cases he : es[ks.idxOf l]? with
   | none => rfl
   | some e => simp only [Qj,Qd.injEq]; rw [← hkey e he]
  ·rfl
 have kY : (es.modify (ks.idxOf l) fun e => { e with key := keyC sk l,val := v }) = (es.modify (ks.idxOf l) fun e => { e with val := v }) := by
  apply Array.ext_getElem?
  intro i
  rw [uL,uL]
  split
  ·rename_i hi
   subst hi
   cases he : es[ks.idxOf l]? with
   | none => rfl
   | some e => simp only [Qj,Qd.injEq]; rw [← hkey e he]
  ·rfl
 refine ⟨⟨?_,?_⟩,?_,kY,vV,by simp⟩
 ·rw [← h.1]
  apply Qn
  intro i
  simp only [Qk,Array.getElem?_toList,uL]
  split
  ·cases es[i]? <;> rfl
  ·rfl
 ·intro i e he
  rw [uL] at he
  split at he
  ·cases z7 : es[i]? with
   | none => rw [z7] at he; cases he
   | some e' => rw [z7] at he; simp only [Qj,Qd.injEq] at he; subst he; exact h.2 i e' z7
  ·exact h.2 i e he
 ·apply Qn
  intro i
  simp only [Qk,Array.getElem?_toList,uL,Zc,Zi,Array.length_toList]
  split
  ·rename_i hi
   subst hi
   rw [if_pos (by omega)]
   obtain ⟨e,he⟩ : ∃ e,es[ks.idxOf l]? = some e := ⟨_,Array.getElem?_eq_getElem (by omega)⟩
   rw [he]; rfl
  ·rfl
def Qvd {sk : Bool} {ks : List (List Int)} {es : Array MapEntry} (h : Qhg sk ks es) (l : List Int) (v : Value) :
  Qhg sk (ks ++ [l]) (es.push { key := keyC sk l,val := v,born := es.size }) ∧ (es.push { key := keyC sk l,val := v,born := es.size }).toList.map (·.val) = es.toList.map (·.val) ++ [v] := by
 refine ⟨⟨by simp [h.1],?_⟩,by simp⟩
 intro i e he
 rw [Array.getElem?_push] at he
 split at he
 ·rename_i hi; simp only [Qd.injEq] at he; subst he; exact hi.symm
 ·exact h.2 i e he
def Qoh {t kt et : TypeId} (ht : P.underlying t = some (.map kt et)) {sk : Bool} {ks : List (List Int)} {l : List Int} (hK : Qth P kt sk ks l) {w : World} {b : Nat} {es : Array MapEntry}
  (hb : w.heap[b]? = some (.map es es.size)) (jP : Qhg sk ks es) (v : Value) :
  ∃ es' : Array MapEntry,(Instr.mapUpdate t (.map (some b)) (keyC sk l) v).run P w = .ok () (w.putObj b (.map es' es'.size)) ∧ Qhg sk (putK ks l) es' ∧ es'.toList.map (·.val) = Qfv ks (es.toList.map (·.val)) l v := by
 obtain ⟨r,hr,hc⟩ := Qhl hK w jP.1
 have vH := Qfy hK false w
 have hg := run_getObj_map (P := P) (hb := hb)
 have kU : ∀ o,(setObj b o).run P w = .ok () (w.putObj b o) := fun o => by simp [setObj,Sem.run,hb,World.putObj]
 rcases hc with ⟨h1,e,he,hr'⟩ | ⟨h1,hr'⟩
 ·subst hr'
  obtain ⟨g1,g2,g3,g4,g5⟩ := Zad jP h1 v
  refine ⟨_,?_,by rw [putK,if_pos h1]; exact g1,by rw [Qfv,if_pos h1]; exact g2⟩
  have he' : es[ks.idxOf l]? = some e := by simpa using he
  have hkey : e.key = keyC sk l := by
   have := Qgr jP.1 (ks.idxOf l)
   have hlt : ks.idxOf l < ks.length := Qu h1
   rw [Array.getElem?_toList,he'] at this
   simpa [Qg hlt] using this
  simp only [Instr.mapUpdate,Sem.run_bind,run_underlying ht,Result.andThen_ok,hg,vH,hr,he',Qj,Q6,hkey,Instr.keyThatStays,Qk9,if_true,Sem.run_pure,kU,g3]
  rw [g5]
 ·subst hr'
  obtain ⟨g1,g2⟩ := Qvd jP l v
  refine ⟨_,?_,by rw [putK,if_neg h1]; exact g1,by rw [Qfv,if_neg h1]; exact g2⟩
  simp only [Instr.mapUpdate,Sem.run_bind,run_underlying ht,Result.andThen_ok,hg,vH,hr,kU]
  simp
def Qpw {t kt et : TypeId} (ht : P.underlying t = some (.map kt et)) {sk : Bool} {ks : List (List Int)} {l : List Int} (hK : Qth P kt sk ks l) {w : World} {b : Nat} {es : Array MapEntry}
  (hb : w.heap[b]? = some (.map es es.size)) (jP : Qhg sk ks es) {z : Value} (hz : ∀ w,(zeroValue et).run P w = .ok z w) :
  ∃ (es' : Array MapEntry) (v : Value),(Instr.mapEntry t (.map (some b)) (keyC sk l)).run P w = .ok (.tuple #[v,.int .i64 (ks.idxOf l)]) (w.putObj b (.map es' es'.size)) ∧ Qhg sk (putK ks l) es' ∧
   ((l ∈ ks ∧ (∃ e,es[ks.idxOf l]? = some e ∧ v = e.val) ∧ es'.toList.map (·.val) = es.toList.map (·.val)) ∨ (l ∉ ks ∧ v = z ∧ es'.toList.map (·.val) = es.toList.map (·.val) ++ [z])) := by
 obtain ⟨r,hr,hc⟩ := Qhl hK w jP.1
 have vH := Qfy hK false w
 have hg := run_getObj_map (P := P) (hb := hb)
 have kU : ∀ o,(setObj b o).run P w = .ok () (w.putObj b o) := fun o => by simp [setObj,Sem.run,hb,World.putObj]
 rcases hc with ⟨h1,e,he,hr'⟩ | ⟨h1,hr'⟩
 ·subst hr'
  obtain ⟨g1,g2,g3,g4,g5⟩ := Zad jP h1 e.val
  have he' : es[ks.idxOf l]? = some e := by simpa using he
  have hkey : e.key = keyC sk l := by
   have := Qgr jP.1 (ks.idxOf l)
   have hlt : ks.idxOf l < ks.length := Qu h1
   rw [Array.getElem?_toList,he'] at this
   simpa [Qg hlt] using this
  refine ⟨es,e.val,?_,by rw [putK,if_pos h1]; exact jP,.inl ⟨h1,⟨e,he',rfl⟩,rfl⟩⟩
  simp only [Instr.mapEntry,Sem.run_bind,run_underlying ht,Result.andThen_ok,hg,vH,hr,he',Qj,Q6,hkey,Instr.keyThatStays,Qk9,if_true,Sem.run_pure,kU,g4,jP.2 _ _ he']
  simp [goInt]
 ·subst hr'
  obtain ⟨g1,g2⟩ := Qvd jP l z
  refine ⟨_,z,?_,by rw [putK,if_neg h1]; exact g1,.inr ⟨h1,rfl,g2⟩⟩
  have gE : ks.idxOf l = es.size := by
   rw [Q0 h1]
   have := congrArg Zf jP.1
   simpa using this.symm
  simp only [Instr.mapEntry,Sem.run_bind,run_underlying ht,Result.andThen_ok,hg,vH,hr,kU,hz,gE]
  simp [goInt]
def Qms {t : TypeId} {sk : Bool} {ks : List (List Int)} {w : World} {b : Nat} {es : Array MapEntry} (hb : w.heap[b]? = some (.map es es.size)) (jP : Qhg sk ks es) {i : Int} (h0 : 0 ≤ i) (hi : i < es.size) (v : Value) :
  (Instr.entryStore t (.map (some b)) (.int .i64 i) v).run P w = .ok () (w.putObj b (.map (es.modify i.toNat fun e => { e with val := v }) es.size)) := by
 have hg := run_getObj_map (P := P) (hb := hb)
 have kU : ∀ o,(setObj b o).run P w = .ok () (w.putObj b o) := fun o => by simp [setObj,Sem.run,hb,World.putObj]
 have hf : es.findIdx? (fun e => (e.born : Int) == i) = some i.toNat := by
  rw [Array.findIdx?_eq_some_iff_getElem]
  have hlt : i.toNat < es.size := by omega
  refine ⟨hlt,?_,?_⟩
  ·have := jP.2 i.toNat es[i.toNat] (Array.getElem?_eq_getElem hlt)
   simp [this]; omega
  ·intro j hj
   have := jP.2 j es[j] (Array.getElem?_eq_getElem (by omega))
   simp [this]; omega
 simp only [Instr.entryStore,Sem.run_bind,Sem.run_pure,Result.andThen_ok,hg,asInt,asIntOf,hf,kU]
def Qkq {S : Nat → Prop} {w : World} {O : OInfo} {v : V} {c : Value} {s : Bool} {l : List Int} (h : keyL v = some (s,l)) (hr : Rep S w O v c) : c = keyC s l ∧ (s = false → l.length = 1) := by
 cases v <;> first | (simp [keyL] at h; done) | skip
 case i x =>
  simp only [keyL,Qd.injEq,Prod.mk.injEq] at h
  obtain ⟨rfl,rfl⟩ := h
  exact ⟨by rw [Qdr hr]; rfl,fun _ => rfl⟩
 case ag cs =>
  simp only [keyL,Qe,Prod.mk.injEq] at h
  obtain ⟨l',hl,rfl,rfl⟩ := h
  simp only [Rep] at hr
  obtain ⟨ccs,rfl,hn,hr⟩ := hr
  obtain ⟨e1,_⟩ := Qjk _ _ _ hl S w O hr (by simpa using hn)
  refine ⟨?_,fun h => by cases h⟩
  simp only [keyC,if_true]
  rw [← e1]
def Qkp {kt : TypeId} {sk st : Bool} {ks : List (List Int)} {s : Bool} {l : List Int} (hf : Qg7 (Qar P) kt sk st ks s l) (zH : sk = !Qia P kt) (h1 : s = false → l.length = 1) (h2 : st = false → ∀ k ∈ ks,k.length = 1) :
  Qth P kt sk ks l ∧ s = sk ∧ st = sk := by
 obtain ⟨rfl,rfl,hE⟩ := hf
 refine ⟨⟨fun h => ⟨?_,h1 h,h2 h⟩,hE⟩,rfl,rfl⟩
 have : Qia P kt = true := by rw [h] at zH; simpa using zH.symm
 unfold Qia at this
 split at this
 ·rename_i hu; exact hu
 ·cases this
def Zcj {t : TypeId} (hz : zOk P t = true) (hs : Qte P t = true) : ∃ z,(∀ w,(zeroValue t).run P w = .ok z w) ∧ ∀ S w O,Rep S w O (zE P t) z := by
 obtain ⟨i,z,hi,vJ,xA,hsz⟩ := Qeg hz
 refine ⟨z,fun w => by simp [zeroValue,typeInfo,hi,vJ],fun S w O => ?_⟩
 obtain ⟨z1,z2,z3⟩ := Qfl _ _ xA S w O
 unfold Qte at hs
 simp only [hi,Option.bind_some,vJ] at hs
 unfold zE
 cases z with
 | agg cs =>
  simp only at hs
  rw [if_pos hs]
  simp only [Rep]
  exact ⟨cs,rfl,z3.symm,z1⟩
 | tuple cs => cases hs
 | _ =>
  have hs' : Qbt P t = false := by simpa using hs
  rw [hs',if_neg (by simp)]
  have := z1.head (by rw [z3]; exact Qq 1)
  simpa [Value.cells] using this
def Qig {t kt et : TypeId} (h : mapB P t = some (kt,et)) : P.underlying t = some (.map kt et) := by
 unfold mapB at h
 split at h
 ·rename_i k e hu; simp only [Qd.injEq,Prod.mk.injEq] at h; rw [hu,h.1,h.2]
 ·cases h
def Qcj {st : Bool} {ks : List (List Int)} {es : Array MapEntry} (h : Qhg st ks es) : es.size = ks.length := by
 have := congrArg Zf h.1
 simpa using this
def Qe6 {S : Nat → Prop} {w : World} {O : OInfo} {hp : List Blk} (hm : Mat S w O hp) {id g : Nat} {c : Value} (hr : Rep S w O (.mp id g) c) {st : Bool} {ks : List (List Int)} {vs : List V} (jF : hp[id]? = some (.map st ks vs)) (hg : g = 0) :
  ∃ b es,O id = some (0,some b) ∧ c = .map (some b) ∧ w.heap[b]? = some (.map es es.size) ∧ Qhg st ks es ∧ RepL S w O vs (es.toList.map (·.val)) ∧ vs.length = ks.length ∧ ks.Nodup ∧ (st = false → ∀ k ∈ ks,k.length = 1) := by
 subst hg
 simp only [Rep] at hr
 obtain ⟨_,g',ob,hO,_,h1⟩ := hr
 have hb := hm.blk id g' ob hO
 rw [jF] at hb
 simp only [Qb6] at hb
 obtain ⟨rfl,b,es,rfl,h2⟩ := hb
 obtain ⟨b',hb',hc⟩ := h1 rfl
 cases hb'
 exact ⟨b,es,hO,hc,h2⟩
def Qp3 {S : Nat → Prop} {w : World} {O : OInfo} {vs : List V} {es : Array MapEntry} (h : RepL S w O vs (es.toList.map (·.val))) {i : Nat} {e : MapEntry} (he : es[i]? = some e) (hl : vs.length = es.size) :
  ∃ v,vs[i]? = some v ∧ Rep S w O v e.val := by
 have hlt : i < es.size := (Array.getElem?_eq_some_iff.1 he).1
 obtain ⟨v,hv⟩ : ∃ v,vs[i]? = some v := ⟨_,Qg (by omega)⟩
 obtain ⟨c,hc,hr⟩ := RepL.get _ _ i v h hv
 rw [Qk,Array.getElem?_toList,he] at hc
 cases hc
 exact ⟨v,hv,hr⟩
def Qgv {ks : List (List Int)} {l : List Int} (h : ks.Nodup) : (putK ks l).Nodup := by
 unfold putK
 split
 ·exact h
 ·rename_i hl
  rw [List.nodup_append]
  exact ⟨h,by simp,fun a ha b hb => by simp at hb; subst hb; rintro rfl; exact hl ha⟩
def Qsz {sk : Bool} {ks : List (List Int)} {l : List Int} (h1 : sk = false → l.length = 1) (h : sk = false → ∀ k ∈ ks,k.length = 1) : sk = false → ∀ k ∈ putK ks l,k.length = 1 := by
 intro hs k hk
 unfold putK at hk
 split at hk
 ·exact h hs k hk
 ·rcases Q1.1 hk with hk | hk
  ·exact h hs k hk
  ·simp at hk; subst hk; exact h1 hs
def Zi8 {sk : Bool} {ks : List (List Int)} {es : Array MapEntry} (h : Qhg sk ks es) {i : Nat} (hi : i < ks.length) (v : Value) :
  Qhg sk ks (es.modify i fun e => { e with val := v }) ∧ (es.modify i fun e => { e with val := v }).toList.map (·.val) = (es.toList.map (·.val)).set i v := by
 have hlen := Qcj h
 refine ⟨⟨?_,?_⟩,?_⟩
 ·rw [← h.1]
  apply Qn
  intro j
  simp only [Qk,Array.getElem?_toList,Array.getElem?_modify]
  split
  ·cases es[j]? <;> rfl
  ·rfl
 ·intro j e he
  rw [Array.getElem?_modify] at he
  split at he
  ·cases z7 : es[j]? with
   | none => rw [z7] at he; cases he
   | some e' => rw [z7] at he; simp only [Qj,Qd.injEq] at he; subst he; exact h.2 j e' z7
  ·exact h.2 j e he
 ·apply Qn
  intro j
  simp only [Qk,Array.getElem?_toList,Array.getElem?_modify,Zc,Zi,Array.length_toList]
  split
  ·rename_i yL
   subst yL
   rw [if_pos (by omega)]
   obtain ⟨e,he⟩ : ∃ e,es[i]? = some e := ⟨_,Array.getElem?_eq_getElem (by omega)⟩
   rw [he]; rfl
  ·rfl
end
end Go.Fam
namespace Go.Fam
variable {S : Nat → Prop} {w : World} {O : OInfo} {hp : List Blk}
section
variable {P : Program} {F : Fence} {n : Nat}
def Qdp (P : Program) (S : Nat → Prop) (w : World) (O : OInfo) (ρ : Od → V) (ev : Operand → Value) (o : Oper) : Prop :=
 ∀ x ∈ o.op.operands,∀ t od,rOd P t x = some od → Rep S w O (ρ od) (ev x)
def Qct {ρ : Od → V} {ev : Operand → Value} : ∀ (xs : List Operand) (ts : List TypeId) (ods : List Od),rOds P xs ts = some ods →
  (∀ x ∈ xs,∀ t od,rOd P t x = some od → Rep S w O (ρ od) (ev x)) → RepL S w O (ods.map ρ) (xs.map ev) ∧ ods.length = xs.length
 | [],ts,ods,h,_ => by simp [rOds] at h; subst h; simp [RepL]
 | x :: xs,[],ods,h,hr => by
  simp only [rOds,Qb,Qa,Qc,Qd.injEq] at h
  obtain ⟨od,h1,ods',h2,rfl⟩ := h
  have := Qct xs [] ods' h2 fun x hx => hr x (by simp [hx])
  simp only [Qi,RepL,Qw]
  exact ⟨⟨hr x (by simp) _ _ h1,this.1⟩,by omega⟩
 | x :: xs,t :: ts,ods,h,hr => by
  simp only [rOds,Qb,Qa,Qc,Qd.injEq] at h
  obtain ⟨od,h1,ods',h2,rfl⟩ := h
  have := Qct xs ts ods' h2 fun x hx => hr x (by simp [hx])
  simp only [Qi,RepL,Qw]
  exact ⟨⟨hr x (by simp) _ _ h1,this.1⟩,by omega⟩
def Qgw {ρ : Od → V} {ev : Operand → Value} {place : Nat → Option (Nat × Nat × TypeId)} : ∀ (ps : List (Nat × Operand)) (ods : List (Nat × Nat × Od)),Qma P place ps = some ods →
  (∀ x ∈ ps.map (·.2),∀ t od,rOd P t x = some od → Rep S w O (ρ od) (ev x)) →
  Parts S w O (fun i => (place i).map fun x => (x.1,x.2.1)) (ods.map fun p => (p.1,p.2.1,ρ p.2.2)) (ps.map fun p => (p.1,ev p.2))
 | [],ods,h,_ => by simp [Qma] at h; subst h; exact .nil
 | (i,x) :: ps,ods,h,hr => by
  simp only [Qma,Qb,Qa,Qc,Qd.injEq] at h
  obtain ⟨⟨off,sz,t⟩,h1,od,h2,ods',h3,rfl⟩ := h
  have := Qgw ps ods' h3 fun x hx => hr x (by simp at hx ⊢; exact .inr hx)
  exact .cons (by simp [h1]) (hr x (by simp) _ _ h2) this
def Parts.noref {place : Nat → Option (Nat × Nat)} {vs : List (Nat × Nat × V)} {ps : List (Nat × Value)}
  (h : Parts S w O place vs ps) (hn : Qa8 (vs.map (·.2.2)) = false) : Parts S w noO place (vs.map fun p => (p.1,p.2.1,vw hp 8 p.2.2)) ps := by
 induction h with
 | nil => exact .nil
 | cons hp' hr _ ih =>
  simp only [Qi,Qa8,Qo] at hn
  exact .cons hp' (Qiw 8 _ _ hn.1 (Qew _ _ hn.1 hr)) (ih hn.2)
def Qhk {t : TypeId} {fs : Array Field} (h : Qlb P t = some fs) : P.underlying t = some (.struct fs) := by
 unfold Qlb at h
 split at h
 ·rename_i fs' hu; cases h; exact hu
 ·cases h
def Qc4 {t e : TypeId} (h : elB P t = some e) : P.underlying t = some (.slice e) := by
 unfold elB at h
 split at h
 ·rename_i e' hu; cases h; exact hu
 ·cases h
def Qpp {t : TypeId} (h : Qia P t = true) : P.underlying t = some (.int .i64) := by
 unfold Qia at h
 split at h
 ·assumption
 ·cases h
def Ql5 {id g : Nat} (h : curG hp id g = true) : ∃ vs,hp[id]? = some (.cells g vs) := by
 unfold curG at h
 split at h
 ·rename_i g' vs jF; exact ⟨vs,by simpa [beq_iff_eq.1 h] using jF⟩
 ·cases h
def Qx1 {Γ : Gam} (hG : GOk P Γ) (hF : Qbz F) {pu : Bool} {o : Oper} {q : Q} (hr : resQ P pu o = some q) (hm : Mat S w O hp)
  {a : Act} {ρ : Od → V} (hρ : Qdp P S w O ρ a.eval o) (jA : (qv Γ (Qar P) hp q ρ).1) {K : Act → World → Prop} {Q' : Exit → Act → World → Prop}
  (hK : ∀ c S' w',Evol S S' w w' O O → Mat S' w' O hp → Rep S' w' O (qv Γ (Qar P) hp q ρ).2 c → K (a.put o.dst c) w') : o.wpIn F n P a w K Q' := by
 have val : ∀ c,(∀ d,o.op ≠ .defer d) → (execOp a.eval o).run P w = .ok (.value c) w → Rep S w O (qv Γ (Qar P) hp q ρ).2 c → o.wpIn F n P a w K Q' :=
  fun c hd jB hv => Qb9 hF hd jB (hK c S w (Evol.refl S w O) hm hv)
 unfold resQ at hr
 unfold Qdp at hρ
 cases jE : o.op <;> rw [jE] at hr hρ <;> simp only [Op.operands,List.mem_toArray,Ql,List.not_mem_nil,or_false,forall_eq_or_imp,forall_eq] at hρ <;>
  first | (simp at hr; done) | (try dsimp only at hr)
 case move x =>
  simp only [Qe] at hr
  obtain ⟨od,h1,rfl⟩ := hr
  exact val (a.eval x) (by simp [jE]) (by simp [execOp,jE]) (by simpa [qv] using hρ _ _ h1)
 case assign x =>
  simp only [Qe] at hr
  obtain ⟨od,h1,rfl⟩ := hr
  exact val (a.eval x) (by simp [jE]) (by simp [execOp,jE]) (by simpa [qv] using hρ _ _ h1)
 case pick c x y =>
  simp only [Qb,Qa,Qc,Qd.injEq] at hr
  obtain ⟨c',hc,x',hx,y',hy,rfl⟩ := hr
  have r1 := hρ.1 _ _ hc
  have r2 := hρ.2.1 _ _ hx
  have r3 := hρ.2.2 _ _ hy
  simp only [qv] at jA
  split at jA
  ·rename_i p hp'
   rw [hp'] at r1
   rcases Qq2 jA with ⟨p1,x9,rfl,hv⟩ | ⟨p1,x9,rfl,hv⟩
   ·rw [x9] at r2
    refine val (.bool p1) (by simp [jE]) ?_ (by simp only [qv,hp',hv,Rep])
    simp only [execOp,jE,Qkh r1,Qkh r2]
    simp [asBool]
   ·rw [x9] at r3
    refine val (.bool p1) (by simp [jE]) ?_ (by simp only [qv,hp',hv,Rep])
    simp only [execOp,jE,Qkh r1,Qkh r3]
    simp [asBool]
  ·exact jA.elim
 case load t x =>
  simp only [Qb,Qa,Qc,Qd.injEq] at hr
  obtain ⟨k,hk,x',hx,rfl⟩ := hr
  obtain ⟨c,jB,hrep⟩ := Zal hk hm (hρ _ _ hx) jA
  exact val c (by simp [jE]) (by simp [execOp,jE,jB]) hrep
 case fieldAddr t x i =>
  simp only [Qb,Qa,Qc] at hr
  obtain ⟨fs,uM,f,hf,hr⟩ := hr
  have hu := Qhk uM
  split at hr
  ·simp at hr
  ·rename_i hsz
   simp only [Qa,Qd.injEq] at hr
   obtain ⟨x',hx,rfl⟩ := hr
   obtain ⟨s,hs⟩ : ∃ s,szB P f.type = some s := by
    cases h : szB P f.type with
    | none => simp [h] at hsz
    | some s => exact ⟨s,rfl⟩
   have h0 : s ≠ 0 := by intro h; subst h; simp [hs] at hsz
   have r1 := hρ _ _ hx
   simp only [qv] at jA
   split at jA
   ·rename_i cs hcs
    rw [hcs] at r1
    simp only [Rep] at r1
    obtain ⟨blk,off,cur,e,fr,hc,hS,hh,kH⟩ := r1
    refine val _ (by simp [jE]) (by simp [execOp,jE,hc,Qvj hu hf hs h0]; rfl) ?_
    simp only [qv,hcs,Rep]
    refine ⟨blk,off + f.offset,cur,e,fr,rfl,hS,hh,?_⟩
    have := kH.drop f.offset
    rwa [Qp] at this
   ·rename_i id g o' hcs
    rw [hcs] at r1
    simp only [Rep] at r1
    obtain ⟨h1,gO,ob,hO,hg,zL⟩ := r1
    obtain ⟨vs,jF⟩ := Ql5 jA
    have hb := hm.blk id gO ob hO
    rw [jF] at hb
    simp only [Qb6] at hb
    obtain ⟨b,vT,hc⟩ := zL hb.1
    refine val _ (by simp [jE]) (by simp [execOp,jE,hc,Qvj hu hf hs h0]; rfl) ?_
    simp only [qv,hcs,Rep]
    exact ⟨rfl,gO,ob,hO,hg,fun _ => ⟨b,vT,rfl⟩⟩
   ·exact jA.elim
 case field t x i =>
  simp only [Qb,Qa,Qc,Qd.injEq] at hr
  obtain ⟨fs,uM,f,hf,k,hk,x',hx,rfl⟩ := hr
  have hu := Qhk uM
  have r1 := hρ _ _ hx
  simp only [qv] at jA
  split at jA
  ·rename_i cs hcs
   rw [hcs] at r1
   obtain ⟨c,jB,hrep⟩ := Ze0 hu hf hk r1 jA
   exact val c (by simp [jE]) (by simp [execOp,jE,jB]) (by simpa only [qv,hcs] using hrep)
  ·exact jA.elim
 case index t x i =>
  split at hr
  ·rename_i n e hu
   split at hr
   ·rename_i hc
    simp only [Qb,Qa,Qc,Qd.injEq] at hr
    obtain ⟨x',hx,i',hi,rfl⟩ := hr
    have r1 := hρ.1 _ _ hx
    have r2 := hρ.2 _ _ hi
    simp only [qv] at jA
    split at jA
    ·rename_i k hk
     rw [hk] at r2
     split at jA
     ·rename_i cs hcs
      rw [hcs] at r1
      obtain ⟨c,jB,hrep⟩ := Ze7 hu hc.1 hc.2.1 hc.2.2 r1 jA
      exact val c (by simp [jE]) (by simp [execOp,jE,Qdr r2,jB]) (by simpa only [qv,hk,hcs] using hrep)
     ·exact jA.elim
    ·exact jA.elim
   ·cases hr
  ·cases hr
 case indexAddr t x i =>
  split at hr
  ·rename_i n e hu
   simp only [Qb,Qa,Qc,Qd.injEq] at hr
   obtain ⟨es,jP,x',hx,i',hi,rfl⟩ := hr
   have r1 := hρ.1 _ _ hx
   have r2 := hρ.2 _ _ hi
   simp only [qv] at jA
   split at jA
   ·rename_i k hk
    rw [hk] at r2
    split at jA
    ·rename_i cs hcs
     rw [hcs] at r1
     simp only [Rep] at r1
     obtain ⟨blk,off,cur,e',fr,hc,hS,hh,kH⟩ := r1
     refine val _ (by simp [jE]) (by simp [execOp,jE,hc,Qdr r2,Qvv hu jP _ _ jA]; rfl) ?_
     simp only [qv,hcs,hk,Rep]
     refine ⟨blk,off + k.toNat * es,cur,e',fr,rfl,hS,hh,?_⟩
     have := kH.drop (k.toNat * es)
     rwa [Qp] at this
    ·rename_i id g o' hcs
     rw [hcs] at r1
     simp only [Rep] at r1
     obtain ⟨h1,gO,ob,hO,hg,zL⟩ := r1
     obtain ⟨vs,jF⟩ := Ql5 jA.1
     have hb := hm.blk id gO ob hO
     rw [jF] at hb
     simp only [Qb6] at hb
     obtain ⟨b,vT,hc⟩ := zL hb.1
     refine val _ (by simp [jE]) (by simp [execOp,jE,hc,Qdr r2,Qvv hu jP _ _ jA.2]; rfl) ?_
     simp only [qv,hcs,hk,Rep]
     exact ⟨rfl,gO,ob,hO,hg,fun _ => ⟨b,vT,rfl⟩⟩
    ·exact jA.elim
   ·exact jA.elim
  ·simp only [Qb,Qa,Qc,Qd.injEq] at hr
   obtain ⟨es,jP,x',hx,i',hi,rfl⟩ := hr
   obtain ⟨c,jB,hrep⟩ := Ze3 jP hm (hρ.1 _ _ hx) (hρ.2 _ _ hi) jA
   exact val c (by simp [jE]) (by simp [execOp,jE,jB]) hrep
 case extract x k =>
  simp only [Qb,Qa,Qc,Qd.injEq] at hr
  obtain ⟨x',hx,rfl⟩ := hr
  have r1 := hρ _ _ hx
  simp only [qv] at jA
  split at jA
  ·rename_i cs hcs
   rw [hcs] at r1
   simp only [Rep] at r1
   obtain ⟨ccs,hc,hn,kH⟩ := r1
   obtain ⟨c,hc1,vO⟩ := RepL.get _ _ k _ kH (Qg jA)
   have iK : ccs[k]? = some c := by simpa using hc1
   refine val c (by simp [jE]) (by simp [execOp,jE,hc,Instr.extract,iK]) ?_
   simp only [qv,hcs,Qg jA,Q6]
   exact vO
  ·exact jA.elim
 case nilCheck x =>
  simp only [Qb,Qa,Qc,Qd.injEq] at hr
  obtain ⟨x',hx,rfl⟩ := hr
  have r1 := hρ _ _ hx
  simp only [qv] at jA
  split at jA
  ·rename_i cs hcs
   rw [hcs] at r1
   have r1' := r1
   simp only [Rep] at r1'
   obtain ⟨blk,off,cur,e,fr,hc,_⟩ := r1'
   exact val (a.eval x) (by simp [jE]) (by simp [execOp,jE,hc]) (by simpa only [qv,hcs] using r1)
  ·rename_i id g o' hcs
   rw [hcs] at r1
   have r1' := r1
   simp only [Rep] at r1'
   obtain ⟨_,gO,ob,hO,kA,zL⟩ := r1'
   obtain ⟨vs,jF⟩ := Ql5 jA
   have hb := hm.blk id gO ob hO
   rw [jF] at hb
   simp only [Qb6] at hb
   obtain ⟨b,_,hc⟩ := zL hb.1
   exact val (a.eval x) (by simp [jE]) (by simp [execOp,jE,hc]) (by simpa only [qv,hcs] using r1)
  ·exact jA.elim
 case convert s d x =>
  split at hr
  ·rename_i dJ
   simp only [Qm] at dJ
   simp only [Qb,Qa,Qc,Qd.injEq] at hr
   obtain ⟨x',hx,rfl⟩ := hr
   have r1 := hρ _ _ hx
   simp only [qv] at jA
   split at jA
   ·rename_i k hk
    rw [hk] at r1
    have hc := Qdr r1
    have h1 := Qpp dJ.1
    have h2 := Qpp dJ.2
    have hin : inI k := by simpa only [qv,hk] using jA
    refine val (.int .i64 k) (by simp [jE]) (by simp [execOp,jE,hc,convert,run_underlying h1,run_underlying h2,Conv.intToInt,Qjy hin]) (by simp [qv,hk,Rep])
   ·exact jA.elim
  ·split at hr
   ·rename_i ks kd h1 h2
    simp only [Qb,Qa,Qc,Qd.injEq] at hr
    obtain ⟨x',hx,rfl⟩ := hr
    have r1 := hρ _ _ hx
    simp only [qv] at jA
    obtain ⟨ki,n,hc,hv⟩ : ∃ ki n,a.eval x = .int ki n ∧ (cvkV kd (ρ x')).2 = mkI kd n := by
     cases uN : ρ x' <;> rw [uN] at r1 jA <;> simp only [cvkV] at jA ⊢
     case i n => simp only [Rep] at r1; exact ⟨_,_,r1,rfl⟩
     case w k n => simp only [Rep] at r1; exact ⟨_,_,r1,rfl⟩
    refine val (.int kd (kd.wrap n)) (by simp [jE]) (by simp [execOp,jE,hc,convert,run_underlying h1,run_underlying h2,Conv.intToInt]) ?_
    simp only [qv]
    rw [hv]
    cases kd <;> simp [mkI,Rep]
   ·cases hr
 case unOp op t x =>
  cases op <;> first | (simp at hr; done) | skip
  case not =>
   simp only [Qe] at hr
   obtain ⟨x',hx,rfl⟩ := hr
   have r1 := hρ _ _ hx
   simp only [qv] at jA
   split at jA
   ·rename_i p hp'
    rw [hp'] at r1
    exact val (.bool !p) (by simp [jE]) (by simp [execOp,jE,Qkh r1,Op.unary]) (by simp [qv,hp',Rep])
   ·exact jA.elim
  case neg =>
   simp only [Qe] at hr
   obtain ⟨x',hx,rfl⟩ := hr
   have r1 := hρ _ _ hx
   simp only [qv] at jA
   split at jA
   ·rename_i p hp'
    rw [hp'] at r1
    have hz : IntKind.i64.wrap (0 - p) = -p := by rw [Int.zero_sub]; exact Qjy jA
    exact val (.int .i64 (-p)) (by simp [jE]) (by simp only [execOp,jE,Qdr r1,Op.unary,Op.intArith,hz]; simp) (by simp [qv,hp',Rep])
   ·exact jA.elim
 case binOp op t x y yt =>
  split at hr
  ·rename_i kZ
   have eqc : ∀ (ng : Bool),op = (if ng then .neq else .eql) → (∃ x' y',rOd P t x = some x' ∧ rOd P t y = some y' ∧ q = .eqs ng t x' y') → o.wpIn F n P a w K Q' := by
    rintro ng aR ⟨x',y',hx,hy,rfl⟩
    have r1 := hρ.1 _ _ hx
    have r2 := hρ.2 _ _ hy
    simp only [qv] at jA
    split at jA
    ·rename_i xs ys xJ zM
     rw [xJ] at r1
     rw [zM] at r2
     split at jA
     ·rename_i m k hm' hk'
      have jB := Zdt (P := P) aR hm' hk' jA.1 jA.2 r1 r2 (X := x) (Y := y)
      exact val (.bool (ng ^^ decide (m = k))) (by simp [jE]) (by simp only [execOp,jE,Sem.run_bind,Sem.run_pure]; simp only [Sem.run_bind] at jB; rw [jB]; rfl) (by simp only [qv,xJ,zM,hm',hk',Rep])
     ·exact jA.elim
    ·exact jA.elim
   split at hr
   ·simp only [Qb,Qa,Qc,Qd.injEq] at hr
    obtain ⟨x',hx,y',hy,rfl⟩ := hr
    exact eqc false rfl ⟨x',y',hx,hy,rfl⟩
   ·simp only [Qb,Qa,Qc,Qd.injEq] at hr
    obtain ⟨x',hx,y',hy,rfl⟩ := hr
    exact eqc true rfl ⟨x',y',hx,hy,rfl⟩
   ·cases hr
  ·split at hr
   ·rename_i hbl
    have eqc : ∀ (ng : Bool),op = (if ng then .neq else .eql) → (∃ x' y',rOd P t x = some x' ∧ rOd P t y = some y' ∧ q = .bq ng x' y') → o.wpIn F n P a w K Q' := by
     rintro ng aR ⟨x',y',hx,hy,rfl⟩
     have r1 := hρ.1 _ _ hx
     have r2 := hρ.2 _ _ hy
     simp only [qv] at jA
     split at jA
     ·rename_i xs ys xJ zM
      rw [xJ] at r1
      rw [zM] at r2
      have jB := Zgu (P := P) (w := w) aR hbl (p := xs) (q := ys) (X := x) (Y := y)
      refine val (.bool (ng ^^ (xs == ys))) (by simp [jE]) ?_ (by simp only [qv,xJ,zM,Rep])
      simp only [execOp,jE,Sem.run_bind,Sem.run_pure,Qkh r1,Qkh r2]; simp only [Sem.run_bind] at jB; rw [jB]; rfl
     ·exact jA.elim
    split at hr
    ·simp only [Qb,Qa,Qc,Qd.injEq] at hr
     obtain ⟨x',hx,y',hy,rfl⟩ := hr
     exact eqc false rfl ⟨x',y',hx,hy,rfl⟩
    ·simp only [Qb,Qa,Qc,Qd.injEq] at hr
     obtain ⟨x',hx,y',hy,rfl⟩ := hr
     exact eqc true rfl ⟨x',y',hx,hy,rfl⟩
    ·cases hr
   ·simp only [Qb,Qa,Qc,Qd.injEq] at hr
    obtain ⟨x',hx,y',hy,rfl⟩ := hr
    obtain ⟨c,jB,hrep⟩ := Zda (t := t) (X := x) (Y := y) (hρ.1 _ _ hx) (hρ.2 _ _ hy) jA
    exact val c (by simp [jE]) (by simp only [execOp,jE,Sem.run_bind,Sem.run_pure]; simp only [Sem.run_bind] at jB; rw [jB]; rfl) hrep
 case makeFunc f first caps =>
  cases f <;> first | (simp at hr; done) | skip
  case func f =>
  dsimp only at hr
  split at hr
  ·rename_i hz
   simp only [Qb,Qa,Qc,Qd.injEq] at hr
   obtain ⟨ods,jJ,rfl⟩ := hr
   have aS : first = #[] := Array.size_eq_zero_iff.1 hz
   subst aS
   have := Qct _ _ _ jJ (fun x hx => hρ x (by simpa using hx))
   refine val (.func (.func f) #[] (caps.map a.eval)) (by simp [jE]) (by simp [execOp,jE,Instr.makeFunc]) ?_
   simp only [qv,Rep]
   exact ⟨_,rfl,by simp [this.2],by simpa using this.1⟩
  ·split at hr
   ·rename_i hz
    simp only [Qb,Qa,Qc,Qd.injEq] at hr
    obtain ⟨ods,jJ,rfl⟩ := hr
    have dK : caps = #[] := Array.size_eq_zero_iff.1 hz
    subst dK
    simp only [qv] at jA
    have := Qct _ _ _ jJ (fun x hx => hρ x (by simpa using hx))
    refine val (.func (.func f) (first.map a.eval) #[]) (by simp [jE]) (by simp [execOp,jE,Instr.makeFunc]) ?_
    simp only [qv,Rep]
    exact ⟨_,rfl,by simp [this.2],Qdx _ _ jA (by simpa using this.1)⟩
   ·cases hr
 case slice t x lo hi mx =>
  cases mx
  case some mx =>
   cases lo <;> cases hi <;> first | (simp at hr; done) | skip
   case none.some hi =>
   dsimp only at hr
   simp only [Qb,Qa,Qc,Qd.injEq] at hr
   obtain ⟨es,jP,x',hx,hi',yY,mx',hmx,rfl⟩ := hr
   have rx := hρ x (by simp) _ _ hx
   have rh := hρ hi (by simp) _ _ yY
   have rm := hρ mx (by simp) _ _ hmx
   obtain ⟨c,jB,hrep⟩ := Zfj jP rx rh rm jA
   exact val c (by simp [jE]) (by simp [execOp,jE,jB]) hrep
  case none =>
  dsimp only at hr
  simp only [Qb,Qa,Qc,Qd.injEq] at hr
  obtain ⟨es,jP,x',hx,lo',kL,hi',yY,rfl⟩ := hr
  have kR : ∀ y,y ∈ #[x] ++ lo.toArray ++ hi.toArray ++ (none : Option Operand).toArray → ∀ t od,rOd P t y = some od → Rep S w O (ρ od) (a.eval y) := by simpa using hρ
  have rx := kR x (by simp) _ _ hx
  have opt : ∀ (z : Option Operand) (z' : Option Od),(∀ y,z = some y → ∀ t od,rOd P t y = some od → Rep S w O (ρ od) (a.eval y)) → rOpt P 0 z = some z' →
    (∀ v,z'.map ρ = some v → ∃ c,z.map a.eval = some c ∧ Rep S w O v c) ∧ (z'.map ρ = none → z.map a.eval = none) := by
   intro z z' hz vJ
   cases z with
   | none => simp [rOpt] at vJ; subst vJ; simp
   | some y =>
    simp only [rOpt,Qe] at vJ
    obtain ⟨od,h1,rfl⟩ := vJ
    simpa using hz y rfl _ _ h1
  obtain ⟨l1,l2⟩ := opt lo lo' (fun y hy => kR y (by subst hy; simp)) kL
  obtain ⟨h1,h2⟩ := opt hi hi' (fun y hy => kR y (by subst hy; simp)) yY
  obtain ⟨c,jB,hrep⟩ := Zfh jP rx l1 l2 h1 h2 hm jA
  exact val c (by simp [jE]) (by simp [execOp,jE,jB]) hrep
 case build t ps =>
  simp only [Qb,Qa] at hr
  obtain ⟨fs,uM,hr⟩ := hr
  split at hr
  ·rename_i vJ
   simp only [Qm] at vJ
   simp only [Qa,Qc,Qd.injEq] at hr
   obtain ⟨ods,jJ,rfl⟩ := hr
   have hp := Qgw ps.toList ods jJ (fun x hx => hρ x (by simpa using hx))
   simp only [qv] at jA hK val ⊢
   obtain ⟨c,jB,hrep⟩ := Zdb (P := P) (Qhk uM) vJ.1 vJ.2 (ps := ps.map fun p => (p.1,a.eval p.2)) (by simpa using hp) jA
   exact val c (by simp [jE]) (by simp [execOp,jE,jB]) hrep
  ·cases hr
 case box t x =>
  split at hr
  ·simp only [Qb,Qa,Qc,Qd.injEq] at hr
   obtain ⟨x',hx,rfl⟩ := hr
   simp only [qv] at jA hK
   have r1 := hρ _ _ hx
   have r2 := Qiw (hp := hp) 8 _ _ jA.1 (Qew _ _ jA.1 r1)
   obtain ⟨c1,c2,_⟩ := Qhy r2 jA.2
   obtain ⟨jD,jC⟩ := Qn8 hm (a.eval x).cells t
   refine Qb9 (w' := w.alloc (.cells (a.eval x).cells t)) (c := .pointer (some ⟨w.heap.size,0,none⟩)) hF (by simp [jE]) (by simp [execOp,jE,Instr.box,newVar,newRow]) (hK _ _ _ jD jC ?_)
   simp only [Rep]
   refine ⟨w.heap.size,0,(a.eval x).cells,t,(0,0),rfl,.inr rfl,heap_alloc_new w _,?_⟩
   exact RepL.ext (S := S) (w := w) (O := noO) (O' := noO) ⟨fun k hk => ⟨.inl hk,heap_alloc_old w _ (hm.lt k hk)⟩,fun _ _ _ h => by cases h⟩ _ _ (by simpa using c1)
  ·cases hr
 case buildSlice t k ps =>
  split at hr
  ·simp only [Qb,Qa] at hr
   obtain ⟨e,he,es,jP,hr⟩ := hr
   split at hr
   ·rename_i hc
    simp only [Qa,Qc,Qd.injEq] at hr
    obtain ⟨ods,jJ,rfl⟩ := hr
    have fY := Qgw ps.toList ods jJ (fun x hx => hρ x (by simpa using hx))
    simp only [qv] at jA hK
    obtain ⟨⟨yM,_⟩,iL,iM⟩ := jA
    have z8 := Parts.noref (hp := hp) fY (by simpa [Q8,Function.comp_def] using yM)
    simp only [Qj,Q8,Function.comp_def] at z8
    obtain ⟨cells,jB,hc1,vO,uZ,wB⟩ := Quy (P := P) (k := k) (Qc4 he) jP hc.1 hc.2.1 hc.2.2 (ps := ps.map fun p => (p.1,a.eval p.2)) (by simpa using z8) iL iM
    obtain ⟨jD,jC⟩ := Qn8 hm cells e
    refine Qb9 (w' := w.alloc (.cells cells e)) (c := .slice (some ⟨w.heap.size,0,none⟩) k k) hF (by simp [jE]) (by simp [execOp,jE,jB]) (hK _ _ _ jD jC ?_)
    simp only [Rep]
    refine ⟨_,k,by rw [Qcy],by rw [Qcy]; exact Qq _,.inr ⟨w.heap.size,0,cells,e,(0,0),rfl,.inr rfl,heap_alloc_new w _,?_⟩⟩
    refine Qau.ext (S := S) (w := w) (O := noO) (O' := noO) ⟨fun j hj => ⟨.inl hj,heap_alloc_old w _ (hm.lt j hj)⟩,fun _ _ _ h => by cases h⟩ es _ _ ?_
    exact Qgk k 0 _ (by simpa using vO) (by simpa using wB) (by simpa using Nat.le_of_eq uZ.symm)
   ·cases hr
  ·cases hr
 case lookup t x k cok =>
  simp only [Qb,Qa] at hr
  obtain ⟨⟨kt,et⟩,kN,hr⟩ := hr
  have hu := Qig kN
  simp only at hr
  split at hr
  ·rename_i vJ
   simp only [Qm] at vJ
   simp only [Qa,Qc,Qd.injEq] at hr
   obtain ⟨x',hx,k',hk,rfl⟩ := hr
   have r1 := hρ.1 _ _ hx
   have r2 := hρ.2 _ _ hk
   obtain ⟨z,qU,gG⟩ := Zcj vJ.1 vJ.2
   simp only [qv] at jA val
   unfold lkpV at jA val
   split at jA
   ·rename_i id g s l yN gJ
    rw [yN] at r1
    obtain ⟨aT,kY⟩ := Qkq gJ r2
    split at jA
    ·rename_i st ks vs jF
     obtain ⟨b,es,hO,hc,hb,jP,yO,xN,hnd,xD⟩ := Qe6 hm r1 jF jA.1
     obtain ⟨hKI,rfl,rfl⟩ := Qkp jA.2 rfl kY xD
     obtain ⟨v,jB,jG⟩ := Qni hu hKI hb jP.1 qU cok
     have hv : Rep S w O ((vs[ks.idxOf l]?).getD (zE P et)) v := by
      rcases jG with ⟨_,e,he,rfl⟩ | ⟨h1,rfl⟩
      ·obtain ⟨v',hv',hr'⟩ := Qp3 yO he (by rw [xN,Qcj jP])
       rw [hv']; exact hr'
      ·rw [Qs (by rw [xN,Q0 h1]; exact Qq _)]
       exact gG S w O
     refine val (if cok then .tuple #[v,.bool (decide (l ∈ ks))] else v) (by simp [jE]) (by simp [execOp,jE,hc,aT,jB]) ?_
     simp only [yN,gJ,jF]
     cases cok with
     | false => simpa using hv
     | true =>
      simp only [if_true,Rep,RepL]
      exact ⟨_,rfl,rfl,hv,rfl,trivial⟩
    ·exact jA.elim
   ·rename_i st ks vs s l yN gJ
    rw [yN] at r1
    obtain ⟨aT,kY⟩ := Qkq gJ r2
    simp only [Rep] at r1
    obtain ⟨b,es,hc,hS,hb,jP,yO,xN,hnd,xD⟩ := r1
    obtain ⟨hKI,rfl,rfl⟩ := Qkp jA rfl kY xD
    obtain ⟨v,jB,jG⟩ := Qni hu hKI hb jP.1 qU cok
    have hv : Rep S w O ((vs[ks.idxOf l]?).getD (zE P et)) v := by
     rcases jG with ⟨_,e,he,rfl⟩ | ⟨h1,rfl⟩
     ·obtain ⟨v',hv',hr'⟩ := Qp3 yO he (by rw [xN,Qcj jP])
      rw [hv']; exact Qmc hr'
     ·rw [Qs (by rw [xN,Q0 h1]; exact Qq _)]
      exact gG S w O
    refine val (if cok then .tuple #[v,.bool (decide (l ∈ ks))] else v) (by simp [jE]) (by simp [execOp,jE,hc,aT,jB]) ?_
    simp only [yN,gJ]
    cases cok with
    | false => simpa using hv
    | true =>
     simp only [if_true,Rep,RepL]
     exact ⟨_,rfl,rfl,hv,rfl,trivial⟩
   ·exact jA.elim
  ·cases hr
 case entry x =>
  simp only [Qe] at hr
  obtain ⟨x',hx,rfl⟩ := hr
  have r1 := hρ _ _ hx
  simp only [qv] at jA val
  unfold entV at jA val
  split at jA
  ·rename_i id g yN
   rw [yN] at r1
   split at jA
   ·rename_i mid nn left j jF
    split at jA
    ·rename_i st ks vs vK
     obtain ⟨rfl,hn⟩ := jA
     simp only [Rep] at r1
     obtain ⟨_,g',ob,hO,_,h1⟩ := r1
     have yX := hm.blk id g' ob hO
     rw [jF] at yX
     simp only [Qb6] at yX
     obtain ⟨rfl,b,m,seen,rfl,aU,iN,hnd,uA,dL⟩ := yX
     obtain ⟨b',hb',hc⟩ := h1 rfl
     cases hb'
     have wD : Rep S w O (.mp mid 0) (.map (some m)) := by simp only [Rep]; exact iN
     obtain ⟨b2,es,hO2,vO,vW,jP,yO,xN,iO,xD⟩ := Qe6 hm wD vK rfl
     cases vO
     obtain ⟨gK,wY⟩ := dL j rfl
     have y2 := Qcj jP
     obtain ⟨e,he⟩ : ∃ e : MapEntry,es[j]? = some e := ⟨_,Array.getElem?_eq_getElem (by omega)⟩
     have gU := jP.2 j e he
     obtain ⟨seen',rfl⟩ : ∃ seen' : Array Nat,seen = seen'.push e.born := by
      refine ⟨seen.pop,?_⟩
      have j7 : seen ≠ #[] := by rintro rfl; simp at gK
      have gV : 0 < seen.size := by
       rcases Nat.eq_zero_or_pos seen.size with h | h
       ·exact absurd (Array.eq_empty_of_size_eq_zero h) j7
       ·exact h
      rw [gU]
      rw [Array.back?_eq_getElem?] at gK
      apply Array.ext_getElem?
      intro i
      rw [Array.getElem?_push,Array.getElem?_pop,Array.size_pop]
      split
      ·rename_i hi; rw [hi]; exact gK
      ·rename_i hi
       split
       ·rfl
       ·exact Array.getElem?_eq_none (by omega)
     have n8 : (es.toList.map (·.born)).Nodup := by
      have : es.toList.map (·.born) = List.range es.size := by
       apply Qn
       intro i
       rw [Qk,Array.getElem?_toList]
       cases z7 : es[i]? with
       | none => have := Array.getElem?_eq_none_iff.1 z7; simp [this]
       | some e2 => have := jP.2 i e2 z7; have hlt := (Array.getElem?_eq_some_iff.1 z7).1; simp [this,hlt]
      rw [this]; exact List.nodup_range
     have jB := run_entry_at (P := P) w b m nn seen' es es.size e (by rw [aU]; simp [y2,hn]) vW (by have := Array.mem_of_getElem? he; simpa using this) n8
     obtain ⟨v,hv,iP⟩ := Qp3 yO he (by rw [xN,y2])
     have hk : e.key = keyC st (ks.getD j []) := by
      have := Qgr jP.1 j
      rw [Array.getElem?_toList,he] at this
      have hlt : j < ks.length := by omega
      simpa [Qg hlt] using this
     refine val (.tuple #[e.key,e.val]) (by simp [jE]) (by simp only [execOp,jE,hc,jB,Sem.run_bind,Result.andThen_ok,Sem.run_pure]) ?_
     simp only [yN,jF,vK,Rep,RepL]
     refine ⟨_,rfl,rfl,?_,?_,trivial⟩
     ·rw [hk]
      unfold keyV keyC
      cases st with
      | false => simp [Rep]
      | true =>
       simp only [if_true,Rep]
       exact ⟨_,rfl,by simp,RepL.map .i (Value.int .i64) _ fun x _ => by simp [Rep]⟩
     ·rw [List.getD_eq_getElem?_getD,hv]; exact iP
    ·exact jA.elim
   ·exact jA.elim
  ·exact jA.elim
 case call c =>
  split at hr
  ·
   rename_i jS
   split at hr
   ·rename_i x t j0 zN
    have kR : x ∈ c.operands := by
     simp only [Call.operands,Array.mem_append]
     exact .inr (by rw [← Array.mem_toList_iff,j0]; simp)
    have ha : c.args = #[x] := by rw [← j0]
    have ht : c.argTypes = #[t] := by rw [← zN]
    split at hr
    ·rename_i ktet kN
     obtain ⟨kt,et⟩ := ktet
     have hu := Qig kN
     simp only [Qe] at hr
     obtain ⟨x',hx,rfl⟩ := hr
     have r1 := hρ x kR _ _ hx
     simp only [qv] at jA val
     unfold Qwk at jA val
     split at jA
     ·rename_i id g yN
      rw [yN] at r1
      split at jA
      ·rename_i st ks vs jF
       obtain ⟨b,es,hO,hc,hb,jP,_⟩ := Qe6 hm r1 jF jA
       have jB : (Builtin.len_ #[t] o.type #[.map (some b)]).run P w = .ok (.int .i64 ks.length) w := by
        have hg := run_getObj_map (P := P) (hb := hb)
        simp [Builtin.len_,run_underlying hu,hg,Qcj jP,goInt]
       exact val (.int .i64 ks.length) (by simp [jE]) (by simp [execOp,jE,resolve,jS,ha,ht,invoke,builtin,hc,jB]) (by simp [yN,jF,Rep])
      ·exact jA.elim
     ·exact jA.elim
    ·simp only [Qb,Qa,Qc,Qd.injEq] at hr
     obtain ⟨e,he,x',hx,rfl⟩ := hr
     have r1 := hρ x kR _ _ hx
     obtain ⟨v,jB,hrep⟩ := Zef (P := P) (Qc4 he) hm r1 jA (ty := o.type)
     exact val v (by simp [jE]) (by simp [execOp,jE,resolve,jS,ha,ht,invoke,builtin,jB]) hrep
   ·cases hr
  ·
   rename_i jS
   split at hr
   ·rename_i x y j0
    simp only [Qb,Qa,Qc,Qd.injEq] at hr
    obtain ⟨x',hx,y',hy,rfl⟩ := hr
    have ha : c.args = #[x,y] := by rw [← j0]
    have r1 := hρ x (by simp [Call.operands,ha]) _ _ hx
    have r2 := hρ y (by simp [Call.operands,ha]) _ _ hy
    simp only [qv] at jA
    split at jA
    ·rename_i i j hi hj
     rw [hi] at r1
     rw [hj] at r2
     have e : (if j < i then j else i) = min i j := by split <;> omega
     exact val (.int .i64 (min i j)) (by simp [jE]) (by simp [execOp,jE,resolve,jS,ha,invoke,builtin,Builtin.min_,Builtin.min2,Qdr r1,Qdr r2,e]) (by simp [qv,hi,hj,Rep])
    ·exact jA.elim
   ·cases hr
  ·
   rename_i jS
   split at hr
   ·rename_i x y j0
    simp only [Qb,Qa,Qc,Qd.injEq] at hr
    obtain ⟨x',hx,y',hy,rfl⟩ := hr
    have ha : c.args = #[x,y] := by rw [← j0]
    have r1 := hρ x (by simp [Call.operands,ha]) _ _ hx
    have r2 := hρ y (by simp [Call.operands,ha]) _ _ hy
    simp only [qv] at jA
    split at jA
    ·rename_i i j hi hj
     rw [hi] at r1
     rw [hj] at r2
     have e : (if j > i then j else i) = max i j := by split <;> omega
     exact val (.int .i64 (max i j)) (by simp [jE]) (by simp [execOp,jE,resolve,jS,ha,invoke,builtin,Builtin.max_,Builtin.max2,Qdr r1,Qdr r2,e]) (by simp [qv,hi,hj,Rep])
    ·exact jA.elim
   ·cases hr
  ·
   rename_i f jS
   simp only [Qb,Qa,Qc,Qd.injEq] at hr
   obtain ⟨f',hf,ods,jJ,rfl⟩ := hr
   have r1 := hρ f (by simp [Call.operands,jS]) _ _ hf
   have rs := Qct _ _ _ jJ (fun x hx => hρ x (by simp only [Call.operands,Array.mem_append]; exact .inr (by simpa using hx)))
   simp only [qv,Qtk] at jA hK
   split at jA
   ·rename_i g caps hg
    rw [hg] at r1 hK
    simp only [Rep] at r1
    obtain ⟨ccs,hc,hn,kH⟩ := r1
    have jR := RepL.append _ _ _ _ rs.1 (by simp [rs.2]) kH
    obtain ⟨hen,vE⟩ := Qtl hG hm (g := g) (as0 := ods.map ρ ++ caps) (cargs := c.args.map a.eval ++ ccs) (by simp [rs.2,hn]) (by simpa using jR) jA.1 jA.2.1 jA.2.2
    refine Qf5 (w' := w) (f := g) (args := c.args.map a.eval ++ ccs) hF (by simp [jE]) ?_ (vE.mono ?_)
    ·have hd : (resolve a.eval c o.type).run P w = .ok { target := .fn (.func g) ccs,args := c.args.map a.eval } w := by
      simp [resolve,jS,hc,Deferred.ofValue]
     simp only [execOp,jE,Sem.run_bind,hd,Result.andThen_ok,invoke]
     exact hen _ _
    ·rintro e w' ⟨v,S',rfl,jD,jC,hrep⟩
     exact ⟨v,rfl,hK v S' w' jD jC hrep⟩
   ·exact jA.elim
  ·cases hr
end
end Go.Fam
