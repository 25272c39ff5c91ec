import Derived.Test.YtgcinomjcgebhaaFam12
set_option linter.all false
/- Resolved code, its meaning on abstract states, and its soundness. -/
namespace Go.Fam
def lkp : List (Nat × V) → Nat → V
  | [], _ => .u
  | (k, v) :: l, t => if t = k then v else lkp l t

mutual
def upV (n : Nat) : V → V
  | .ad id g off => if id < n then .u else .ad id g off
  | .rf id g off len es => if id < n then .u else .rf id g off len es
  | .mp id g => if id < n then .u else .mp id g
  | .it id g => if id < n then .u else .it id g
  | .ag cs => .ag (upL n cs)
  | .tp cs => .tp (upL n cs)
  | .fn f cs => .fn f (upL n cs)
  | .gv q v => .gv q (upV n v)
  | v => v
def upL (n : Nat) : List V → List V
  | [] => []
  | v :: vs => upV n v :: upL n vs
end
def upB (n : Nat) : Blk → Blk
  | .cells g vs => .cells g (upL n vs)
  | .map st ks vs => .map st ks (upL n vs)
  | .iter mid k l c => if mid < n then .dead 0 else .iter mid k l c
  | b => b

theorem upL_length (n : Nat) : ∀ vs : List V, (upL n vs).length = vs.length
  | [] => rfl
  | _ :: vs => by simp [upL, upL_length n vs]

def fromO (O : OInfo) (n : Nat) : OInfo := fun id => if id < n then none else O id

mutual
theorem up_rep {S : Nat → Prop} {w : World} {O : OInfo} {n : Nat} : ∀ (v : V) (c : Value), Rep S w O v c → Rep S w (fromO O n) (upV n v) c
  | .u, _, _ => by simp [upV, Rep]
  | .b x, c, h => by simpa [upV, Rep] using h
  | .i x, c, h => by simpa [upV, Rep] using h
  | .z es, c, h => by simpa [upV, Rep] using h
  | .sl es rows, c, h => by simpa only [upV, Rep] using h
  | .pa cs, c, h => by simpa only [upV, Rep] using h
  | .pn, c, h => by simpa [upV, Rep] using h
  | .yl l, c, h => by simpa [upV, Rep] using h
  | .ag cs, c, h => by
    simp only [upV, Rep] at h ⊢
    obtain ⟨ccs, hc, hn, hr⟩ := h
    exact ⟨ccs, hc, by rw [upL_length]; exact hn, upL_rep cs _ hr⟩
  | .tp cs, c, h => by
    simp only [upV, Rep] at h ⊢
    obtain ⟨ccs, hc, hn, hr⟩ := h
    exact ⟨ccs, hc, by rw [upL_length]; exact hn, upL_rep cs _ hr⟩
  | .fn f cs, c, h => by
    simp only [upV, Rep] at h ⊢
    obtain ⟨ccs, hc, hn, hr⟩ := h
    exact ⟨ccs, hc, by rw [upL_length]; exact hn, upL_rep cs _ hr⟩
  | .gv q v, c, h => by
    simp only [upV, Rep] at h ⊢
    exact ⟨fun hq => up_rep v c (h.1 hq), h.2⟩
  | .ad id g off, c, h => by
    simp only [upV]
    split
    · simp [Rep]
    · rename_i hl; simpa only [Rep, fromO, if_neg hl] using h
  | .rf id g off len es, c, h => by
    simp only [upV]
    split
    · simp [Rep]
    · rename_i hl; simpa only [Rep, fromO, if_neg hl] using h
  | .mp id g, c, h => by
    simp only [upV]
    split
    · simp [Rep]
    · rename_i hl; simpa only [Rep, fromO, if_neg hl] using h
  | .it id g, c, h => by
    simp only [upV]
    split
    · simp [Rep]
    · rename_i hl; simpa only [Rep, fromO, if_neg hl] using h
theorem upL_rep {S : Nat → Prop} {w : World} {O : OInfo} {n : Nat} : ∀ (vs : List V) (cs : List Value), RepL S w O vs cs → RepL S w (fromO O n) (upL n vs) cs
  | [], _, _ => by simp [upL, RepL]
  | _ :: _, [], h => by simp [RepL] at h
  | v :: vs, c :: cs, h => by
    simp only [upL, RepL] at h ⊢
    exact ⟨up_rep v c h.1, upL_rep vs cs h.2⟩
end


/-- the blocks from n on alone -/
def hpF (n : Nat) (hp : List Blk) : List Blk := (hp.take n).map (fun _ => .hole) ++ (hp.drop n).map (upB n)
mutual
/-- blocks from n on become pure data -/
def cutV (hp : List Blk) (n : Nat) : V → V
  | .ad id g off => if id < n then .ad id g off else vw (hpF n hp) 8 (.ad id g off)
  | .rf id g off len es => if id < n then .rf id g off len es else vw (hpF n hp) 8 (.rf id g off len es)
  | .mp id g => if id < n then .mp id g else .u
  | .it id g => if id < n then .it id g else .u
  | .ag cs => .ag (cutL hp n cs)
  | .tp cs => .tp (cutL hp n cs)
  | .fn f cs => .fn f (cutL hp n cs)
  | .gv q v => .gv q (cutV hp n v)
  | v => v
def cutL (hp : List Blk) (n : Nat) : List V → List V
  | [] => []
  | v :: vs => cutV hp n v :: cutL hp n vs
end
def cutB (hp : List Blk) (n : Nat) : Blk → Blk
  | .cells g vs => .cells g (cutL hp n vs)
  | .map st ks vs => .map st ks (cutL hp n vs)
  | .iter mid k l c => if mid < n then .iter mid k l c else .dead 0
  | b => b

theorem cutL_length (hp : List Blk) (n : Nat) : ∀ vs : List V, (cutL hp n vs).length = vs.length
  | [] => rfl
  | _ :: vs => by simp [cutL, cutL_length hp n vs]

def restO (O : OInfo) (n : Nat) : OInfo := fun id => if id < n then O id else none
def cutS (S : Nat → Prop) (O : OInfo) (n : Nat) : Nat → Prop := fun k => S k ∨ Own (fromO O n) k

theorem fromO_some {O : OInfo} {n id : Nat} {x : Nat × Option Nat} (h : fromO O n id = some x) : n ≤ id ∧ O id = some x := by
  unfold fromO at h
  split at h
  · cases h
  · rename_i hl; exact ⟨by omega, h⟩
theorem restO_some {O : OInfo} {n id : Nat} {x : Nat × Option Nat} (h : restO O n id = some x) : id < n ∧ O id = some x := by
  unfold restO at h
  split at h
  · rename_i hl; exact ⟨hl, h⟩
  · cases h

theorem from_mat {S : Nat → Prop} {w : World} {O : OInfo} {hp : List Blk} (h : Mat S w O hp) (n : Nat) : Mat S w (fromO O n) (hpF n hp) := by
  have hx : Ext S S w w O O := Ext.refl S w O
  refine ⟨h.lt, fun id g b ho => h.own id g b (fromO_some ho).2, fun id id' g g' b h1 h2 => h.inj id id' g g' b (fromO_some h1).2 (fromO_some h2).2, fun id g ob ho => ?_⟩
  obtain ⟨hl, ho⟩ := fromO_some ho
  have hb := h.blk id g ob ho
  have hlt : id < hp.length := by
    rcases Nat.lt_or_ge id hp.length with h' | h'
    · exact h'
    · rw [List.getElem?_eq_none h'] at hb; exact hb.elim
  have hg : (hpF n hp)[id]? = (hp[id]?).map (upB n) := by
    unfold hpF
    rw [List.getElem?_append_right (by simp; omega)]
    simp only [List.length_map, List.length_take, List.getElem?_map, List.getElem?_drop]
    congr 2
    omega
  rw [hg]
  cases hid : hp[id]? with
  | none => rw [hid] at hb; exact hb.elim
  | some b =>
    rw [hid] at hb
    cases b with
    | hole => exact hb.elim
    | gh c y => exact hb.elim
    | dead g' => exact hb
    | map st ks vs =>
      simp only [BlkOk, Option.map_some, upB] at hb ⊢
      obtain ⟨h0, b, es, hob, hh, h1, h3, h4, h5⟩ := hb
      exact ⟨h0, b, es, hob, hh, h1, upL_rep _ _ h3, by rw [upL_length]; exact h4, h5⟩
    | iter mid k l c =>
      simp only [BlkOk, Option.map_some, upB] at hb ⊢
      obtain ⟨h0, b, m, seen, hob, hh, h1, h2⟩ := hb
      by_cases hmid : mid < n
      · rw [if_pos hmid]; exact h0.symm
      · rw [if_neg hmid]
        refine ⟨h0, b, m, seen, hob, hh, ?_, h2⟩
        have := up_rep (n := n) (.mp mid 0) _ h1
        simpa only [upV, if_neg hmid] using this
    | cells g' vs =>
      simp only [BlkOk, Option.map_some, upB] at hb ⊢
      refine ⟨hb.1, ?_⟩
      cases ob with
      | none => simp only at hb ⊢; rw [hb.2]; rfl
      | some b =>
        obtain ⟨cur, e, hh, hrl, h1⟩ := hb.2
        exact ⟨cur, e, hh, upL_rep _ _ hrl, h1⟩

mutual
theorem cut_rep {S : Nat → Prop} {w : World} {O : OInfo} {hp : List Blk} (hm : Mat S w O hp) (n : Nat) : ∀ (v : V) (c : Value), Rep S w O v c → Rep (cutS S O n) w (restO O n) (cutV hp n v) c
  | .u, _, _ => by simp [cutV, Rep]
  | .b x, c, h => by simpa [cutV, Rep] using h
  | .i x, c, h => by simpa [cutV, Rep] using h
  | .z es, c, h => by simpa [cutV, Rep] using h
  | .sl es rows, c, h => by
    have h' : Rep S w noO (.sl es rows) c := by simpa only [Rep] using h
    simpa only [cutV] using Rep.ext ⟨fun k hk => ⟨.inl hk, rfl⟩, fun _ _ _ h => by cases h⟩ _ _ h'
  | .pa cs, c, h => by
    have h' : Rep S w noO (.pa cs) c := by simpa only [Rep] using h
    simpa only [cutV] using Rep.ext ⟨fun k hk => ⟨.inl hk, rfl⟩, fun _ _ _ h => by cases h⟩ _ _ h'
  | .pn, c, h => by simpa [cutV, Rep] using h
  | .yl l, c, h => by simpa [cutV, Rep] using h
  | .ag cs, c, h => by
    simp only [cutV, Rep] at h ⊢
    obtain ⟨ccs, hc, hn, hr⟩ := h
    exact ⟨ccs, hc, by rw [cutL_length]; exact hn, cutL_rep hm n cs _ hr⟩
  | .tp cs, c, h => by
    simp only [cutV, Rep] at h ⊢
    obtain ⟨ccs, hc, hn, hr⟩ := h
    exact ⟨ccs, hc, by rw [cutL_length]; exact hn, cutL_rep hm n cs _ hr⟩
  | .fn f cs, c, h => by
    simp only [cutV, Rep] at h ⊢
    obtain ⟨ccs, hc, hn, hr⟩ := h
    exact ⟨ccs, hc, by rw [cutL_length]; exact hn, cutL_rep hm n cs _ hr⟩
  | .gv q v, c, h => by
    simp only [cutV, Rep] at h ⊢
    exact ⟨fun hq => cut_rep hm n v c (h.1 hq), h.2⟩
  | .ad id g off, c, h => by
    simp only [cutV]
    split
    · rename_i hl; simpa only [Rep, restO, if_pos hl] using h
    · rename_i hl
      have h' : Rep S w (fromO O n) (.ad id g off) c := by simpa only [Rep, fromO, if_neg hl] using h
      exact rep_noO (vw_rep (from_mat hm n) 8 _ _ h')
  | .rf id g off len es, c, h => by
    simp only [cutV]
    split
    · rename_i hl; simpa only [Rep, restO, if_pos hl] using h
    · rename_i hl
      have h' : Rep S w (fromO O n) (.rf id g off len es) c := by simpa only [Rep, fromO, if_neg hl] using h
      exact rep_noO (vw_rep (from_mat hm n) 8 _ _ h')
  | .mp id g, c, h => by
    simp only [cutV]
    split
    · rename_i hl; simpa only [Rep, restO, if_pos hl] using h
    · simp [Rep]
  | .it id g, c, h => by
    simp only [cutV]
    split
    · rename_i hl; simpa only [Rep, restO, if_pos hl] using h
    · simp [Rep]
theorem cutL_rep {S : Nat → Prop} {w : World} {O : OInfo} {hp : List Blk} (hm : Mat S w O hp) (n : Nat) : ∀ (vs : List V) (cs : List Value), RepL S w O vs cs → RepL (cutS S O n) w (restO O n) (cutL hp n vs) cs
  | [], _, _ => by simp [cutL, RepL]
  | _ :: _, [], h => by simp [RepL] at h
  | v :: vs, c :: cs, h => by
    simp only [cutL, RepL] at h ⊢
    exact ⟨cut_rep hm n v c h.1, cutL_rep hm n vs cs h.2⟩
end

theorem cut_mat {S : Nat → Prop} {w : World} {O : OInfo} {hp : List Blk} (h : Mat S w O hp) (n : Nat) : Mat (cutS S O n) w (restO O n) ((hp.take n).map (cutB hp n)) := by
  refine ⟨fun k hk => ?_, fun id g b ho => ?_, fun id id' g g' b h1 h2 => h.inj id id' g g' b (restO_some h1).2 (restO_some h2).2, fun id g ob ho => ?_⟩
  · rcases hk with hk | ⟨id, g, ho⟩
    · exact h.lt k hk
    · exact (h.own id g k (fromO_some ho).2).1
  · obtain ⟨hl, ho⟩ := restO_some ho
    refine ⟨(h.own id g b ho).1, ?_⟩
    rintro (hS | ⟨id', g', ho'⟩)
    · exact (h.own id g b ho).2 hS
    · have := h.inj id id' g g' b ho (fromO_some ho').2
      have := (fromO_some ho').1
      omega
  obtain ⟨hl, ho⟩ := restO_some ho
  have hb := h.blk id g ob ho
  rw [List.getElem?_map, List.getElem?_take, if_pos hl]
  cases hid : hp[id]? with
  | none => rw [hid] at hb; exact hb.elim
  | some b =>
    rw [hid] at hb
    cases b with
    | hole => exact hb.elim
    | gh c y => exact hb.elim
    | dead g' => exact hb
    | map st ks vs =>
      simp only [Option.map_some, cutB, BlkOk] at hb ⊢
      obtain ⟨h0, b, es, hob, hh, h1, h3, h4, h5⟩ := hb
      exact ⟨h0, b, es, hob, hh, h1, cutL_rep h n _ _ h3, by rw [cutL_length]; exact h4, h5⟩
    | iter mid k l c =>
      simp only [Option.map_some, cutB, BlkOk] at hb ⊢
      obtain ⟨h0, b, m, seen, hob, hh, h1, h2⟩ := hb
      by_cases hmid : mid < n
      · rw [if_pos hmid]
        refine ⟨h0, b, m, seen, hob, hh, ?_, h2⟩
        have := cut_rep h n (.mp mid 0) _ h1
        simpa only [cutV, if_pos hmid] using this
      · rw [if_neg hmid]; exact h0.symm
    | cells g' vs =>
      simp only [Option.map_some, cutB, BlkOk] at hb ⊢
      refine ⟨hb.1, ?_⟩
      cases ob with
      | none => simp only at hb ⊢; rw [hb.2]; rfl
      | some b =>
        obtain ⟨cur, e, hh, hrl, h1⟩ := hb.2
        exact ⟨cur, e, hh, cutL_rep h n _ _ hrl, h1⟩

theorem Evol.cut {S S' : Nat → Prop} {w w' : World} {O : OInfo} (h : Evol S S' w w' noO O) (n : Nat) : Evol S (cutS S' O n) w w' noO (restO O n) := by
  refine ⟨⟨fun k hk => ⟨.inl (h.ext.keep k hk).1, (h.ext.keep k hk).2⟩, fun _ _ _ h => (by cases h)⟩, h.os, h.tape, h.output, h.size, h.fz, h.old, fun k ⟨id, g, ho⟩ => h.fresh k ⟨id, g, (restO_some ho).2⟩, ?_⟩
  rintro k (hk | ⟨id, g, ho⟩)
  · exact h.grow k hk
  · exact .inr (h.fresh k ⟨id, g, (fromO_some ho).2⟩)

theorem Evol.less {S S' : Nat → Prop} {w w' : World} {O O' : OInfo} (h : Evol S S' w w' noO O) (ho : ∀ n, Own O' n → Own O n) : Evol S S' w w' noO O' :=
  ⟨⟨h.ext.keep, fun _ _ _ h => by cases h⟩, h.os, h.tape, h.output, h.size, h.fz, h.old, fun n hn => h.fresh n (ho n hn), h.grow⟩

/-- the list of blocks, cut -/
def cutH (n : Nat) (hp : List Blk) : List Blk := (hp.take n).map (cutB hp n)

/-! blocks change places -/
def sw (i j : Nat) (k : Nat) : Nat := if k = i then j else if k = j then i else k
mutual
def renV (f : Nat → Nat) : V → V
  | .ad id g off => .ad (f id) g off
  | .rf id g off len es => .rf (f id) g off len es
  | .mp id g => .mp (f id) g
  | .it id g => .it (f id) g
  | .ag cs => .ag (renL f cs)
  | .tp cs => .tp (renL f cs)
  | .fn g cs => .fn g (renL f cs)
  | .gv q v => .gv q (renV f v)
  | v => v
def renL (f : Nat → Nat) : List V → List V
  | [] => []
  | v :: vs => renV f v :: renL f vs
end
def renB (f : Nat → Nat) : Blk → Blk
  | .cells g vs => .cells g (renL f vs)
  | .map st ks vs => .map st ks (renL f vs)
  | .iter mid n l c => .iter (f mid) n l c
  | b => b
def swH (i j : Nat) (hp : List Blk) : List Blk := match hp[i]?, hp[j]? with
  | some a, some b => ((hp.set i b).set j a).map (renB (sw i j))
  | _, _ => []

inductive RC where
  | skip | reg (g : Bool) (l : List RO) | any (g : Bool) (m : Nat) (l : List AnyOp) | seq (a b : RC) | mid (a b : RC) | cond (c : Od) (a b : RC)
  | block (id : Nat) (a : RC) | loop (l : List Nat) (d : Option Nat) (a : RC) | exit (id : Nat) | ret
  | keep (l : List Nat) (a : RC) | drp (n : Nat) (a : RC) | own (t es : Nat) (a : RC) | ownc (t off es : Nat) (a : RC)
  | nxt (d m it : Nat) | rfn (f : Od) (ps : List Nat) (lo : Nat) (b a : RC) | yrg (g : Bool) (l1 : List RO) (y : RO) (ks : List Nat) (l2 : List RO)
  | swp (i j : Nat) (a : RC) | crl (g : Bool) (l1 : List RO) (y : RO) (l2 : List RO)

instance : Inhabited RC := ⟨.skip⟩

/-- the state at a loop's head: slots kept, blocks kept -/
def kp (l : List Nat) (d : Option Nat) (σ : St) : St := match d with
  | none => ⟨lkp (l.map fun t => (t, σ.fr t)), σ.hp⟩
  | some n => ⟨lkp (l.map fun t => (t, cutV σ.hp n (σ.fr t))), cutH n σ.hp⟩

def thenQ (K : St → Prop) (Q : Exit → St → Prop) : Exit → St → Prop
  | .normal, σ => K σ
  | e, σ => Q e σ
def blockQ (id : Nat) (Q : Exit → St → Prop) : Exit → St → Prop
  | .exit id', σ => if id' = id then Q .normal σ else Q (.exit id') σ
  | e, σ => Q e σ
/-- on behind an iterator's assignment -/
def rnQ (K : St → Prop) : Exit → St → Prop
  | .normal, σ => K σ
  | _, _ => False
/-- a round's end -/
def rndQ (Q : Exit → St → Prop) (lo : Nat) (fr0 : Nat → V) (I : List Blk → Prop) : Exit → St → Prop
  | .normal, σ => I (cutH lo σ.hp)
  | .exit id, σ => Q (.exit id) ⟨fr0, cutH lo σ.hp⟩
  | _, _ => False
def updL (fr : Nat → V) : List Nat → List V → Nat → V
  | p :: ps, v :: vs => updL (upd fr (some p) v) ps vs
  | _, _ => fr
/-- values that hang on no memory -/
def sfree : V → Bool
  | .yl _ => true
  | v => flat v
def yres (gd : Option (Nat × Bool)) (b : Bool) : V := match gd with | none => .b b | some _ => .gv true (.b b)
def slots (l : List Nat) (fr : Nat → V) : List (Nat × V) := l.map fun t => (t, fr t)

def wpR (Γ : Gam) (E : TypeId → Nat → Prop) : RC → (Exit → St → Prop) → St → Prop
  | .skip, Q, σ => Q .normal σ
  | .reg g l, Q, σ => runR Γ E g 0 l σ (Q .normal)
  | .any g m l, Q, σ => runX Γ E g σ.hp.length l [] ⟨σ.fr, σ.hp ++ List.replicate m .hole⟩ (Q .normal)
  | .seq a b, Q, σ => wpR Γ E a (thenQ (wpR Γ E b Q) Q) σ
  | .mid a b, Q, σ => ∃ M : St → Prop, wpR Γ E a (thenQ M Q) σ ∧ ∀ σ', M σ' → wpR Γ E b Q σ'
  | .cond c a b, Q, σ => match evO σ.fr c with
    | .b t => (t = true → wpR Γ E a Q σ) ∧ (t = false → wpR Γ E b Q σ)
    | _ => False
  | .block id a, Q, σ => wpR Γ E a (blockQ id Q) σ
  | .loop l d a, Q, σ => ∃ I : Nat → St → Prop, (∃ k, I k (kp l d σ)) ∧ ∀ k σ', I k σ' → wpR Γ E a (thenQ (fun σ'' => ∃ j, j < k ∧ I j (kp l d σ'')) Q) σ'
  | .exit id, Q, σ => Q (.exit id) σ
  | .ret, Q, σ => Q .ret σ
  | .keep l a, Q, σ => wpR Γ E a Q ⟨lkp (l.map fun t => (t, σ.fr t)), σ.hp⟩
  | .drp n a, Q, σ => wpR Γ E a Q ⟨fun t => cutV σ.hp n (σ.fr t), cutH n σ.hp⟩
  | .own t es a, Q, σ => match σ.fr t with
    | .z _ => wpR Γ E a Q ⟨upd σ.fr (some t) (.rf σ.hp.length 0 0 0 es), σ.hp ++ [.cells 0 []]⟩
    | _ => False
  | .ownc t off es a, Q, σ => match σ.fr t with
    | .ad id g o => match σ.hp[id]? with
      | some (.cells g' vs) => match vs[o + off]? with
        | some (.z _) => g' = g ∧ wpR Γ E a Q ⟨σ.fr, σ.hp.set id (.cells g (vs.set (o + off) (.rf σ.hp.length 0 0 0 es))) ++ [.cells 0 []]⟩
        | _ => False
      | _ => False
    | _ => False
  | .nxt d m it, Q, σ => match σ.fr it with
    | .it id g => match σ.hp[id]? with
      | some (.iter mid n left _) => match σ.hp[mid]? with
        | some (.map _ ks _) => g = 0 ∧ ks.length = n ∧ (left = [] → Q .normal ⟨upd (upd σ.fr (some d) .u) (some m) (.b false), σ.hp⟩) ∧
            ∀ j ∈ left, Q .normal ⟨upd (upd σ.fr (some d) .u) (some m) (.b true), σ.hp.set id (.iter mid n (left.erase j) (some j))⟩
        | _ => False
      | _ => False
    | _ => False
  | .rfn f ps lo b a, Q, σ => match evO σ.fr f with
    | .fn gf caps => match Γ (2000000 + gf) (caps.map (vw σ.hp 8)) with
      | (ok, .sl 0 ys) => gf < 1000000 ∧ ok ∧ hasRefL caps = false ∧ (∀ x ∈ ys, x.length = ps.length) ∧ ∃ I : Nat → List Blk → Prop, I 0 (cutH lo σ.hp) ∧
          (∀ k x hp, ys[k]? = some x → I k hp → wpR Γ E b (rnQ (wpR Γ E a (rndQ Q lo (fun t => cutV σ.hp lo (σ.fr t)) (I (k + 1))))) ⟨updL (fun t => cutV σ.hp lo (σ.fr t)) ps x, hp⟩) ∧
          ∀ hp, I ys.length hp → Q .normal ⟨fun t => cutV σ.hp lo (σ.fr t), hp⟩
      | _ => False
    | _ => False
  | .swp i j a, Q, σ => i < σ.hp.length ∧ j < σ.hp.length ∧ wpR Γ E a Q ⟨fun t => renV (sw i j) (σ.fr t), swH i j σ.hp⟩
  | .crl g l1 y l2, Q, σ => runR Γ E g 0 l1 σ fun σ1 => match y.x with
    | .o f args => match opv g σ1.fr f with
      | .fn gf caps => needW g y σ1.fr ∧ gf < 1000000 ∧ hasRefL (args.map (opv g σ1.fr) ++ caps) = false ∧ (Γ (3000000 + gf) ((args.map (opv g σ1.fr) ++ caps).map (vw σ1.hp 8))).1 ∧
          ∀ r bs, (Γ (4000000 + gf) (.tp (r :: bs) :: (args.map (opv g σ1.fr) ++ caps).map (vw σ1.hp 8))).1 →
            runR Γ E g 0 l2 ⟨upd σ1.fr y.dst (shV σ1.hp.length r), σ1.hp ++ (bs.map vB).map (shB σ1.hp.length)⟩ (Q .normal)
      | _ => False
    | _ => False
  | .yrg g l1 y ks l2, Q, σ => runR Γ E g 0 l1 σ fun σ1 => match condB σ1.fr y.gd with
    | none => False
    | some false => runR Γ E g 0 l2 ⟨upd σ1.fr y.dst (.gv false .u), σ1.hp⟩ (Q .normal)
    | some true => match y.x with
      | .o f args => match opv g σ1.fr f, σ1.hp with
        | .yl l, [.gh caps (some (x :: rest))] => needW g y σ1.fr ∧ caps[0]? = some (.yl l) ∧ args.map (opv g σ1.fr) = x ∧ flatL x = true ∧ (∀ t ∈ ks, sfree (σ1.fr t) = true ∨ caps[t]? = some (σ1.fr t)) ∧
            ∀ b, runR Γ E g 0 l2 ⟨upd (lkp (slots ks σ1.fr)) y.dst (yres y.gd b), [.gh caps (if b then some rest else none)]⟩ (Q .normal)
        | _, _ => False
      | _ => False

/-! ### the program's code, resolved ('r': the layout wanted, with its notes) -/
def noGuard (ops : Array Oper) : Bool := ops.all fun o => o.guard.isNone

def isNxt (N : Nat × Nat) (o1 o2 : Oper) (d m it : Nat) : Bool :=
  (match o1.dst, o1.op, o1.guard with
    | some d', .next (.tmp it') false, none => d' == d && it' == it && dstOk N (some d)
    | _, _, _ => false) &&
  (match o2.dst, o2.op, o2.guard with
    | some m', .extract (.tmp d') 0, none => m' == m && d' == d && dstOk N (some m)
    | _, _, _ => false)

/-- the call of yield in a region -/
def resY (P : Program) (N : Nat × Nat) (ops : Array Oper) (o : Oper) : Option RO :=
  if dstOk N o.dst && o.dst.isSome then
    match gdOf ops o.guard, resOc P o with
    | some gd, some x => some ⟨o.dst, gd, o.op.operands.toList.filterMap tmpOf, none, .o x.1 x.2⟩
    | _, _ => none
  else none

def resC (P : Program) (N : Nat × Nat) (o : Oper) : Option RO :=
  if dstOk N o.dst && o.guard.isNone then (resOc P o).map fun x => ⟨o.dst, none, o.op.operands.toList.filterMap tmpOf, none, .o x.1 x.2⟩ else none

def dOk (lo : Nat) : Option Nat → Bool | some n => decide (lo ≤ n) | none => true

/- top: 0 a round's body, 1 a function, 2 an iterator -/
def comp (P : Program) (pu : List Nat) (N : Nat × Nat) : Nat → Nat → RC → Code → Option RC
  | lo, top, .keep l a, c => (comp P pu N lo top a c).map (.keep l)
  | lo, top, .drp n a, c => if lo ≤ n then (comp P pu N lo top a c).map (.drp n) else none
  | lo, top, .own t es a, c => (comp P pu N lo top a c).map (.own t es)
  | lo, top, .ownc t off es a, c => (comp P pu N lo top a c).map (.ownc t off es)
  | _, _, .skip, .skip => some .skip
  | _, _, .reg g _, .region _ ops false => if g || noGuard ops then (ops.toList.mapM fun o => resO P pu N ops o).map (.reg g) else none
  | _, _, .nxt d m it, .region _ ops false => match ops.toList with
    | [o1, o2] => if isNxt N o1 o2 d m it then some (.nxt d m it) else none
    | _ => none
  | lo, top, .swp i j a, c => if top == 1 && lo == 0 then (comp P pu N lo top a c).map (.swp i j) else none
  | _, _, .crl g l1 _ l2, .region _ ops false => if g || noGuard ops then
      match ops[l1.length]? with
      | some o => match (ops.toList.take l1.length).mapM (fun o => resO P pu N ops o), resC P N o, (ops.toList.drop (l1.length + 1)).mapM (fun o => resO P pu N ops o) with
        | some r1, some y, some r2 => if r1.length == l1.length then some (.crl g r1 y r2) else none
        | _, _, _ => none
      | none => none
    else none
  | _, top, .yrg g l1 _ ks l2, .region _ ops false => if top == 2 && (g || noGuard ops) then
      match ops[l1.length]? with
      | some o => match (ops.toList.take l1.length).mapM (fun o => resO P pu N ops o), resY P N ops o, (ops.toList.drop (l1.length + 1)).mapM (fun o => resO P pu N ops o) with
        | some r1, some y, some r2 => if r1.length == l1.length then some (.yrg g r1 y ks r2) else none
        | _, _, _ => none
      | none => none
    else none
  | _, _, .any g m l, .region _ ops true =>
    if (g || noGuard ops) then
      match ops.toList.mapM fun o => resO P pu N ops o with
      | some rs =>
        let l' := rs.zipWith (fun r (x : AnyOp) => (⟨{ r with nid := x.o.nid }, x.js, x.an⟩ : AnyOp)) l
        if pairsB l' && ancB ops l' && decide (l'.length = rs.length) then some (.any g m l') else none
      | none => none
    else none
  | lo, top, .seq a b, .seq x y => match comp P pu N lo top a x, comp P pu N lo top b y with
    | some a', some b' => some (.seq a' b')
    | _, _ => none
  | lo, top, .mid a b, .seq x y => match comp P pu N lo top a x, comp P pu N lo top b y with
    | some a', some b' => some (.mid a' b')
    | _, _ => none
  | lo, top, .cond _ a b, .cond c x y => match rOd P 0 c, comp P pu N lo top a x, comp P pu N lo top b y with
    | some c', some a', some b' => some (.cond c' a' b')
    | _, _, _ => none
  | lo, top, .block _ a, .block id x => (comp P pu N lo top a x).map (.block id)
  | lo, top, .loop l d a, .loop x => if dOk lo d then (comp P pu N lo top a x).map (.loop l d) else none
  | lo, top, .rfn _ _ lo' b a, .rangeFunc f ps x y => if top == 1 && decide (lo ≤ lo') && ps.all (fun p => dstOk N (some p)) then
      match rOd P 0 f, comp P pu N lo' 0 b x, comp P pu N lo' 0 a y with
      | some f', some b', some a' => some (.rfn f' ps.toList lo' b' a')
      | _, _, _ => none
    else none
  | _, _, .exit _, .exit id => some (.exit id)
  | _, _, .ret, .ret => some .ret
  | _, _, _, _ => none
end Go.Fam
