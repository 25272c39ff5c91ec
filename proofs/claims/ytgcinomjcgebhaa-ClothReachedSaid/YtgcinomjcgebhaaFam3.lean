import Derived.Test.YtgcinomjcgebhaaFam2
set_option linter.all false
/- The program's operations, resolved; quiet ones do what 'qv' says. -/
namespace Go.Fam
def ldB (P : Program) (t : TypeId) : Option Nat := if isAggB P t then szB P t else (P.underlying t).map fun _ => 1
def fieldsB (P : Program) (t : TypeId) : Option (Array Field) := match P.underlying t with | some (.struct fs) => some fs | _ => none
def isI64 (P : Program) (t : TypeId) : Bool := match P.underlying t with | some (.int .i64) => true | _ => false
def isBool (P : Program) (t : TypeId) : Bool := match P.underlying t with | some .bool => true | _ => false
def zOk (P : Program) (t : TypeId) : Bool := match (P.info? t).bind (·.zero) with
  | some z => zChk (zV P 9 t) z.cells.toList && szB P t == some z.cells.size
  | none => false

/-- a type's zero value is of its shape -/
def zShape (P : Program) (t : TypeId) : Bool := match (P.info? t).bind (·.zero) with
  | some (.agg _) => isAggB P t
  | some (.tuple _) => false
  | some _ => !isAggB P t
  | none => false

def rOds (P : Program) : List Operand → List TypeId → Option (List Od)
  | [], _ => some []
  | x :: xs, [] => do return (← rOd P 0 x) :: (← rOds P xs [])
  | x :: xs, t :: ts => do return (← rOd P t x) :: (← rOds P xs ts)

def rOpt (P : Program) (t : TypeId) : Option Operand → Option (Option Od)
  | none => some none
  | some x => (rOd P t x).map some

def rParts (P : Program) (place : Nat → Option (Nat × Nat × TypeId)) : List (Nat × Operand) → Option (List (Nat × Nat × Od))
  | [] => some []
  | (i, x) :: ps => do
    let (off, sz, t) ← place i
    return (off, sz, ← rOd P t x) :: (← rParts P place ps)

def fPlace (P : Program) (fs : Array Field) (i : Nat) : Option (Nat × Nat × TypeId) := do
  let f ← fs[i]?
  return (f.offset, ← szB P f.type, f.type)

/-- quiet operations ('pu': boxes and slice literals are pure memory) -/
def resQ (P : Program) (pu : Bool) (o : Oper) : Option Q :=
  match o.op with
  | .move x | .assign x => (rOd P o.type x).map .mv
  | .pick c a b => do return .pick (← rOd P 0 c) (← rOd P o.type a) (← rOd P o.type b)
  | .binOp op t x y _ =>
    if isAggB P t then
      match op with
      | .eql => do return .eqs false t (← rOd P t x) (← rOd P t y)
      | .neq => do return .eqs true t (← rOd P t x) (← rOd P t y)
      | _ => none
    else if isBool P t then
      match op with
      | .eql => do return .bq false (← rOd P t x) (← rOd P t y)
      | .neq => do return .bq true (← rOd P t x) (← rOd P t y)
      | _ => none
    else do return .bin op (← rOd P t x) (← rOd P t y)
  | .unOp op t x => match op with
    | .not => (rOd P t x).map .not
    | .neg => (rOd P t x).map .neg
    | _ => none
  | .load t a => do return .ld (isAggB P t) (← ldB P t) (← rOd P 0 a)
  | .fieldAddr t x i => do
    let fs ← fieldsB P t
    let f ← fs[i]?
    if szB P f.type = some 0 ∨ szB P f.type = none then none else do return .fad f.offset (← rOd P 0 x)
  | .field t x i => do
    let fs ← fieldsB P t
    let f ← fs[i]?
    return .fld (isAggB P f.type) (← ldB P f.type) f.offset (← rOd P t x)
  | .indexAddr t x i => do
    let es ← esB P t
    return .iad es (← rOd P t x) (← rOd P 0 i)
  | .call c => match c.callee with
    | .builtin .len => match c.args.toList, c.argTypes.toList with
      | [x], [t] => match mapB P t with
        | some _ => (rOd P t x).map .mlen
        | none => do let _ ← elB P t; return .len (← rOd P t x)
      | _, _ => none
    | .builtin .min => match c.args.toList with
      | [x, y] => do return .mn (← rOd P 0 x) (← rOd P 0 y)
      | _ => none
    | .builtin .max => match c.args.toList with
      | [x, y] => do return .mx (← rOd P 0 x) (← rOd P 0 y)
      | _ => none
    | .value f => do return .call (← rOd P 0 f) (← rOds P c.args.toList c.argTypes.toList)
    | _ => none
  | .extract x k => do return .ext (← rOd P 0 x) k
  | .nilCheck x => do return .nilc (← rOd P 0 x)
  | .makeFunc (.func f) first caps => if first.size = 0 then do return .mkf f (← rOds P caps.toList []) else none
  | .build t ps => do
    let fs ← fieldsB P t
    if zOk P t && (fs.all fun f => (szB P f.type).isSome) then return .bld (zV P 9 t) (← rParts P (fPlace P fs) ps.toList) else none
  | .convert s d x => if isI64 P s && isI64 P d then do return .cvt (← rOd P s x) else none
  | .buildSlice t n ps => if pu then do
      let e ← elB P t
      let es ← szB P e
      if es ≠ 0 ∧ n * es ≤ 16777216 ∧ zOk P e = true then return .bsl es n (zV P 9 e) (← rParts P (fun i => some (i * es, es, e)) ps.toList) else none
    else none
  | .box t x => if pu then do return .box (← rOd P t x) else none
  | .slice t x lo hi none => do
    let es ← esB P t
    return .slc es (← rOd P t x) (← rOpt P 0 lo) (← rOpt P 0 hi)
  | .lookup t x k ok => do
    let (kt, et) ← mapB P t
    if zOk P et && zShape P et then return .lkp (zE P et) ok kt (!isI64 P kt) (← rOd P t x) (← rOd P kt k) else none
  | .entry x => (rOd P 0 x).map .ent
  | _ => none

/-- an open fence: every function may be called, to any depth -/
def OpenF (F : Fence) : Prop := (∀ f, F.fn f) ∧ F.depth = none ∧ F.alive = false
theorem openF_wide : OpenF Fence.wide := ⟨fun _ => trivial, rfl, rfl⟩
theorem openF_round (l : Nat) : OpenF (Fence.wide.inRound l) := ⟨fun _ => trivial, rfl, rfl⟩
theorem OpenF.fenced {F : Fence} (h : OpenF F) (P : Program) (m : Machine) : m.fenced P F := by
  intro g _
  refine ⟨fun h' => ?_, Or.inl (h.1 _), fun _ _ => h.1 _, fun _ h' => ?_⟩
  · rw [h.2.2] at h'; cases h'
  · rw [h.2.1] at h'; cases h'
theorem OpenF.room {F : Fence} (h : OpenF F) (n : Nat) : F.room n := fun _ h' => by rw [h.2.1] at h'; cases h'
theorem OpenF.callsIn {F : Fence} (h : OpenF F) {n : Nat} {P : Program} {f : FuncId} {args : Array Value} {w : World} {R : Ending → World → Prop} (hc : Calls P f args w R) : CallsIn F n P f args w R := by
  refine ⟨h.1 f, fun cs _ => ?_⟩
  obtain ⟨e, w', fr, hR, hs, hfn, hl⟩ := hc cs
  refine ⟨e, w', fr, hR, ?_, hfn, hl⟩
  cases e with
  | outgrown => exact hs
  | returned v => exact (StepsIn.of_steps hs).mono fun m _ => h.fenced P m
  | panicked ch => exact (StepsIn.of_steps hs).mono fun m _ => h.fenced P m
theorem OpenF.calls {F : Fence} (h : OpenF F) {n : Nat} {P : Program} {f : FuncId} {args : Array Value} {w : World} {R : Ending → World → Prop} (hc : CallsIn F n P f args w R) : Calls P f args w R := by
  intro cs
  obtain ⟨e, w', fr, hR, hs, hfn, hl⟩ := hc.2 cs (h.room _)
  exact ⟨e, w', fr, hR, hs.comes, hfn, hl⟩

/-- '==' on structs of n integers; such structs as keys of maps -/
def EqFlat (P : Program) (t : TypeId) (n : Nat) : Prop := (∃ fs, P.underlying t = some (.struct fs)) ∧ ∀ (xs ys : List Int) (w : World), xs.length = n → ys.length = n →
  (∀ op x y, (op = .eql ∨ op = .neq) → (eqGuard op t x y (.agg (xs.map (Value.int .i64)).toArray) (.agg (ys.map (Value.int .i64)).toArray)).run P w = .ok () w ∧
    (binOp op t (.agg (xs.map (Value.int .i64)).toArray) (.agg (ys.map (Value.int .i64)).toArray)).run P w = .ok (.bool ((op == .neq) ^^ decide (xs = ys))) w) ∧
  (Op.equal t (.agg (xs.map (Value.int .i64)).toArray) (.agg (ys.map (Value.int .i64)).toArray)).run P w = .ok (decide (xs = ys)) w ∧
  ∀ e, (Instr.checkKey e 10000 t (.agg (xs.map (Value.int .i64)).toArray)).run P w = .ok () w

def Enters (P : Program) (f : FuncId) : Prop := ∀ args w, (callFunc f args).run P w = .ok (.enter f args) w

/-- what is pure behind a call: what was, and what was made -/
def Sfr (S : Nat → Prop) (w w' : World) : Nat → Prop := fun n => S n ∨ (w.heap.size ≤ n ∧ n < w'.heap.size)

/-- a function that computes r out of pure arguments -/
def PureCall (P : Program) (f : FuncId) (args : List V) (r : V) : Prop :=
  ∀ S w (cargs : Array Value), (∀ n, S n → n < w.heap.size) → cargs.size = args.length → RepL S w noO args cargs.toList →
    Calls P f cargs w fun e w' => ∃ c, e = .returned c ∧ Evol S (Sfr S w w') w w' noO noO ∧ Rep (Sfr S w w') w' noO r c

/-! a value with blocks of its own, as data -/
def shI (k : Nat) (id : Nat) : Nat := k + id
mutual
/-- blocks' numbers moved up -/
def shV (k : Nat) : V → V
  | .ad id g off => .ad (k + id) g off
  | .rf id g off len es => .rf (k + id) g off len es
  | .mp id g => .mp (k + id) g
  | .it id g => .it (k + id) g
  | .ag cs => .ag (shL k cs)
  | .tp cs => .tp (shL k cs)
  | .fn f cs => .fn f (shL k cs)
  | .gv q v => .gv q (shV k v)
  | v => v
def shL (k : Nat) : List V → List V
  | [] => []
  | v :: vs => shV k v :: shL k vs
end
def shB (k : Nat) : Blk → Blk
  | .cells g vs => .cells g (shL k vs)
  | .map st ks vs => .map st ks (shL k vs)
  | .iter mid n l c => .iter (k + mid) n l c
  | b => b

/-- a block as data (in a contract) -/
def bV : Blk → V
  | .cells g vs => .ag (.i g :: vs)
  | .map st ks vs => .tp (.b st :: .sl 0 (ks.map fun l => l.map .i) :: vs)
  | _ => .u
def vB : V → Blk
  | .ag (.i g :: vs) => .cells g.toNat vs
  | .tp (.b st :: .sl _ rows :: vs) => .map st (rows.map fun r => (intsOf r).getD []) vs
  | _ => .hole
theorem intsOf_map : ∀ l : List Int, intsOf (l.map .i) = some l
  | [] => rfl
  | n :: l => by simp [intsOf, intsOf_map l]
theorem vB_cells (g : Nat) (vs : List V) : vB (bV (.cells g vs)) = .cells g vs := by simp [bV, vB]
theorem vB_map (st : Bool) (ks : List (List Int)) (vs : List V) : vB (bV (.map st ks vs)) = .map st ks vs := by
  simp [bV, vB, Function.comp_def, intsOf_map]

/-- a function that computes, out of pure arguments, a value that owns blocks -/
def OwnCall (P : Program) (f : FuncId) (args : List V) (r : V) (hp : List Blk) : Prop :=
  ∀ S w (cargs : Array Value), (∀ n, S n → n < w.heap.size) → cargs.size = args.length → RepL S w noO args cargs.toList →
    Calls P f cargs w fun e w' => ∃ c S' O', e = .returned c ∧ Evol S S' w w' noO O' ∧ Mat S' w' O' hp ∧ Rep S' w' O' r c

/-- a function that gives, out of pure arguments, some value (with blocks of its own) that stands in a relation -/
def RelCall (P : Program) (f : FuncId) (args : List V) (R : V → List Blk → Prop) : Prop :=
  ∀ S w (cargs : Array Value), (∀ n, S n → n < w.heap.size) → cargs.size = args.length → RepL S w noO args cargs.toList →
    Calls P f cargs w fun e w' => ∃ c S' O' r hp, e = .returned c ∧ R r hp ∧ Evol S S' w w' noO O' ∧ Mat S' w' O' hp ∧ Rep S' w' O' r c

/-- the world goes on: what was lies as it lay -/
structure Later (w w' : World) : Prop where
  os : w'.os = w.os
  tape : w'.tape = w.tape
  output : w'.output = w.output
  size : w.heap.size ≤ w'.heap.size
  fz : ∀ a, w'.frozen? a = w.frozen? a
  old : ∀ n, n < w.heap.size → w'.heap[n]? = w.heap[n]?

/-- an iterator (a function of yield, with what it has captured) that yields values without memory, one behind the other, and makes memory at most -/
def IterCall (P : Program) (gf : FuncId) (caps : List V) (ys : List (List V)) : Prop :=
  ∀ (F : Fence) (n : Nat) (S : Nat → Prop) (w : World) (ccaps : Array Value) (l : Nat) (J Jx : Nat → World → Prop), OpenF F → F.round = none → (∀ n, S n → n < w.heap.size) → ccaps.size = caps.length → RepL S w noO caps ccaps.toList →
    (∀ k W W', J k W → Later W W' → J k W') → (∀ k W W', Jx k W → Later W W' → Jx k W') → (∀ k W, J k W ∨ Jx k W → w.heap.size ≤ W.heap.size ∧ ∀ n, S n → W.heap[n]? = w.heap[n]?) →
    (∀ k x W (cx : Array Value), ys[k]? = some x → J k W → RepL (fun _ => False) W noO x cx.toList → cx.size = x.length →
      YieldAt F (n - 1) P l cx W fun e W' => (e = .returned (.bool true) ∧ J (k + 1) W') ∨ (e = .returned (.bool false) ∧ Jx k W')) →
    J 0 w → CallsIn F n P gf (#[.func (.yield l) #[] #[]] ++ ccaps) w fun e W' => (∃ v, e = .returned v) ∧ (J ys.length W' ∨ ∃ k, Jx k W')

abbrev Gam := Nat → List V → Prop × V
/-- contracts: of a function f as it stands; at 1000000 + f of one whose result owns blocks (.tp [result, .tp blocks]); at 2000000 + f of an iterator (.sl 0 values); at 3000000 + f the condition of one whose result is not determined, at 4000000 + f, of (.tp (result :: blocks)) :: arguments, what is known of it -/
structure GOk (P : Program) (Γ : Gam) : Prop where
  pure : ∀ f args, f < 1000000 → (Γ f args).1 → Enters P f ∧ PureCall P f args (Γ f args).2
  own : ∀ f args r bs, (Γ (1000000 + f) args).1 → f < 1000000 → (Γ (1000000 + f) args).2 = .tp [r, .tp bs] → Enters P f ∧ OwnCall P f args r (bs.map vB)
  iter : ∀ f caps ys, f < 1000000 → (Γ (2000000 + f) caps).1 → (Γ (2000000 + f) caps).2 = .sl 0 ys → Enters P f ∧ IterCall P f caps ys
  rel : ∀ f args, f < 1000000 → (Γ (3000000 + f) args).1 → Enters P f ∧ RelCall P f args fun r hp => ∃ bs : List V, hp = bs.map vB ∧ (Γ (4000000 + f) (.tp (r :: bs) :: args)).1

section
variable {P : Program} {F : Fence} {n : Nat}

theorem wpIn_value {o : Oper} {a : Act} {w w' : World} {c : Value} {K : Act → World → Prop} {Q' : Exit → Act → World → Prop} (hF : OpenF F)
    (hd : ∀ c, o.op ≠ .defer c) (hr : (execOp a.eval o).run P w = .ok (.value c) w') (h : K (a.put o.dst c) w') : o.wpIn F n P a w K Q' := by
  refine ⟨fun f _ => hF.1 f, ?_⟩
  rw [Oper.semAt_eq _ _ _ hd, hr]
  exact h

theorem wpIn_skip' {o : Oper} {a : Act} {w w' : World} {K : Act → World → Prop} {Q' : Exit → Act → World → Prop} (hF : OpenF F)
    (hd : ∀ c, o.op ≠ .defer c) (hr : (execOp a.eval o).run P w = .ok .skip w') (h : K (a.put o.dst undef) w') : o.wpIn F n P a w K Q' := by
  refine ⟨fun f _ => hF.1 f, ?_⟩
  rw [Oper.semAt_eq _ _ _ hd, hr]
  exact h

theorem wpIn_enter {o : Oper} {a : Act} {w w' : World} {f : FuncId} {args : Array Value} {K : Act → World → Prop} {Q' : Exit → Act → World → Prop} (hF : OpenF F)
    (hd : ∀ c, o.op ≠ .defer c) (hr : (execOp a.eval o).run P w = .ok (.enter f args) w')
    (h : Calls P f args w' fun e w'' => ∃ c, e = .returned c ∧ K (a.put o.dst c) w'') : o.wpIn F n P a w K Q' := by
  refine ⟨fun f _ => hF.1 f, ?_⟩
  rw [Oper.semAt_eq _ _ _ hd, hr]
  refine ⟨fun hh => by simp [hF.2.1] at hh, (hF.callsIn h).mono ?_⟩
  rintro e w2 ⟨c, rfl, hK⟩
  exact hK

theorem run_isAgg' {t : TypeId} {d : TypeDesc} (h : P.underlying t = some d) (w : World) : (isAgg t).run P w = .ok (isAggB P t) w := by
  simp only [isAgg, Sem.run_bind, run_underlying h, Result.andThen_ok, isAggB, h]
  cases d <;> rfl

theorem run_sizeOf' {t : TypeId} {s : Nat} (h : szB P t = some s) (w : World) : (sizeOf t).run P w = .ok s w := by
  simp only [szB, Option.map_eq_some_iff] at h
  obtain ⟨i, hi, rfl⟩ := h
  simp [sizeOf, typeInfo, hi]

theorem cell_at {w : World} {b off : Nat} {cur : Array Value} {e : TypeId} {fr : Nat × Nat} (h : w.heap[b]? = some (.cells cur e fr)) (j : Nat) :
    w.cell? ((⟨b, off, none⟩ : Addr).add j) = (cur.toList.drop off)[j]? := by
  unfold Addr.add
  split
  · rename_i hj; subst hj; simp [World.cell?, h]
  · simp [World.cell?, h]

theorem run_loadCells_at {w : World} {b off : Nat} {cur : Array Value} {e : TypeId} {fr : Nat × Nat} (h : w.heap[b]? = some (.cells cur e fr)) (k : Nat) (hk : k ≤ (cur.toList.drop off).length) :
    (loadCells ⟨b, off, none⟩ k).run P w = .ok ((cur.toList.drop off).take k).toArray w := by
  have := run_loadCells_list (P := P) w ⟨b, off, none⟩ ((cur.toList.drop off).take k) (fun j v hv => by
    rw [cell_at h, ← hv, List.getElem?_take]
    split
    · rfl
    · rename_i hj; rw [List.getElem?_take, if_neg hj] at hv; cases hv)
  rwa [List.length_take, Nat.min_eq_left hk] at this

/-- reading a variable of a type, off a row of cells -/
theorem run_loadVar_at {w : World} {b off : Nat} {cur : Array Value} {e : TypeId} {fr : Nat × Nat} (h : w.heap[b]? = some (.cells cur e fr)) {t : TypeId} {k : Nat} (ht : ldB P t = some k) {d : TypeDesc} (hu : P.underlying t = some d)
    (hk : k ≤ (cur.toList.drop off).length) :
    (loadVar t ⟨b, off, none⟩).run P w = .ok (if isAggB P t then .agg ((cur.toList.drop off).take k).toArray else (cur.toList.drop off).headD undef) w := by
  simp only [loadVar, Sem.run_bind, run_isAgg' hu, Result.andThen_ok]
  by_cases ha : isAggB P t = true
  · simp only [ha, if_true]
    have hs : szB P t = some k := by simpa [ldB, ha] using ht
    simp [Sem.run_bind, run_sizeOf' hs, run_loadCells_at h k hk]
  · simp only [ha]
    have hk1 : k = 1 := by simpa [ldB, ha, hu] using ht.symm
    subst hk1
    have hc := cell_at (off := off) h 0
    cases hd : cur.toList.drop off with
    | nil => rw [hd] at hk; simp at hk
    | cons c cs =>
      rw [hd] at hc
      have hc' : w.cell? ⟨b, off, none⟩ = some c := by simpa [Addr.add] using hc
      simp [run_load, hc']

theorem RepL.head {S : Nat → Prop} {w : World} {O : OInfo} {vs : List V} {cs : List Value} (h : RepL S w O vs cs) (hn : 1 ≤ vs.length) : Rep S w O (vs.headD .u) (cs.headD undef) := by
  cases vs with
  | nil => simp at hn
  | cons v vs =>
    cases cs with
    | nil => simp [RepL] at h
    | cons c cs => simp only [RepL] at h; simpa using h.1

theorem rep_loaded {S : Nat → Prop} {w : World} {O : OInfo} {vs : List V} {cs : List Value} (h : RepL S w O vs cs) (ag : Bool) (k : Nat) (hk : k ≤ vs.length) (h1 : ag = false → k = 1) :
    Rep S w O (if ag then .ag (vs.take k) else vs.headD .u) (if ag then .agg (cs.take k).toArray else cs.headD undef) := by
  have hl := RepL.length _ _ h
  cases ag with
  | false => have := h1 rfl; subst this; simpa using h.head hk
  | true =>
    simp only [if_true, Rep]
    refine ⟨_, rfl, by simp; omega, ?_⟩
    simpa using RepL.take_both k _ _ (h.take k) (by simp; omega)


theorem Mat.keep {S S' : Nat → Prop} {w w' : World} {O : OInfo} {hp : List Blk} (h : Mat S w O hp) (hx : Ext S S' w w' O O) (hs : w.heap.size ≤ w'.heap.size)
    (hown : ∀ b, Own O b → w'.heap[b]? = w.heap[b]?) (hlt : ∀ k, S' k → k < w'.heap.size) (hno : ∀ k, S' k → ¬ Own O k) : Mat S' w' O hp := by
  refine ⟨hlt, fun id g b hb => ⟨Nat.lt_of_lt_of_le (h.own id g b hb).1 hs, fun hS => hno b hS ⟨id, g, hb⟩⟩, h.inj, fun id g ob ho => ?_⟩
  have := h.blk id g ob ho
  exact this.ext hx fun b hb => hown b ⟨id, g, by rw [ho, hb]⟩

theorem heap_alloc_past' (w : World) (o : Obj) {n : Nat} (h : ¬ n = w.heap.size) : (w.alloc o).heap[n]? = w.heap[n]? := by
  rcases Nat.lt_or_ge n w.heap.size with h' | h'
  · exact heap_alloc_old w o h'
  · have : w.heap.size + 1 ≤ n := by omega
    rw [Array.getElem?_eq_none (by simp; omega), Array.getElem?_eq_none (by omega)]
theorem frozen_alloc (w : World) (c : Array Value) (t : TypeId) (a : Addr) : (w.alloc (.cells c t)).frozen? a = w.frozen? a := by
  by_cases h : a.block = w.heap.size
  · have h1 : (w.alloc (.cells c t)).heap[a.block]? = some (.cells c t) := by rw [h]; exact heap_alloc_new w _
    have h2 : w.heap[a.block]? = none := by rw [h]; simp
    simp [World.frozen?, h1, h2]
  · simp only [World.frozen?, heap_alloc_past' w _ h]
theorem frozen_heap {w w' : World} (h : w'.heap = w.heap) (a : Addr) : w'.frozen? a = w.frozen? a := by simp [World.frozen?, h]

/-- a new pure block -/
theorem evol_alloc {S : Nat → Prop} {w : World} {O : OInfo} {hp : List Blk} (h : Mat S w O hp) (c : Array Value) (t : TypeId) :
    Evol S (fun k => S k ∨ k = w.heap.size) w (w.alloc (.cells c t)) O O ∧ Mat (fun k => S k ∨ k = w.heap.size) (w.alloc (.cells c t)) O hp := by
  obtain ⟨o, ho⟩ : ∃ o : Obj, o = .cells c t := ⟨_, rfl⟩
  have hfz : ∀ a, (w.alloc o).frozen? a = w.frozen? a := by rw [ho]; exact frozen_alloc w c t
  rw [← ho]
  have hold : ∀ k, k < w.heap.size → (w.alloc o).heap[k]? = w.heap[k]? := fun k hk => heap_alloc_old w o hk
  have hx : Ext S (fun k => S k ∨ k = w.heap.size) w (w.alloc o) O O :=
    ⟨fun k hk => ⟨.inl hk, hold k (h.lt k hk)⟩, fun id g ob ho => ⟨g, ob, ho, Nat.le_refl _, fun _ => ⟨rfl, fun b cur e hb hh =>
      ⟨cur, (hold b (by subst hb; exact (h.own id g b ho).1)).trans hh, rfl⟩⟩⟩⟩
  refine ⟨⟨hx, rfl, rfl, rfl, by simp, hfz, fun k hk _ => hold k hk, fun _ h => .inl h, fun k hk => ?_⟩, ?_⟩
  · rcases hk with hk | hk
    · exact .inl hk
    · exact .inr (.inr (by omega))
  · refine h.keep hx (by simp) (fun b ⟨id, g, hb⟩ => hold b (h.own id g b hb).1) ?_ ?_
    · intro k hk
      rcases hk with hk | hk
      · have := h.lt k hk; simp; omega
      · simp; omega
    · rintro k hk ⟨id, g, hb⟩
      have := h.own id g k hb
      rcases hk with hk | hk
      · exact this.2 hk
      · omega

theorem chunk_succ (es : Nat) (vs : List V) (off len : Nat) : chunk es vs off (len + 1) = (vs.drop off).take es :: chunk es vs (off + es) len := by
  unfold chunk
  rw [List.range_succ_eq_map, List.map_cons, List.map_map]
  congr 1
  · simp
  · apply List.map_congr_left
    intro k _
    simp only [Function.comp, Nat.succ_eq_add_one, Nat.add_mul, Nat.one_mul]
    congr 2
    omega

theorem chunk_map (es : Nat) (vs : List V) (off len : Nat) (f : V → V) : (chunk es vs off len).map (fun r => r.map f) = chunk es (vs.map f) off len := by
  unfold chunk
  rw [List.map_map]
  apply List.map_congr_left
  intro k _
  simp [List.map_take, List.map_drop]

theorem chunk_rows {S : Nat → Prop} {w : World} {es : Nat} {vs : List V} : ∀ (len off : Nat) (cs : List Value), RepL S w noO (vs.drop off) cs → (∀ c ∈ cs, c.oneCell' = true) → off + len * es ≤ vs.length → RepRows S w es (chunk es vs off len) cs
  | 0, off, cs, _, _, _ => by simp [chunk, RepRows]
  | len + 1, off, cs, h, h1, hl => by
    rw [chunk_succ]
    rw [Nat.succ_mul] at hl
    simp only [RepRows]
    refine ⟨⟨by simp; omega, fun c hc => h1 c (List.mem_of_mem_take hc)⟩, h.take es, ?_⟩
    have hd := h.drop es
    rw [List.drop_drop] at hd
    exact chunk_rows len (off + es) (cs.drop es) hd (fun c hc => h1 c (List.mem_of_mem_drop hc)) (by omega)

theorem chunk_length (es : Nat) (vs : List V) (off len : Nat) : (chunk es vs off len).length = len := by simp [chunk]

theorem RepL.mapTo {S S' : Nat → Prop} {w : World} {O O' : OInfo} (f : V → V) (h : ∀ v c, Rep S w O v c → Rep S' w O' (f v) c) : ∀ (vs : List V) (cs : List Value), RepL S w O vs cs → RepL S' w O' (vs.map f) cs
  | [], _, _ => by simp [RepL]
  | _ :: _, [], h' => by simp [RepL] at h'
  | v :: vs, c :: cs, h' => by simp only [RepL] at h'; simp only [List.map_cons, RepL]; exact ⟨h v c h'.1, RepL.mapTo f h vs cs h'.2⟩

theorem vw_rep {S : Nat → Prop} {w : World} {O : OInfo} {hp : List Blk} (hm : Mat S w O hp) : ∀ (n : Nat) (v : V) (c : Value), Rep S w O v c → Rep (fun k => S k ∨ Own O k) w noO (vw hp n v) c := by
  have hx : Ext S (fun k => S k ∨ Own O k) w w noO noO := ⟨fun k hk => ⟨.inl hk, rfl⟩, fun _ _ _ h => by cases h⟩
  intro n
  induction n with
  | zero => intro v c _; simp [vw, Rep]
  | succ n ih =>
    intro v c h
    cases v with
    | u => simp [vw, Rep]
    | b x => simpa [vw, Rep] using h
    | i x => simpa [vw, Rep] using h
    | pn => simpa [vw, Rep] using h
    | yl x => simpa [vw, Rep] using h
    | z es => 
      simp only [vw, Rep] at h ⊢
      obtain ⟨a, rfl⟩ := h
      exact ⟨a, 0, rfl, by simp, .inl trivial⟩
    | sl es rows => 
      have h' : Rep S w noO (.sl es rows) c := by simpa only [Rep] using h
      simpa [vw] using Rep.ext hx _ _ h'
    | pa cs => 
      have h' : Rep S w noO (.pa cs) c := by simpa only [Rep] using h
      simpa [vw] using Rep.ext hx _ _ h'
    | ag cs =>
      simp only [vw, Rep] at h ⊢
      obtain ⟨ccs, hc, hn, hr⟩ := h
      exact ⟨ccs, hc, by simpa using hn, RepL.mapTo _ ih _ _ hr⟩
    | tp cs =>
      simp only [vw, Rep] at h ⊢
      obtain ⟨ccs, hc, hn, hr⟩ := h
      exact ⟨ccs, hc, by simpa using hn, RepL.mapTo _ ih _ _ hr⟩
    | fn f cs =>
      simp only [vw, Rep] at h ⊢
      obtain ⟨ccs, hc, hn, hr⟩ := h
      exact ⟨ccs, hc, by simpa using hn, RepL.mapTo _ ih _ _ hr⟩
    | mp id g => simp [vw, Rep]
    | it id g => simp [vw, Rep]
    | gv q v =>
      simp only [vw, Rep] at h ⊢
      exact ⟨fun hq => ih v c (h.1 hq), h.2⟩
    | ad id g off =>
      simp only [vw]
      split
      · rename_i g' vs hid
        split
        · rename_i hg
          subst hg
          simp only [Rep] at h ⊢
          obtain ⟨_, gO, ob, hO, hle, hr⟩ := h
          have hb := hm.blk id gO ob hO
          rw [hid] at hb
          simp only [BlkOk] at hb
          obtain ⟨b, rfl, rfl⟩ := hr hb.1
          obtain ⟨cur, e, hh, hrl, h1⟩ := hb.2
          exact ⟨b, off, cur, e, (0, 0), rfl, .inr ⟨id, gO, hO⟩, hh, RepL.mapTo _ ih _ _ (hrl.drop off)⟩
        · simp [Rep]
      · simp [Rep]
    | rf id g off len es =>
      simp only [vw]
      split
      · rename_i g' vs hid
        split
        · rename_i hg
          obtain ⟨hg, hfit⟩ := hg
          subst hg
          simp only [Rep] at h ⊢
          obtain ⟨_, gO, ob, hO, hle, hr⟩ := h
          have hb := hm.blk id gO ob hO
          rw [hid] at hb
          simp only [BlkOk] at hb
          rcases hr hb.1 with ⟨b, cap, cur', e', rfl, hh', rfl, hlc, hsz⟩ | ⟨rfl, rfl, a, rfl⟩
          · obtain ⟨cur, e, hh, hrl, h1⟩ := hb.2
            refine ⟨_, cap, by simp [chunk_length], by simpa [chunk_length] using hlc, .inr ⟨b, off, cur, e, (0, 0), rfl, .inr ⟨id, gO, hO⟩, hh, ?_⟩⟩
            rw [chunk_map]
            refine chunk_rows len off _ ?_ (fun c hc => h1 c (List.mem_of_mem_drop hc)) (by simpa using hfit)
            rw [← List.map_drop]
            exact RepL.mapTo _ ih _ _ (hrl.drop off)
          · exact ⟨a, 0, by simp [chunk], by simp [chunk], .inl (by simp [chunk])⟩
        · simp [Rep]
      · simp [Rep]

end
end Go.Fam
