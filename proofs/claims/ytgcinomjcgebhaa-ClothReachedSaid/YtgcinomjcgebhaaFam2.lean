import Derived.Test.YtgcinomjcgebhaaFam1
set_option linter.all false
/- Operations on abstract values: what each gives, and on what condition. -/
namespace Go.Fam
inductive Od where
  | t (n : Nat) | k (v : V)

instance : Inhabited Od := ⟨.k .u⟩

/-- within int -/
def inI (n : Int) : Prop := -9223372036854775808 ≤ n ∧ n ≤ 9223372036854775807

def V.cells : V → List V | .ag cs => cs | v => [v]
def cellOk : V → Bool | .u | .ag _ | .tp _ | .gv _ _ => false | _ => true
def solid : V → Bool | .u | .gv _ _ | .tp _ => false | _ => true
def ug : V → Bool × V | .gv c v => (c, v) | v => (true, v)

def chunk (es : Nat) (vs : List V) (off len : Nat) : List (List V) := (List.range len).map fun k => (vs.drop (off + k * es)).take es

mutual
def hasRef : V → Bool
  | .ag cs | .tp cs => hasRefL cs
  | .fn _ cs => hasRefL cs
  | .ad _ _ _ | .rf _ _ _ _ _ | .mp _ _ | .it _ _ => true
  | .gv _ v => hasRef v
  | _ => false
def hasRefL : List V → Bool
  | [] => false
  | v :: vs => hasRef v || hasRefL vs
end
mutual
def flat : V → Bool
  | .b _ | .i _ | .pn | .z _ => true
  | .ag cs | .tp cs => flatL cs
  | _ => false
def flatL : List V → Bool
  | [] => true
  | v :: vs => flat v && flatL vs
end

/-- a value as pure data: own blocks are read through -/
def vw (hp : List Blk) : Nat → V → V
  | 0, _ => .u
  | n + 1, v => match v with
    | .z es => .sl es []
    | .ag cs => .ag (cs.map (vw hp n))
    | .tp cs => .tp (cs.map (vw hp n))
    | .fn f cs => .fn f (cs.map (vw hp n))
    | .ad id g off => match hp[id]? with
      | some (.cells g' vs) => if g' = g then .pa ((vs.drop off).map (vw hp n)) else .u
      | _ => .u
    | .rf id g off len es => match hp[id]? with
      | some (.cells g' vs) => if g' = g ∧ off + len * es ≤ vs.length then .sl es ((chunk es vs off len).map fun r => r.map (vw hp n)) else .u
      | _ => .u
    | .mp _ _ | .it _ _ => .u
    | .gv c v => .gv c (vw hp n v)
    | v => v

/-- quiet operations: they read, compute, call; at most pure memory is made -/
inductive Q where
  | mv (x : Od) | bin (op : BinOp) (x y : Od) | bq (neg : Bool) (x y : Od) | eqs (neg : Bool) (ty : TypeId) (x y : Od) | not (x : Od) | neg (x : Od)
  | ld (ag : Bool) (n : Nat) (x : Od) | fad (off : Nat) (x : Od) | fld (ag : Bool) (n off : Nat) (x : Od)
  | iad (es : Nat) (x i : Od) | len (x : Od) | ext (x : Od) (k : Nat) | nilc (x : Od) | pick (c a b : Od)
  | mkf (f : Nat) (caps : List Od) | bld (zc : List V) (parts : List (Nat × Nat × Od)) | mn (x y : Od) | mx (x y : Od) | cvt (x : Od)
  | bsl (es n : Nat) (zc : List V) (parts : List (Nat × Nat × Od)) | box (x : Od) | slc (es : Nat) (x : Od) (lo hi : Option Od)
  | call (f : Od) (args : List Od)
  | lkp (zc : V) (ok : Bool) (kt : TypeId) (sk : Bool) (m k : Od) | ent (it : Od) | mlen (x : Od)

def Q.ods : Q → List Od
  | .mv x | .not x | .neg x | .ld _ _ x | .fad _ x | .fld _ _ _ x | .len x | .ext x _ | .nilc x | .cvt x | .box x => [x]
  | .bin _ x y | .bq _ x y | .eqs _ _ x y | .iad _ x y | .mn x y | .mx x y => [x, y]
  | .pick c a b => [c, a, b]
  | .mkf _ xs => xs
  | .bld _ ps | .bsl _ _ _ ps => ps.map (·.2.2)
  | .slc _ x lo hi => x :: (lo.toList ++ hi.toList)
  | .call f xs => f :: xs
  | .lkp _ _ _ _ m k => [m, k]
  | .ent x | .mlen x => [x]

def intsOf : List V → Option (List Int)
  | [] => some []
  | .i n :: l => (intsOf l).map (n :: ·)
  | _ :: _ => none

def binV (op : BinOp) (x y : V) : Prop × V :=
  match x, y with
  | .i a, .i c => match op with
    | .add => (inI (a + c), .i (a + c))
    | .sub => (inI (a - c), .i (a - c))
    | .mul => (inI (a * c), .i (a * c))
    | .quo => (c ≠ 0 ∧ inI (a.tdiv c), .i (a.tdiv c))
    | .rem => (c ≠ 0, .i (a.tmod c))
    | .eql => (True, .b (decide (a = c)))
    | .neq => (True, .b (!decide (a = c)))
    | .lss => (True, .b (decide (a < c)))
    | .leq => (True, .b (decide (a ≤ c)))
    | .gtr => (True, .b (decide (c < a)))
    | .geq => (True, .b (decide (c ≤ a)))
    | _ => (False, .u)
  | _, _ => (False, .u)

def putAt (off : Nat) (vs cs : List V) : List V := cs.take off ++ vs ++ cs.drop (off + vs.length)

def ldV (hp : List Blk) (ag : Bool) (n : Nat) (x : V) : Prop × V :=
  match x with
  | .pa cs => (n ≤ cs.length, if ag then .ag (cs.take n) else cs.headD .u)
  | .ad id g off => match hp[id]? with
    | some (.cells g' vs) => (g' = g ∧ off + n ≤ vs.length, if ag then .ag ((vs.drop off).take n) else (vs.drop off).headD .u)
    | _ => (False, .u)
  | _ => (False, .u)

def iadV (hp : List Blk) (es : Nat) (x i : V) : Prop × V :=
  match i with
  | .i k => match x with
    | .sl es' rows => (es' = es ∧ 0 ≤ k ∧ k < rows.length, .pa (rows.getD k.toNat []))
    | .rf id g off len es' => match hp[id]? with
      | some (.cells g' _) => (g' = g ∧ es' = es ∧ 0 ≤ k ∧ k < len, .ad id g (off + k.toNat * es))
      | _ => (False, .u)
    | _ => (False, .u)
  | _ => (False, .u)

def curG (hp : List Blk) (id g : Nat) : Bool := match hp[id]? with | some (.cells g' _) => g' == g | _ => false

def lenV (hp : List Blk) (x : V) : Prop × V :=
  match x with
  | .sl _ rows => (True, .i rows.length)
  | .z _ => (True, .i 0)
  | .rf id g _ len _ => match hp[id]? with
    | some (.cells g' _) => (g' = g, .i len)
    | _ => (False, .u)
  | _ => (False, .u)

def intOr (d : Int) : Option V → Option Int
  | none => some d
  | some (.i n) => some n
  | _ => none

def slcV (es : Nat) (x : V) (lo hi : Option V) : Prop × V :=
  match x with
  | .sl es' rows => match intOr 0 lo, intOr rows.length hi with
    | some l, some h => (es' = es ∧ 0 ≤ l ∧ l ≤ h ∧ h ≤ rows.length, .sl es ((rows.take h.toNat).drop l.toNat))
    | _, _ => (False, .u)
  | _ => (False, .u)

/-! ### maps -/
def keyV (st : Bool) (l : List Int) : V := if st then .ag (l.map .i) else .i (l.headD 0)
def keyL : V → Option (Bool × List Int)
  | .i n => some (false, [n])
  | .ag cs => (intsOf cs).map fun l => (true, l)
  | _ => none
/-- a key fits a map -/
def keyFits (E : TypeId → Nat → Prop) (kt : TypeId) (sk st : Bool) (ks : List (List Int)) (s : Bool) (l : List Int) : Prop := s = sk ∧ st = sk ∧ (sk = true → E kt l.length ∧ ∀ k ∈ ks, k.length = l.length)
def lkpV (E : TypeId → Nat → Prop) (hp : List Blk) (zc : V) (ok : Bool) (kt : TypeId) (sk : Bool) (m k : V) : Prop × V := match m, keyL k with
  | .mp id g, some (s, l) => match hp[id]? with
    | some (.map st ks vs) => (g = 0 ∧ keyFits E kt sk st ks s l, if ok then .tp [(vs[ks.idxOf l]?).getD zc, .b (decide (l ∈ ks))] else (vs[ks.idxOf l]?).getD zc)
    | _ => (False, .u)
  | _, _ => (False, .u)
def entV (hp : List Blk) (it : V) : Prop × V := match it with
  | .it id g => match hp[id]? with
    | some (.iter mid n _ (some j)) => match hp[mid]? with
      | some (.map st ks vs) => (g = 0 ∧ ks.length = n, .tp [keyV st (ks.getD j []), vs.getD j .u])
      | _ => (False, .u)
    | _ => (False, .u)
  | _ => (False, .u)
def mlenV (hp : List Blk) (m : V) : Prop × V := match m with
  | .mp id g => match hp[id]? with
    | some (.map _ ks _) => (g = 0, .i ks.length)
    | _ => (False, .u)
  | _ => (False, .u)

/-- what a call of a pure function gives -/
def callV (Γ : Nat → List V → Prop × V) (hp : List Blk) (f : V) (args : List V) : Prop × V :=
  match f with
  | .fn g caps =>
    let as := (args ++ caps).map (vw hp 8)
    let r := Γ g as
    (g < 1000000 ∧ r.1 ∧ (hasRefL (args ++ caps) = true → flat r.2 = true), r.2)
  | _ => (False, .u)

def foldParts : List (Nat × Nat × V) → List V → List V
  | [], cs => cs
  | (off, _, v) :: ps, cs => foldParts ps (putAt off v.cells cs)
def partsOk (n : Nat) : List (Nat × Nat × V) → Prop
  | [] => True
  | (off, sz, v) :: ps => (solid v = true ∧ v.cells.length = sz ∧ off + sz ≤ n) ∧ partsOk n ps
def partsOne : List (Nat × Nat × V) → Prop
  | [] => True
  | (_, _, v) :: ps => v.cells.all cellOk = true ∧ partsOne ps

/-- one of two truth values: only the one that is chosen must be known -/
def pickV (p : Bool) (a b : V) : Prop × V := match a, b with
  | .b x, .b y => (True, .b (if p then x else y))
  | .b x, _ => (p = true, .b x)
  | _, .b y => (p = false, .b y)
  | _, _ => (False, .u)
theorem pickV_val {p : Bool} {a b : V} (h : (pickV p a b).1) : (∃ x, a = .b x ∧ p = true ∧ (pickV p a b).2 = .b x) ∨ (∃ y, b = .b y ∧ p = false ∧ (pickV p a b).2 = .b y) := by
  cases p <;> cases a <;> cases b <;> simp [pickV] at h ⊢

def qv (Γ : Nat → List V → Prop × V) (E : TypeId → Nat → Prop) (hp : List Blk) (q : Q) (ρ : Od → V) : Prop × V :=
  match q with
  | .mv x => (True, ρ x)
  | .bin op x y => binV op (ρ x) (ρ y)
  | .bq neg x y => match ρ x, ρ y with
    | .b p, .b q => (True, .b (neg ^^ (p == q)))
    | _, _ => (False, .u)
  | .eqs neg ty x y => match ρ x, ρ y with
    | .ag xs, .ag ys => match intsOf xs, intsOf ys with
      | some m, some n => (E ty xs.length ∧ xs.length = ys.length, .b (neg ^^ decide (m = n)))
      | _, _ => (False, .u)
    | _, _ => (False, .u)
  | .not x => match ρ x with | .b p => (True, .b (!p)) | _ => (False, .u)
  | .neg x => match ρ x with | .i a => (inI (-a), .i (-a)) | _ => (False, .u)
  | .ld ag n x => ldV hp ag n (ρ x)
  | .fad off x => match ρ x with
    | .pa cs => (True, .pa (cs.drop off))
    | .ad id g o => (curG hp id g = true, .ad id g (o + off))
    | _ => (False, .u)
  | .fld ag n off x => match ρ x with
    | .ag cs => (off + n ≤ cs.length, if ag then .ag ((cs.drop off).take n) else (cs.drop off).headD .u)
    | _ => (False, .u)
  | .iad es x i => iadV hp es (ρ x) (ρ i)
  | .len x => lenV hp (ρ x)
  | .ext x k => match ρ x with
    | .tp cs => (k < cs.length, (cs[k]?).getD .u)
    | _ => (False, .u)
  | .nilc x => match ρ x with
    | .pa cs => (True, .pa cs)
    | .ad id g o => (curG hp id g = true, .ad id g o)
    | _ => (False, .u)
  | .pick c a b => match ρ c with
    | .b p => pickV p (ρ a) (ρ b)
    | _ => (False, .u)
  | .mkf f caps => (True, .fn f (caps.map ρ))
  | .bld zc ps =>
    let vs := ps.map fun p => (p.1, p.2.1, ρ p.2.2)
    (partsOk zc.length vs, .ag (foldParts vs zc))
  | .mn x y => match ρ x, ρ y with | .i a, .i c => (True, .i (min a c)) | _, _ => (False, .u)
  | .mx x y => match ρ x, ρ y with | .i a, .i c => (True, .i (max a c)) | _, _ => (False, .u)
  | .cvt x => match ρ x with | .i a => (inI a, .i a) | _ => (False, .u)
  | .bsl es n zc ps =>
    let vs := ps.map fun p => (p.1, p.2.1, vw hp 8 (ρ p.2.2))
    ((hasRefL (ps.map fun p => ρ p.2.2) = false ∧ es ≠ 0) ∧ partsOk (n * es) vs ∧ partsOne vs, .sl es (chunk es (foldParts vs (List.replicate n zc).flatten) 0 n))
  | .box x => (hasRef (ρ x) = false ∧ solid (vw hp 8 (ρ x)) = true, .pa (vw hp 8 (ρ x)).cells)
  | .slc es x lo hi => slcV es (ρ x) (lo.map ρ) (hi.map ρ)
  | .call f xs => callV Γ hp (ρ f) (xs.map ρ)
  | .lkp zc ok kt sk m k => lkpV E hp zc ok kt sk (ρ m) (ρ k)
  | .ent x => entV hp (ρ x)
  | .mlen x => mlenV hp (ρ x)

/-! ### from the program's operations to these -/
def isAggB (P : Program) (t : TypeId) : Bool := match P.underlying t with | some (.struct _) | some (.array _ _) => true | _ => false
def szB (P : Program) (t : TypeId) : Option Nat := (P.info? t).map (·.size)
def mapB (P : Program) (t : TypeId) : Option (TypeId × TypeId) := match P.underlying t with | some (.map k e) => some (k, e) | _ => none
def elB (P : Program) (t : TypeId) : Option TypeId := match P.underlying t with | some (.slice e) => some e | _ => none
/-- the size of a slice's elements -/
def esB (P : Program) (t : TypeId) : Option Nat := (elB P t).bind (szB P)

/-- the zero value's cells -/
def zV (P : Program) : Nat → TypeId → List V
  | 0, _ => []
  | n + 1, t => match P.underlying t with
    | some (.int .i64) => [.i 0]
    | some .bool => [.b false]
    | some (.slice e) => [.z ((szB P e).getD 0)]
    | some (.pointer _) => [.pn]
    | some (.struct fs) => fs.toList.flatMap fun f => zV P n f.type
    | _ => [.u]

/-- the zero value of a type -/
def zE (P : Program) (t : TypeId) : V := if isAggB P t then .ag (zV P 9 t) else (zV P 9 t).headD .u

def zChk : List V → List Value → Bool
  | [], [] => true
  | .i a :: vs, .int .i64 b :: cs => a == b && zChk vs cs
  | .b a :: vs, .bool b :: cs => a == b && zChk vs cs
  | .z _ :: vs, .slice _ 0 0 :: cs => zChk vs cs
  | .pn :: vs, .pointer none :: cs => zChk vs cs
  | .u :: vs, c :: cs => c.oneCell' && zChk vs cs
  | _, _ => false

theorem zChk_ok : ∀ (vs : List V) (cs : List Value), zChk vs cs = true → ∀ S w O, RepL S w O vs cs ∧ (∀ c ∈ cs, c.oneCell' = true) ∧ vs.length = cs.length := by
  intro vs
  induction vs with
  | nil => intro cs h S w O; cases cs <;> simp_all [zChk, RepL]
  | cons v vs ih =>
    intro cs h S w O
    cases cs with
    | nil => cases v <;> simp [zChk] at h
    | cons c cs =>
      cases v <;> first | (simp [zChk] at h; done) | skip
      case u =>
        simp only [zChk, Bool.and_eq_true] at h
        have := ih cs h.2 S w O
        refine ⟨by simp [RepL, Rep, this.1], ?_, by simp [this.2.2]⟩
        intro c' hc'
        rcases List.mem_cons.1 hc' with rfl | hc'
        · exact h.1
        · exact this.2.1 _ hc'
      all_goals
        cases c <;> first | (simp [zChk] at h; done) | skip
      case b.bool => 
        simp [zChk] at h
        have := ih cs h.2 S w O
        refine ⟨by simp [RepL, Rep, this.1, h.1], ?_, by simp [this.2.2]⟩
        intro c' hc'; rcases List.mem_cons.1 hc' with rfl | hc'
        · rfl
        · exact this.2.1 _ hc'
      case i.int k n =>
        cases k <;> simp [zChk] at h
        have := ih cs h.2 S w O
        refine ⟨by simp [RepL, Rep, this.1, h.1], ?_, by simp [this.2.2]⟩
        intro c' hc'; rcases List.mem_cons.1 hc' with rfl | hc'
        · rfl
        · exact this.2.1 _ hc'
      case z.slice a l cp =>
        cases l <;> cases cp <;> simp [zChk] at h
        have := ih cs h S w O
        refine ⟨by simp [RepL, Rep, this.1], ?_, by simp [this.2.2]⟩
        intro c' hc'; rcases List.mem_cons.1 hc' with rfl | hc'
        · rfl
        · exact this.2.1 _ hc'
      case pn.pointer a =>
        cases a <;> simp [zChk] at h
        have := ih cs h S w O
        refine ⟨by simp [RepL, Rep, this.1], ?_, by simp [this.2.2]⟩
        intro c' hc'; rcases List.mem_cons.1 hc' with rfl | hc'
        · rfl
        · exact this.2.1 _ hc'

def intsV : List Value → Option (List V)
  | [] => some []
  | .int .i64 n :: cs => (intsV cs).map (.i n :: ·)
  | .bool n :: cs => (intsV cs).map (.b n :: ·)
  | _ => none

/-- a constant of a type -/
def cV (P : Program) (t : TypeId) (c : Value) : Option V :=
  match c with
  | .bool b => some (.b b)
  | .int .i64 n => some (.i n)
  | .slice _ 0 0 => some (.z ((esB P t).getD 0))
  | .pointer none => some .pn
  | .agg cs => if zChk (zV P 9 t) cs.toList then some (.ag (zV P 9 t)) else (intsV cs.toList).map .ag
  | .tuple cs => if cs.size = 0 then some (.tp []) else none
  | .map none | .nilFunc => some .u
  | _ => none

def rOd (P : Program) (t : TypeId) : Operand → Option Od
  | .tmp n => some (.t n)
  | .const v => (cV P t v).map .k
  | .func f => some (.k (.fn f []))
  | .global _ => none

theorem intsV_ok : ∀ (cs : List Value) (vs : List V), intsV cs = some vs → ∀ S w O, RepL S w O vs cs ∧ vs.length = cs.length := by
  intro cs
  induction cs with
  | nil => intro vs h S w O; simp [intsV] at h; subst h; simp [RepL]
  | cons c cs ih =>
    intro vs h S w O
    cases c <;> first | (simp [intsV] at h; done) | skip
    case bool b =>
      simp [intsV] at h
      obtain ⟨vs', h1, rfl⟩ := h
      have := ih vs' h1 S w O
      simp [RepL, Rep, this]
    case int k n =>
      cases k <;> simp [intsV] at h
      obtain ⟨vs', h1, rfl⟩ := h
      have := ih vs' h1 S w O
      simp [RepL, Rep, this]

theorem cV_ok {P : Program} {t : TypeId} {c : Value} {v : V} (h : cV P t c = some v) (S : Nat → Prop) (w : World) (O : OInfo) : Rep S w O v c := by
  cases c with
  | bool b => simp [cV] at h; subst h; simp [Rep]
  | int k n => cases k <;> simp [cV] at h; subst h; simp [Rep]
  | slice a l cp =>
    rcases l with _ | l
    · rcases cp with _ | cp
      · simp [cV] at h; subst h; simp [Rep]
      · simp [cV] at h
    · simp [cV] at h
  | pointer a => cases a <;> simp [cV] at h; subst h; simp [Rep]
  | agg cs =>
    simp only [cV] at h
    split at h
    · rename_i hz
      simp at h; subst h
      have := zChk_ok _ _ hz S w O
      simp only [Rep]
      exact ⟨cs, rfl, by simp [this.2.2], this.1⟩
    · simp at h
      obtain ⟨vs, h1, rfl⟩ := h
      have := intsV_ok _ _ h1 S w O
      simp only [Rep]
      exact ⟨cs, rfl, by simp [this.2], this.1⟩
  | tuple cs =>
    simp only [cV] at h
    split at h
    · rename_i hz
      simp at h; subst h
      simp only [Rep]
      exact ⟨cs, rfl, by simpa using hz, by simp [RepL]⟩
    · cases h
  | map m =>
    cases m with
    | none => simp [cV] at h; subst h; simp [Rep]
    | some m => simp [cV] at h
  | nilFunc => simp [cV] at h; subst h; simp [Rep]
  | _ => simp [cV] at h
end Go.Fam
