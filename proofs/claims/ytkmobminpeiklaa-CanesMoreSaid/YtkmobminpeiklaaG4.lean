import Derived.Test.YtkmobminpeiklaaG3
import Derived.ProofKit
import Derived.OpenShut
import Derived.Laws.StructEq
set_option linter.all false
open List renaming map_cons → Qa, getElem?_eq_getElem → Qb, take_append_drop → Qe, drop_eq_nil_iff → Qf, find?_cons → Qg, nodup_cons → Qh, replicate → Qi, length_append → Qj, getElem?_append_left → Qk, mem_cons → Ql, getElem?_eq_none → Qo, drop_drop → Qp, nodup_nil → Qq, map_congr_left → Qr, set_cons_succ → Qs, mem_map → Qt, getElem?_map → Qu, mem_append → Qz, idxOf_cons → Q0
open Nat renaming lt_of_lt_of_le → Qd, zero_le → Qw, le_refl → Qx, not_lt_zero → Q1
open Bool renaming false_eq_true → Qc, and_eq_true → Qv, eq_iff_iff → Qy
open Option renaming bind_eq_some_iff → Qm, map_eq_some_iff → Qn
namespace Go.Fam
theorem Qa3 (fr : List (Nat × V)) (d : Nat) (v : V) : upd (lkp fr) (some d) v = lkp ((d, v) :: fr) := rfl
theorem Qar (fr : Nat → V) (v : V) : upd fr none v = fr := rfl
theorem Qa0 (fr : List (Nat × V)) (d t : Nat) (v : V) : lkp ((d, v) :: fr) t = if t = d then v else lkp fr t := rfl
theorem Qa4 (t : Nat) : lkp [] t = .u := rfl
theorem vw_i (hp : List Blk) (n : Nat) (x : Int) : vw hp (n + 1) (.i x) = .i x := rfl
theorem vw_b (hp : List Blk) (n : Nat) (x : Bool) : vw hp (n + 1) (.b x) = .b x := rfl
theorem vw_u (hp : List Blk) (n : Nat) : vw hp n .u = .u := by cases n <;> rfl
theorem Qxj (hp : List Blk) (n : Nat) : vw hp (n + 1) .pn = .pn := rfl
theorem vw_z (hp : List Blk) (n : Nat) (e : Nat) : vw hp (n + 1) (.z e) = .sl e [] := rfl
theorem Qb3 (hp : List Blk) (n : Nat) (e : Nat) (r : List (List V)) : vw hp (n + 1) (.sl e r) = .sl e r := rfl
theorem Qqt (hp : List Blk) (n : Nat) (r : List V) : vw hp (n + 1) (.pa r) = .pa r := rfl
theorem Qax (hp : List Blk) (n : Nat) (r : List V) : vw hp (n + 1) (.ag r) = .ag (r.map (vw hp n)) := rfl
theorem Qd9 (hp : List Blk) (n : Nat) (r : List V) : vw hp (n + 1) (.tp r) = .tp (r.map (vw hp n)) := rfl
theorem Qj4 (hp : List Blk) (n f : Nat) (r : List V) : vw hp (n + 1) (.fn f r) = .fn f (r.map (vw hp n)) := rfl
theorem Qee (hp : List Blk) (n id g off : Nat) : vw hp (n + 1) (.ad id g off) = match hp[id]? with
   | some (.cells g' vs) => if g' = g then .pa ((vs.drop off).map (vw hp n)) else .u
   | _ => .u := rfl
theorem Qdd (hp : List Blk) (n id g off len es : Nat) : vw hp (n + 1) (.rf id g off len es) = match hp[id]? with
   | some (.cells g' vs) => if g' = g ∧ off + len * es ≤ vs.length then .sl es ((Qcy es vs off len).map fun r => r.map (vw hp n)) else .u
   | _ => .u := rfl
section
variable {Γ : Gam} {E : TypeId → Nat → Prop} {g : Bool} {base : Nat}
theorem Qa6 (σ : St) (K : St → Prop) : runR Γ E g base [] σ K = K σ := rfl
theorem Qa2 (o : RO) (l : List RO) (σ : St) (K : St → Prop) : runR Γ E g base (o :: l) σ K = ((step Γ E g base o σ).1 ∧ runR Γ E g base l (step Γ E g base o σ).2 K) := rfl
theorem Qwk (d : Option Nat) (gd : Option (Nat × Bool)) (ts : List Nat) (nid : Option Nat) (q : Q) (σ : St) :
  step Γ E false base ⟨d, gd, ts, nid, .q q⟩ σ = ((qv Γ E σ.hp q (evO σ.fr)).1, ⟨upd σ.fr d (qv Γ E σ.hp q (evO σ.fr)).2, σ.hp⟩) := rfl
theorem Qxa (d : Option Nat) (gd : Option (Nat × Bool)) (ts : List Nat) (nid : Option Nat) (q : Q) (σ : St) :
  eff Γ E false base ⟨d, gd, ts, nid, .q q⟩ σ = ((qv Γ E σ.hp q (evO σ.fr)).1, (qv Γ E σ.hp q (evO σ.fr)).2, []) := rfl
variable {Q : Exit → St → Prop} {σ : St}
theorem Qxf : wpR Γ E .no Q σ = False := rfl
theorem Qal : wpR Γ E .skip Q σ = Q .normal σ := rfl
theorem Qaa (l : List RO) : wpR Γ E (.reg g l) Q σ = runR Γ E g 0 l σ (Q .normal) := rfl
theorem Qbo (m : Nat) (l : List AnyOp) : wpR Γ E (.any g m l) Q σ = runX Γ E g σ.hp.length l [] ⟨σ.fr, σ.hp ++ Qi m .hole⟩ (Q .normal) := rfl
theorem Qab (a b : RC) : wpR Γ E (.seq a b) Q σ = wpR Γ E a (Qaf (wpR Γ E b Q) Q) σ := rfl
theorem Qtu (c : Od) (a b : RC) : wpR Γ E (.cond c a b) Q σ = match evO σ.fr c with
  | .b t => (t = true → wpR Γ E a Q σ) ∧ (t = false → wpR Γ E b Q σ)
  | _ => False := rfl
theorem Qah (c : Od) (a b : RC) : wpR Γ E (.cond c a b) Q σ = match evO σ.fr c with
  | .b t => if t = true then wpR Γ E a Q σ else wpR Γ E b Q σ
  | _ => False := by
 rw [Qtu]
 cases evO σ.fr c <;> try rfl
 rename_i t
 cases t <;> simp
theorem Qai (id : Nat) (a : RC) : wpR Γ E (.block id a) Q σ = wpR Γ E a (Qaq id Q) σ := rfl
theorem Qbb (id : Nat) : wpR Γ E (.exit id) Q σ = Q (.exit id) σ := rfl
theorem Qac : wpR Γ E .ret Q σ = Q .ret σ := rfl
theorem Qa7 (l : List Nat) (a : RC) : wpR Γ E (.keep l a) Q σ = wpR Γ E a Q ⟨lkp (l.map fun t => (t, σ.fr t)), σ.hp⟩ := rfl
theorem Qci (n : Nat) (a : RC) : wpR Γ E (.drp n a) Q σ = wpR Γ E a Q ⟨fun t => cutV σ.hp n (σ.fr t), cutH n σ.hp⟩ := rfl
theorem Qqg (t es : Nat) (a : RC) : wpR Γ E (.own t es a) Q σ = match σ.fr t with
  | .z _ => wpR Γ E a Q ⟨upd σ.fr (some t) (.rf σ.hp.length 0 0 0 es), σ.hp ++ [.cells 0 []]⟩
  | _ => False := rfl
theorem Qqi (t es gs : Nat) (a : RC) : wpR Γ E (.owng t es gs a) Q σ = match σ.fr t with
  | .z _ => wpR Γ E a Q ⟨upd σ.fr (some t) (.rf σ.hp.length gs 0 0 es), σ.hp ++ [.cells gs []]⟩
  | _ => False := rfl
theorem Qqh (t off es : Nat) (a : RC) : wpR Γ E (.ownc t off es a) Q σ = match σ.fr t with
  | .ad id g o => match σ.hp[id]? with
   | some (.cells g' vs) => match vs[o + off]? with
    | some (.z _) => g' = g ∧ wpR Γ E a Q ⟨σ.fr, σ.hp.set id (.cells g (vs.set (o + off) (.rf σ.hp.length 0 0 0 es))) ++ [.cells 0 []]⟩
    | _ => False
   | _ => False
  | _ => False := rfl
theorem Qtv (t i off es : Nat) (a : RC) : wpR Γ E (.owni t i off es a) Q σ = match σ.fr t, σ.fr i with
  | .rf id g o _ es', .i k => match σ.hp[id]? with
   | some (.cells g' vs) => match vs[o + k.toNat * es' + off]? with
    | some (.z _) => g' = g ∧ wpR Γ E a Q ⟨σ.fr, σ.hp.set id (.cells g (vs.set (o + k.toNat * es' + off) (.rf σ.hp.length 0 0 0 es))) ++ [.cells 0 []]⟩
    | _ => False
   | _ => False
  | _, _ => False := rfl
theorem Qsm (i j : Nat) (a : RC) : wpR Γ E (.swp i j a) Q σ = (i < σ.hp.length ∧ j < σ.hp.length ∧ wpR Γ E a Q ⟨fun t => renV (sw i j) (σ.fr t), swH i j σ.hp⟩) := rfl
theorem Qsj (d m it : Nat) : wpR Γ E (.nxt d m it) Q σ = match σ.fr it with
  | .it id g => match σ.hp[id]? with
   | some (.iter mid n left _) => match σ.hp[mid]? with
    | some (.map _ ks _) => g = 0 ∧ ks.length = n ∧ (left = [] → Q .normal ⟨upd (upd σ.fr (some d) .u) (some m) (.b false), σ.hp⟩) ∧
      ∀ j ∈ left, Q .normal ⟨upd (upd σ.fr (some d) .u) (some m) (.b true), σ.hp.set id (.iter mid n (left.erase j) (some j))⟩
    | _ => False
   | _ => False
  | _ => False := rfl
theorem Qsn (l1 : List RO) (y : RO) (ks : List Nat) (l2 : List RO) : wpR Γ E (.yrg g l1 y ks l2) Q σ = runR Γ E g 0 l1 σ fun σ1 => match Qb7 σ1.fr y.gd with
  | none => False
  | some false => runR Γ E g 0 l2 ⟨upd σ1.fr y.dst (.gv false .u), σ1.hp⟩ (Q .normal)
  | some true => match y.x with
   | .o f args => match opv g σ1.fr f, σ1.hp with
    | .yl l, [.gh caps (some (x :: rest))] => Qat g y σ1.fr ∧ caps[0]? = some (.yl l) ∧ args.map (opv g σ1.fr) = x ∧ Qcc x = true ∧ (∀ t ∈ ks, Qo8 (σ1.fr t) = true ∨ caps[t]? = some (σ1.fr t)) ∧
      ∀ b, runR Γ E g 0 l2 ⟨upd (lkp (Qo9 ks σ1.fr)) y.dst (yres y.gd b), [.gh caps (if b then some rest else none)]⟩ (Q .normal)
    | _, _ => False
   | _ => False := rfl
theorem Qls (l1 : List RO) (y : RO) (l2 : List RO) : wpR Γ E (.hcl g l1 y l2) Q σ = runR Γ E g 0 l1 σ fun σ1 => match y.x with
  | .o f args => match opv g σ1.fr f with
   | .fn gf caps => Qat g y σ1.fr ∧ (Γ.h gf (args.map (opv g σ1.fr) ++ caps) σ1.hp).1 ∧
     ∀ r hp', (Γ.h gf (args.map (opv g σ1.fr) ++ caps) σ1.hp).2 r hp' → runR Γ E g 0 l2 ⟨upd σ1.fr y.dst r, hp'⟩ (Q .normal)
   | _ => False
  | _ => False := rfl
theorem Qwc (m1 : Nat) (l1 : List AnyOp) (y : AnyOp) (m2 : Nat) (l2 : List AnyOp) : wpR Γ E (.hca g m1 l1 y m2 l2) Q σ = runX Γ E g σ.hp.length l1 [] ⟨σ.fr, σ.hp ++ Qi m1 .hole⟩ fun σ1 => match y.o.x with
  | .o f args => match opv g σ1.fr f with
   | .fn gf caps => Qat g y.o σ1.fr ∧ (Γ.h gf (args.map (opv g σ1.fr) ++ caps) σ1.hp).1 ∧
     ∀ r hp', (Γ.h gf (args.map (opv g σ1.fr) ++ caps) σ1.hp).2 r hp' → runX Γ E g hp'.length l2 (Qi (l1.length + 1) ⟨none, []⟩) ⟨upd σ1.fr y.o.dst r, hp' ++ Qi m2 .hole⟩ (Q .normal)
   | _ => False
  | _ => False := rfl
theorem Qsl (l1 : List RO) (y : RO) (l2 : List RO) : wpR Γ E (.rnl g l1 y l2) Q σ = runR Γ E g 0 l1 σ fun σ1 => match y.x with
  | .q (.len a) => match opv g σ1.fr a with
   | .sl _ rows => Qat g y σ1.fr ∧ ∀ b, (rows ≠ [] → b = false) → runR Γ E g 0 l2 ⟨upd σ1.fr y.dst (.b b), σ1.hp⟩ (Q .normal)
   | .z _ => Qat g y σ1.fr ∧ ∀ b, runR Γ E g 0 l2 ⟨upd σ1.fr y.dst (.b b), σ1.hp⟩ (Q .normal)
   | _ => False
  | _ => False := rfl
theorem Qjl (a : RC) : wpR Γ E (.scp a) Q σ = wpR Γ E a (noGo Q) σ := rfl
theorem Qqf (a : RC) : wpR Γ E (.dum a) Q σ = wpR Γ E a Q ⟨σ.fr, σ.hp ++ [.hole]⟩ := rfl
theorem Qnd (l1 : List RO) (y : RO) (l2 : List RO) : wpR Γ E (.yrh g l1 y l2) Q σ = runR Γ E g 0 l1 σ fun σ1 => match Qb7 σ1.fr y.gd with
  | none => False
  | some false => runR Γ E g 0 l2 ⟨upd σ1.fr y.dst (.gv false .u), σ1.hp⟩ (Q .normal)
  | some true => match y.x with
   | .o f args => match opv g σ1.fr f, σ1.hp with
    | .yl l, .gh caps (some ((.b true :: bv) :: [.tp x, .tp z] :: rest)) :: tl => Qat g y σ1.fr ∧ caps[0]? = some (.yl l) ∧ args.map (opv g σ1.fr) = x ∧ tl = (bv ++ z).map vB ∧
      ∀ b bv', Γ.al bv' → runR Γ E g 0 l2 ⟨upd σ1.fr y.dst (yres y.gd b), .gh caps (some ((.b b :: bv') :: if b then rest else [])) :: (bv' ++ z).map vB⟩ (Q .normal)
    | _, _ => False
   | _ => False := rfl
theorem Qqk (lo : Nat) (l1 : List RO) (y : RO) (l2 : List RO) : wpR Γ E (.ycl lo g l1 y l2) Q σ = runR Γ E g 0 l1 σ fun σ1 => match y.x with
  | .o f args => match opv g σ1.fr f with
   | .fn gf caps => Qat g y σ1.fr ∧ lo ≤ σ1.hp.length ∧ (Γ.y gf Γ.al (args.map (opv g σ1.fr) ++ caps) σ1.hp).1 ∧
     ∀ r hp', (Γ.y gf Γ.al (args.map (opv g σ1.fr) ++ caps) σ1.hp).2 r hp' → runR Γ E g 0 l2 ⟨upd σ1.fr y.dst r, hp'⟩ (Q .normal)
   | _ => False
  | _ => False := rfl
theorem Qsi (l1 : List RO) (y : RO) (l2 : List RO) : wpR Γ E (.crl g l1 y l2) Q σ = runR Γ E g 0 l1 σ fun σ1 => match y.x with
  | .o f args => match opv g σ1.fr f with
   | .fn gf caps => Qat g y σ1.fr ∧ gf < 1000000 ∧ Qa5 (args.map (opv g σ1.fr) ++ caps) = false ∧ (Γ (3000000 + gf) ((args.map (opv g σ1.fr) ++ caps).map (vw σ1.hp 8))).1 ∧
     ∀ r bs, (Γ (4000000 + gf) (.tp (r :: bs) :: (args.map (opv g σ1.fr) ++ caps).map (vw σ1.hp 8))).1 →
      runR Γ E g 0 l2 ⟨upd σ1.fr y.dst (shV σ1.hp.length r), σ1.hp ++ (bs.map vB).map (shB σ1.hp.length)⟩ (Q .normal)
   | _ => False
  | _ => False := rfl
theorem Qbf (hp : List Blk) (n : Nat) : ∀ L : List (Nat × V), (fun t => cutV hp n (lkp L t)) = lkp (L.map fun p => (p.1, cutV hp n p.2))
 | [] => by funext t; simp [lkp, cutV]
 | (k, v) :: L => by
  funext t
  have := congrFun (Qbf hp n L) t
  simp only [lkp, Qa]
  split
  ·rfl
  ·exact this
theorem Qmi (f : Nat → Nat) : ∀ L : List (Nat × V), (fun t => renV f (lkp L t)) = lkp (L.map fun p => (p.1, renV f p.2))
 | [] => by funext t; simp [lkp, renV]
 | (k, v) :: L => by
  funext t
  have := congrFun (Qmi f L) t
  simp only [lkp, Qa]
  split
  ·rfl
  ·exact this
theorem Qhe {l : List Nat} {d : Option Nat} {a : RC} (I : Nat → St → Prop) (h0 : ∃ k, I k (kp l d σ)) (h : ∀ k σ', I k σ' → wpR Γ E a (Qaf (fun σ'' => ∃ j, j < k ∧ I j (kp l d σ'')) Q) σ') :
  wpR Γ E (.loop l d a) Q σ := ⟨I, h0, h⟩
theorem Qbn {K K' : St → Prop} (hK : ∀ σ, K σ → K' σ) : ∀ (l : List RO) (σ : St), runR Γ E g base l σ K → runR Γ E g base l σ K'
 | [], σ, h => hK σ h
 | _ :: l, _, h => ⟨h.1, Qbn hK l _ h.2⟩
theorem Qgs {K K' : St → Prop} (hK : ∀ σ, K σ → K' σ) : ∀ (l : List AnyOp) (ds : List FP) (σ : St), runX Γ E g base l ds σ K → runX Γ E g base l ds σ K'
 | [], _, σ, h => hK σ h
 | _ :: l, _, _, h => ⟨h.1, h.2.1, Qgs hK l _ _ h.2.2⟩
theorem Qeo : ∀ (r : RC) (Q Q' : Exit → St → Prop) (σ : St), (∀ e σ, Q e σ → Q' e σ) → wpR Γ E r Q σ → wpR Γ E r Q' σ := by
  intro r
  induction r with
  | skip => intro Q Q' σ h hw; exact h _ _ hw
  | no => intro Q Q' σ h hw; exact hw.elim
  | reg g l => intro Q Q' σ h hw; exact Qbn (h _) l σ hw
  | any g m l => intro Q Q' σ h hw; exact Qgs (h _) l [] _ hw
  | seq a b iha ihb =>
    intro Q Q' σ h hw
    refine iha _ _ σ (fun e σ' he => ?_) hw
    cases e <;> first | exact h _ _ he | exact ihb _ _ _ h he
  | mid a b iha ihb =>
    intro Q Q' σ h hw
    obtain ⟨M, h1, h2⟩ := hw
    refine ⟨M, iha _ _ σ (fun e σ' he => ?_) h1, fun σ' hM => ihb _ _ _ h (h2 σ' hM)⟩
    cases e <;> first | exact h _ _ he | exact he
  | cond c a b iha ihb =>
    intro Q Q' σ h hw
    simp only [wpR] at hw ⊢
    cases hc : evO σ.fr c <;> simp only [hc] at hw ⊢ <;> try exact hw
    exact ⟨fun ht => iha _ _ _ h (hw.1 ht), fun ht => ihb _ _ _ h (hw.2 ht)⟩
  | block id a iha =>
    intro Q Q' σ h hw
    refine iha _ _ σ (fun e σ' he => ?_) hw
    cases e <;> first | exact h _ _ he | skip
    simp only [Qaq] at he ⊢
    split
    · rename_i hi; rw [if_pos hi] at he; exact h _ _ he
    · rename_i hi; rw [if_neg hi] at he; exact h _ _ he
  | loop l d a iha =>
    intro Q Q' σ h hw
    obtain ⟨I, h0, h1⟩ := hw
    refine ⟨I, h0, fun k σ' hI => iha _ _ σ' (fun e σ'' he => ?_) (h1 k σ' hI)⟩
    cases e <;> first | exact h _ _ he | exact he
  | exit id => intro Q Q' σ h hw; exact h _ _ hw
  | ret => intro Q Q' σ h hw; exact h _ _ hw
  | keep l a iha => intro Q Q' σ h hw; exact iha _ _ _ h hw
  | drp n a iha => intro Q Q' σ h hw; exact iha _ _ _ h hw
  | own t es a iha =>
    intro Q Q' σ h hw
    simp only [wpR] at hw ⊢
    cases ht : σ.fr t <;> simp only [ht] at hw ⊢ <;> try exact hw
    exact iha _ _ _ h hw
  | owng t es gs a iha =>
    intro Q Q' σ h hw
    simp only [wpR] at hw ⊢
    cases ht : σ.fr t <;> simp only [ht] at hw ⊢ <;> try exact hw
    exact iha _ _ _ h hw
  | ownc t off es a iha =>
    intro Q Q' σ h hw
    simp only [wpR] at hw ⊢
    cases ht : σ.fr t <;> simp only [ht] at hw ⊢ <;> try exact hw
    case ad id g o =>
      cases hid : σ.hp[id]? with
      | none => simp [hid] at hw
      | some bk =>
        cases bk <;> simp only [hid] at hw ⊢ <;> try exact hw
        case cells g' vs =>
          cases hv : vs[o + off]? with
          | none => simp [hv] at hw
          | some v => cases v <;> simp only [hv] at hw ⊢ <;> first | exact hw | exact ⟨hw.1, iha _ _ _ h hw.2⟩
  | owni t i off es a iha =>
    intro Q Q' σ h hw
    simp only [wpR] at hw ⊢
    cases ht : σ.fr t <;> simp only [ht] at hw ⊢ <;> try exact hw
    case rf id g o len es' =>
     cases hi : σ.fr i <;> simp only [hi] at hw ⊢ <;> try exact hw
     case i k =>
      cases hid : σ.hp[id]? with
      | none => simp [hid] at hw
      | some bk =>
        cases bk <;> simp only [hid] at hw ⊢ <;> try exact hw
        case cells g' vs =>
          cases hv : vs[o + k.toNat * es' + off]? with
          | none => simp [hv] at hw
          | some v => cases v <;> simp only [hv] at hw ⊢ <;> first | exact hw | exact ⟨hw.1, iha _ _ _ h hw.2⟩
  | swp i j a iha => intro Q Q' σ h hw; exact ⟨hw.1, hw.2.1, iha _ _ _ h hw.2.2⟩
  | nxt d m it =>
    intro Q Q' σ h hw
    simp only [wpR] at hw ⊢
    cases ht : σ.fr it <;> simp only [ht] at hw ⊢ <;> try exact hw
    case it id g =>
      cases hid : σ.hp[id]? with
      | none => simp [hid] at hw
      | some bk =>
        cases bk <;> simp only [hid] at hw ⊢ <;> try exact hw
        case iter mid n left cur =>
          cases hm : σ.hp[mid]? with
          | none => simp [hm] at hw
          | some bk2 =>
            cases bk2 <;> simp only [hm] at hw ⊢ <;> try exact hw
            case map st ks vs => exact ⟨hw.1, hw.2.1, fun hl => h _ _ (hw.2.2.1 hl), fun j hj => h _ _ (hw.2.2.2 j hj)⟩
  | rfn f ps lo b a ihb iha =>
    intro Q Q' σ h hw
    simp only [wpR] at hw ⊢
    split at hw
    · rename_i gf caps hf
      split at hw
      · rename_i ok ys hΓ
        obtain ⟨h1, h2, h3, h4, I, h5, h6, h7⟩ := hw
        refine ⟨h1, h2, h3, h4, I, h5, fun k x hp hx hI => ihb _ _ _ (fun e σ' he => ?_) (h6 k x hp hx hI), fun hp hI => h _ _ (h7 hp hI)⟩
        cases e <;> first | exact he | skip
        refine iha _ _ _ (fun e σ'' he' => ?_) he
        cases e <;> first | exact he' | exact h _ _ he'
      · exact hw
    · exact hw
  | yrg g l1 y ks l2 =>
    intro Q Q' σ h hw
    refine Qbn (fun σ1 hw => ?_) l1 σ hw
    split at hw
    · exact hw.elim
    · exact Qbn (h _) l2 _ hw
    · split at hw
      · split at hw
        · exact ⟨hw.1, hw.2.1, hw.2.2.1, hw.2.2.2.1, hw.2.2.2.2.1, fun b => Qbn (h _) l2 _ (hw.2.2.2.2.2 b)⟩
        · exact hw.elim
      · exact hw.elim
  | hcl g l1 y l2 =>
    intro Q Q' σ h hw
    refine Qbn (fun σ1 hw => ?_) l1 σ hw
    split at hw
    · split at hw
      · exact ⟨hw.1, hw.2.1, fun r bs hR => Qbn (h _) l2 _ (hw.2.2 r bs hR)⟩
      · exact hw.elim
    · exact hw.elim
  | hca g m1 l1 y m2 l2 =>
    intro Q Q' σ h hw
    refine Qgs (fun σ1 hw => ?_) l1 _ _ hw
    split at hw
    · split at hw
      · exact ⟨hw.1, hw.2.1, fun r bs hR => Qgs (h _) l2 _ _ (hw.2.2 r bs hR)⟩
      · exact hw.elim
    · exact hw.elim
  | crl g l1 y l2 =>
    intro Q Q' σ h hw
    refine Qbn (fun σ1 hw => ?_) l1 σ hw
    split at hw
    · split at hw
      · exact ⟨hw.1, hw.2.1, hw.2.2.1, hw.2.2.2.1, fun r bs hR => Qbn (h _) l2 _ (hw.2.2.2.2 r bs hR)⟩
      · exact hw.elim
    · exact hw.elim
  | scp a iha =>
    intro Q Q' σ h hw
    refine iha _ _ σ (fun e σ' he => ?_) hw
    cases e <;> first | exact he | exact h _ _ he
  | dum a iha => intro Q Q' σ h hw; exact iha _ _ _ h hw
  | rnl g l1 y l2 =>
    intro Q Q' σ h hw
    refine Qbn (fun σ1 hw => ?_) l1 σ hw
    split at hw
    · split at hw
      · exact ⟨hw.1, fun b hb => Qbn (h _) l2 _ (hw.2 b hb)⟩
      · exact ⟨hw.1, fun b => Qbn (h _) l2 _ (hw.2 b)⟩
      · exact hw.elim
    · exact hw.elim
  | yrh g l1 y l2 =>
    intro Q Q' σ h hw
    refine Qbn (fun σ1 hw => ?_) l1 σ hw
    split at hw
    · exact hw.elim
    · exact Qbn (h _) l2 _ hw
    · split at hw
      · split at hw
        · exact ⟨hw.1, hw.2.1, hw.2.2.1, hw.2.2.2.1, fun b bv' hb => Qbn (h _) l2 _ (hw.2.2.2.2 b bv' hb)⟩
        · exact hw.elim
      · exact hw.elim
  | ycl lo g l1 y l2 =>
    intro Q Q' σ h hw
    refine Qbn (fun σ1 hw => ?_) l1 σ hw
    split at hw
    · split at hw
      · exact ⟨hw.1, hw.2.1, hw.2.2.1, fun r bs hR => Qbn (h _) l2 _ (hw.2.2.2 r bs hR)⟩
      · exact hw.elim
    · exact hw.elim
  | rfh f ps lo zl b a ihb iha =>
    intro Q Q' σ h hw
    simp only [wpR] at hw ⊢
    split at hw
    · rename_i gf caps hf
      obtain ⟨al, ys, bv0, I, h1, h2, h3, h4, h5, h6, h7⟩ := hw
      refine ⟨al, ys, bv0, I, h1, h2, h3, h4, h5, fun k x z bv hx hI => ⟨(h6 k x z bv hx hI).1, (h6 k x z bv hx hI).2.1, ihb _ _ _ (fun e σ' he => ?_) (h6 k x z bv hx hI).2.2⟩, fun bv hI => h _ _ (h7 bv hI)⟩
      cases e <;> first | exact he | skip
      refine iha _ _ _ (fun e σ'' he' => ?_) he
      cases e <;> first | exact he' | skip
      obtain ⟨bv', a1, a2, a3, a4⟩ := he'
      exact ⟨bv', a1, a2, a3, h _ _ a4⟩
    · exact hw
def Qih (n : Nat) (pre : List Nat) : List Nat := (List.range n).filter fun k => !pre.contains k
theorem Qpm (n : Nat) : Qih n [] = List.range n := by simp [Qih]
theorem Qii {n : Nat} {pre : List Nat} {j : Nat} : j ∈ Qih n pre ↔ j < n ∧ j ∉ pre := by simp [Qih]
theorem Qmb {n : Nat} {pre : List Nat} {j : Nat} (h : j ∈ Qih n pre) : (Qih n pre).erase j = Qih n (pre ++ [j]) := by
 unfold Qih
 rw [List.Nodup.erase_eq_filter (List.Nodup.sublist List.filter_sublist List.nodup_range), List.filter_filter]
 apply List.filter_congr
 intro x _
 simp only [List.contains_append, Bool.not_or]
 rw [Bool.and_comm]
 congr 1
 simp
 rw [Qy]
 simp
theorem Qpt {n : Nat} {pre : List Nat} (hnd : pre.Nodup) (hlt : ∀ j ∈ pre, j < n) : pre.length ≤ n := by
 induction n generalizing pre with
 | zero => cases pre with | nil => simp | cons j l => have := hlt j (by simp); omega
 | succ n ih =>
  by_cases hn : n ∈ pre
  ·have h1 := List.length_erase_of_mem hn
   have h2 := ih (pre := pre.erase n) (hnd.erase n) fun j hj => by
    rw [hnd.mem_erase_iff] at hj
    have := hlt j hj.2
    have := hj.1
    omega
   have := List.length_pos_of_mem hn
   omega
  ·have h2 := ih (pre := pre) hnd fun j hj => by
    have := hlt j hj
    have : j ≠ n := by rintro rfl; exact hn hj
    omega
   omega
theorem Qwd {f : Od} {ps : List Nat} {lo : Nat} {b a : RC} {gf : Nat} {caps : List V} {ok : Prop} {ys : List (List V)} (hf : evO σ.fr f = .fn gf caps) (hΓ : Γ (2000000 + gf) (caps.map (vw σ.hp 8)) = (ok, .sl 0 ys)) (h6 : gf < 1000000) (hok : ok)
  (href : Qa5 caps = false) (hlen : ∀ x ∈ ys, x.length = ps.length) (I : Nat → List Blk → Prop) (h0 : I 0 (cutH lo σ.hp))
  (hs : ∀ k x hp, ys[k]? = some x → I k hp → wpR Γ E b (rnQ (wpR Γ E a (rndQ Q lo (fun t => cutV σ.hp lo (σ.fr t)) (I (k + 1))))) ⟨updL (fun t => cutV σ.hp lo (σ.fr t)) ps x, hp⟩)
  (he : ∀ hp, I ys.length hp → Q .normal ⟨fun t => cutV σ.hp lo (σ.fr t), hp⟩) : wpR Γ E (.rfn f ps lo b a) Q σ := by
 simp only [wpR, hf, hΓ]
 exact ⟨h6, hok, href, hlen, I, h0, hs, he⟩
theorem Qsk {f : Od} {ps : List Nat} {lo zl : Nat} {b a : RC} {gf : Nat} {caps : List V} (hf : cutV σ.hp lo (evO σ.fr f) = .fn gf caps) (al : List V → Prop) (ys : List (List V × List V)) {bv0 : List V} (hb0 : cutH lo σ.hp = .hole :: bv0.map vB)
  (I : Nat → List V → Prop) (h0 : I 0 bv0) (hal : ∀ k bv, I k bv → al bv) (hlo : ∀ bv, al bv → bv.length + 1 = lo ∧ ∀ hp, (bv.map vB).map (cutB hp lo) = bv.map vB)
  (hy : ∀ l, (Γ.y gf al (.yl l :: caps) (.gh (.yl l :: caps) (some ((.b true :: bv0) :: ys.map fun y => gyE y.1 y.2)) :: bv0.map vB)).1 ∧
     ∀ r hp', (Γ.y gf al (.yl l :: caps) (.gh (.yl l :: caps) (some ((.b true :: bv0) :: ys.map fun y => gyE y.1 y.2)) :: bv0.map vB)).2 r hp' →
      ∃ (b : Bool) (bv' : List V) (rest : List (List V)) (tl : List Blk), hp' = .gh (.yl l :: caps) (some ((.b b :: bv') :: rest)) :: (bv'.map vB ++ tl) ∧ (b = true → rest = []) ∧ al bv')
  (hs : ∀ k x z bv, ys[k]? = some (x, z) → I k bv → x.length = ps.length ∧ z.length ≤ zl ∧
     wpR Γ E b (rnQ (wpR Γ E a (rndH Q lo zl (fun t => cutV σ.hp lo (σ.fr t)) z al (I (k + 1))))) ⟨updL (fun t => cutV σ.hp lo (σ.fr t)) ps x, .hole :: (bv ++ z).map vB⟩)
  (he : ∀ bv, I ys.length bv → Q .normal ⟨fun t => cutV σ.hp lo (σ.fr t), .hole :: bv.map vB⟩) : wpR Γ E (.rfh f ps lo zl b a) Q σ := by
 simp only [wpR, hf]
 exact ⟨al, ys, bv0, I, hb0, h0, hal, hlo, hy, hs, he⟩
theorem Qtw {f : Od} {ps : List Nat} {lo : Nat} {b a : RC} {gf : Nat} {caps : List V} {ok : Prop} {ys : List (List V)} (H : Nat → List Blk) (C : Nat → Prop) (hf : evO σ.fr f = .fn gf caps) (hΓ : Γ (2000000 + gf) (caps.map (vw σ.hp 8)) = (ok, .sl 0 ys)) (h6 : gf < 1000000) (hok : ok)
  (href : Qa5 caps = false) (hlen : ∀ x ∈ ys, x.length = ps.length) (h0 : cutH lo σ.hp = H 0) (c0 : C 0)
  (hs : ∀ k x, ys[k]? = some x → C k → wpR Γ E b (rnQ (wpR Γ E a (rndQ Q lo (fun t => cutV σ.hp lo (σ.fr t)) (fun hp => C (k + 1) ∧ hp = H (k + 1))))) ⟨updL (fun t => cutV σ.hp lo (σ.fr t)) ps x, H k⟩)
  (he : C ys.length → Q .normal ⟨fun t => cutV σ.hp lo (σ.fr t), H ys.length⟩) : wpR Γ E (.rfn f ps lo b a) Q σ := by
 refine Qwd hf hΓ h6 hok href hlen (fun k hp => C k ∧ hp = H k) ⟨c0, h0⟩ ?_ ?_
 ·rintro k x hp hx ⟨hc, rfl⟩
  exact hs k x hx hc
 ·rintro hp ⟨hc, rfl⟩
  exact he hc
theorem Qcp {l : List Nat} {d : Option Nat} {a : RC} (n : Nat) (S : Nat → St) (h0 : kp l d σ = S 0) (hs : ∀ i, i < n → wpR Γ E a (Qaf (fun σ'' => kp l d σ'' = S (i + 1)) Q) (S i))
  (he : wpR Γ E a (Qaf (fun _ => False) Q) (S n)) : wpR Γ E (.loop l d a) Q σ := by
 refine Qhe (fun k σ => ∃ i, i ≤ n ∧ k = n - i ∧ σ = S i) ⟨n, 0, Qw _, rfl, h0⟩ ?_
 rintro k _ ⟨i, hi, rfl, rfl⟩
 by_cases h : i < n
 ·refine Qeo _ _ _ _ (fun e σ he => ?_) (hs i h)
  cases e <;> first | exact he | skip
  exact ⟨n - (i + 1), by omega, i + 1, h, rfl, he⟩
 ·have : i = n := by omega
  subst this
  refine Qeo _ _ _ _ (fun e σ he => ?_) he
  cases e <;> first | exact he | exact he.elim
theorem Qcu {l : List Nat} {d : Option Nat} {a : RC} (n : Nat) (S : Nat → St) (C : Nat → Prop) (h0 : kp l d σ = S 0) (c0 : C 0) (hs : ∀ i, i < n → C i → wpR Γ E a (Qaf (fun σ'' => C (i + 1) ∧ kp l d σ'' = S (i + 1)) Q) (S i))
  (he : C n → wpR Γ E a (Qaf (fun _ => False) Q) (S n)) : wpR Γ E (.loop l d a) Q σ := by
 refine Qhe (fun k σ => ∃ i, i ≤ n ∧ k = n - i ∧ C i ∧ σ = S i) ⟨n, 0, Qw _, rfl, c0, h0⟩ ?_
 rintro k _ ⟨i, hi, rfl, hc, rfl⟩
 by_cases h : i < n
 ·refine Qeo _ _ _ _ (fun e σ he => ?_) (hs i h hc)
  cases e <;> first | exact he | skip
  exact ⟨n - (i + 1), by omega, i + 1, h, rfl, he.1, he.2⟩
 ·have : i = n := by omega
  subst this
  refine Qeo _ _ _ _ (fun e σ he => ?_) (he hc)
  cases e <;> first | exact he | exact he.elim
end
theorem Qcf (es : Nat) (vs : List V) : Qcy es vs 0 1 = [vs.take es] := by simp [Qcy]
theorem Qc8 (p A B : Prop) [Decidable p] : (if p then A else B) = ((p → A) ∧ (¬ p → B)) := by by_cases h : p <;> simp [h]
theorem Qe2 (p : Prop) [Decidable p] (x : Bool) : (if p then x else false) = (decide p && x) := by by_cases h : p <;> simp [h]
theorem Qdv (p : Prop) [Decidable p] (x : Bool) : (if p then true else x) = (decide p || x) := by by_cases h : p <;> simp [h]
end Go.Fam
namespace Go.Fam
open Go.ChangeShapes Go.WideShapes Go.ChangeAt Go.RowKit
variable {P : Program} {W : World} {H : Type} {enc : TypeId × Value → H} {α β : Type}
def Qj2 (W : World) : Nat → Prop := fun n => n < W.heap.size
def Rd (enc : TypeId × Value → H) (P : Program) (W : World) (t : TypeId) (e : α → List V) (ok : α → Prop) : Prop :=
 ∀ fuel (cs : List Value) d ps, DataW.trod enc P W 0 (fun _ => true) true fuel t cs = some (d, ps) → ∃ a, ok a ∧ (e a).length = cs.length ∧ RepL (Qj2 W) W noO (e a) cs ∧ ∀ c ∈ cs, c.oneCell' = true
theorem Rd.map {t : TypeId} {e : α → List V} {ok : α → Prop} (h : Rd enc P W t e ok) {e' : β → List V} {ok' : β → Prop} (g : α → β) (he : ∀ a, e' (g a) = e a) (hok : ∀ a, ok a → ok' (g a)) : Rd enc P W t e' ok' := by
 intro fuel cs d ps hd
 obtain ⟨a, h1, h2, h3, h4⟩ := h fuel cs d ps hd
 exact ⟨g a, hok a h1, by rw [he]; exact h2, by rw [he]; exact h3, h4⟩
theorem Qwb {t : TypeId} (hu : P.underlying t = some (.int .i64)) : Rd enc P W t (fun n : Int => [.i n]) inI := by
 intro fuel cs d ps h
 cases fuel with
 | zero => simp [DataW.trod] at h
 | succ fuel =>
  unfold DataW.trod at h
  split at h <;> rename_i heq <;> (try rw [hu] at heq) <;> first | (cases heq; done) | skip
  ·cases heq
   rename_i k' n
   split at h
   ·rename_i hk
    obtain ⟨rfl, hw⟩ := hk
    refine ⟨n, ?_, rfl, by simp [RepL, Rep], by simp [Value.oneCell']⟩
    simp [Lit.wf, IntKind.min, IntKind.max, IntKind.signed, IntKind.bits] at hw
    unfold inI
    omega
   ·cases h
  ·cases h
theorem Qq6 {t : TypeId} {fs : Array Field} (hu : P.underlying t = some (.struct fs)) {e : α → List V} {ok : α → Prop}
  (hf : ∀ fuel (cs : List Value) xs, cs.length = P.cellsOf t → (fs.toList.mapM fun f => DataW.trod enc P W 0 (fun _ => true) true fuel f.type ((cs.drop f.offset).take (P.cellsOf f.type))) = some xs →
   ∃ a, ok a ∧ (e a).length = cs.length ∧ RepL (Qj2 W) W noO (e a) cs ∧ ∀ c ∈ cs, c.oneCell' = true) : Rd enc P W t e ok := by
 intro fuel cs d ps h
 cases fuel with
 | zero => simp [DataW.trod] at h
 | succ fuel =>
  unfold DataW.trod at h
  split at h <;> rename_i heq <;> (try rw [hu] at heq) <;> first | (cases heq; done) | skip
  ·cases heq
   split at h
   ·rename_i hl
    simp only [Qn] at h
    obtain ⟨xs, hx, _⟩ := h
    exact hf fuel _ xs hl hx
   ·cases h
  ·cases h
def RdF (enc : TypeId × Value → H) (P : Program) (W : World) (n : Nat) (fs : List Field) (off : Nat) (e : α → List V) (ok : α → Prop) : Prop :=
 ∀ fuel (cs : List Value) xs, cs.length = n → (fs.mapM fun f => DataW.trod enc P W 0 (fun _ => true) true fuel f.type ((cs.drop f.offset).take (P.cellsOf f.type))) = some xs →
  ∃ a, ok a ∧ (e a).length = (cs.drop off).length ∧ RepL (Qj2 W) W noO (e a) (cs.drop off) ∧ ∀ c ∈ cs.drop off, c.oneCell' = true
theorem Qtr {n off : Nat} (h : n ≤ off) : RdF enc P W n [] off (fun _ : Unit => []) (fun _ => True) := by
 intro fuel cs xs hl _
 have : cs.drop off = [] := by rw [Qf]; omega
 exact ⟨(), trivial, by rw [this]; rfl, by simp [RepL], by rw [this]; simp⟩
theorem Qrp {n off k : Nat} {f : Field} {fs : List Field} {e1 : α → List V} {ok1 : α → Prop} {e2 : β → List V} {ok2 : β → Prop} (h1 : f.offset = off) (h2 : P.cellsOf f.type = k) (hr : Rd enc P W f.type e1 ok1)
  (hs : RdF enc P W n fs (off + k) e2 ok2) : RdF enc P W n (f :: fs) off (fun p : α × β => e1 p.1 ++ e2 p.2) (fun p => ok1 p.1 ∧ ok2 p.2) := by
 intro fuel cs xs hl h
 rw [List.mapM_cons] at h
 cases hx : DataW.trod enc P W 0 (fun _ => true) true fuel f.type ((cs.drop f.offset).take (P.cellsOf f.type)) with
 | none => simp [hx] at h
 | some x =>
  cases hxs : fs.mapM (fun f => DataW.trod enc P W 0 (fun _ => true) true fuel f.type ((cs.drop f.offset).take (P.cellsOf f.type))) with
  | none => simp [hx, hxs] at h
  | some ys =>
   rw [h1, h2] at hx
   obtain ⟨a, a1, a2, a3, a4⟩ := hr fuel _ x.1 x.2 hx
   obtain ⟨b, b1, b2, b3, b4⟩ := hs fuel cs ys hl hxs
   have e : cs.drop off = (cs.drop off).take k ++ cs.drop (off + k) := by rw [← Qp, Qe]
   refine ⟨(a, b), ⟨a1, b1⟩, ?_, ?_, ?_⟩
   ·rw [e, Qj, Qj, a2, b2]
   ·rw [e]; exact RepL.append _ _ _ _ a3 a2.symm b3
   ·rw [e]
    intro c hc
    rcases Qz.1 hc with hc | hc
    ·exact a4 c hc
    ·exact b4 c hc
theorem RdF.rd {t : TypeId} {fs : Array Field} (hu : P.underlying t = some (.struct fs)) {e : α → List V} {ok : α → Prop} (h : RdF enc P W (P.cellsOf t) fs.toList 0 e ok) : Rd enc P W t e ok :=
 Qq6 hu fun fuel cs xs hl hx => by simpa using h fuel cs xs hl hx
theorem Qqe {es : Nat} {e : α → List V} {ok : α → Prop} {cur : List Value} : ∀ (len off : Nat), (∀ i, i < len → ∃ x, ok x ∧ (e x).length = es ∧ (∀ c ∈ (cur.drop (off + i * es)).take es, c.oneCell' = true) ∧ RepL (Qj2 W) W noO (e x) (cur.drop (off + i * es))) →
  ∃ l : List α, l.length = len ∧ (∀ x ∈ l, ok x) ∧ Qb4 (Qj2 W) W es (l.map e) (cur.drop off)
 | 0, _, _ => ⟨[], rfl, by simp, by simp [Qb4]⟩
 | len + 1, off, h => by
  obtain ⟨x, x1, x2, x3, x4⟩ := h 0 (by omega)
  obtain ⟨l, l1, l2, l3⟩ := Qqe len (off + es) fun i hi => by
   have := h (i + 1) (by omega)
   rwa [Nat.succ_mul, show off + (i * es + es) = off + es + i * es by omega] at this
  simp only [Nat.zero_mul, Nat.add_zero] at x3 x4
  refine ⟨x :: l, by simp [l1], ?_, ?_⟩
  ·intro y hy
   rcases Ql.1 hy with rfl | hy
   ·exact x1
   ·exact l2 y hy
  ·simp only [Qa, Qb4]
   exact ⟨⟨x2, x3⟩, x4, by rw [Qp]; exact l3⟩
theorem Qn9 {t el : TypeId} {es : Nat} {e : α → List V} {ok : α → Prop} (hu : P.underlying t = some (.slice el)) (hk : P.cellsOf el = es) (h0 : es ≠ 0) (he : Rd enc P W el e ok) :
  Rd enc P W t (fun l : List α => [.sl es (l.map e)]) (fun l => (∀ x ∈ l, ok x) ∧ l.length ≤ maxLen) := by
 intro fuel cs d ps h
 cases fuel with
 | zero => simp [DataW.trod] at h
 | succ fuel =>
  unfold DataW.trod at h
  split at h <;> rename_i heq <;> (try rw [hu] at heq) <;> first | (cases heq; done) | skip
  ·exact ⟨[], by simp, rfl, by simp [RepL, Rep], by simp [Value.oneCell']⟩
  ·cases heq
   rename_i a len cap
   split at h
   ·rename_i hb
    obtain ⟨_, hlc, hcm⟩ := hb
    rw [Qm] at h
    obtain ⟨elems, hel, _⟩ := h
    have hlen := mapM_some_length hel
    simp only [List.length_range] at hlen
    have hget : ∀ i, i < len → ∃ row x, W.cells? 0 (a.add (i * es)) es = some row ∧ ok x ∧ (e x).length = es ∧ RepL (Qj2 W) W noO (e x) row ∧ ∀ c ∈ row, c.oneCell' = true := by
     intro i hi
     have h1 := mapM_some_get hel i i (by simp [hi])
     rw [Qb (by omega), hk, Qm] at h1
     obtain ⟨row, hrow, hx⟩ := h1
     obtain ⟨x, x1, x2, x3, x4⟩ := he fuel row _ _ hx
     exact ⟨row, x, hrow, x1, by rw [x2]; exact (World.cells?_some hrow).2.1, x3, x4⟩
    cases len with
    | zero => exact ⟨[], by simp, rfl, by simp [RepL, Rep], by simp [Value.oneCell']⟩
    | succ len =>
     obtain ⟨blk, off, spot⟩ := a
     obtain ⟨row0, _, hrow0, _⟩ := hget 0 (by omega)
     have hc0 := (World.cells?_some hrow0).2.2 0 (by omega)
     have hl0 := (World.cells?_some hrow0).2.1
     rw [Qb (by omega)] at hc0
     simp only [Nat.zero_mul, Addr.add, if_true, World.cell?] at hc0
     cases hbk : W.heap[blk]? with
     | none => rw [hbk] at hc0; cases hc0
     | some o =>
      rw [hbk] at hc0
      cases o <;> first | (cases hc0; done) | skip
      rename_i cur elt fr
      cases spot with
      | some s => simp at hc0
      | none =>
       have hrows : ∀ i, i < len + 1 → ∃ x, ok x ∧ (e x).length = es ∧ (∀ c ∈ (cur.toList.drop (off + i * es)).take es, c.oneCell' = true) ∧ RepL (Qj2 W) W noO (e x) (cur.toList.drop (off + i * es)) := by
        intro i hi
        obtain ⟨row, x, hrow, x1, x2, x3, x4⟩ := hget i hi
        obtain ⟨_, r2, r3⟩ := World.cells?_some hrow
        have hadd : ∀ m, (⟨blk, off, none⟩ : Addr).add m = ⟨blk, off + m, none⟩ := by
         intro m; unfold Addr.add; split
         ·subst m; rfl
         ·rfl
        have hrw : row = (cur.toList.drop (off + i * es)).take es := by
         apply List.ext_getElem?
         intro j
         by_cases hj : j < es
         ·have := r3 j hj
          rw [hadd, show (⟨blk, off + i * es, none⟩ : Addr).add j = ⟨blk, off + i * es + j, none⟩ from by unfold Addr.add; split <;> simp_all] at this
          simp only [World.cell?, hbk, Option.isSome_none, Qc, if_false] at this
          rw [← this, List.getElem?_take, if_pos hj, List.getElem?_drop, Array.getElem?_toList]
         ·rw [Qo (by omega), Qo (by simp; omega)]
        refine ⟨x, x1, x2, by rw [← hrw]; exact x4, ?_⟩
        have := RepL.more (e x) row ((cur.toList.drop (off + i * es)).drop es) x3
        rwa [hrw, Qe] at this
       obtain ⟨l, l1, l2, l3⟩ := Qqe (len + 1) off hrows
       refine ⟨l, ⟨l2, by rw [l1]; omega⟩, rfl, ?_, by simp [Value.oneCell']⟩
       simp only [RepL, Rep, and_true]
       refine ⟨_, cap, by rw [List.length_map, l1], by simp; omega, .inr ⟨blk, off, cur, elt, fr, rfl, ?_, hbk, l3⟩⟩
       exact (Array.getElem?_eq_some_iff.1 hbk).1
   ·cases h
  ·cases h
def RdP (enc : TypeId × Value → H) (P : Program) (W : World) (n : Nat) (ps : List (TypeId × Nat)) (off : Nat) (e : α → List V) (ok : α → Prop) : Prop :=
 ∀ fs : List Field, fs.map (fun f => (f.type, f.offset)) = ps → RdF enc P W n fs off e ok
theorem Qiq {n off : Nat} (h : n ≤ off) : RdP enc P W n [] off (fun _ : Unit => []) (fun _ => True) := by
 intro fs hf
 have : fs = [] := by simpa using hf
 subst this
 exact Qtr h
theorem Qcg {n off k : Nat} {t : TypeId} {ps : List (TypeId × Nat)} {e1 : α → List V} {ok1 : α → Prop} {e2 : β → List V} {ok2 : β → Prop} (h2 : P.cellsOf t = k) (hr : Rd enc P W t e1 ok1)
  (hs : RdP enc P W n ps (off + k) e2 ok2) : RdP enc P W n ((t, off) :: ps) off (fun p : α × β => e1 p.1 ++ e2 p.2) (fun p => ok1 p.1 ∧ ok2 p.2) := by
 intro fs hf
 cases fs with
 | nil => cases hf
 | cons f fs =>
  simp only [Qa, List.cons.injEq, Prod.mk.injEq] at hf
  obtain ⟨⟨rfl, ho⟩, hf⟩ := hf
  exact Qrp ho h2 hr (hs fs hf)
theorem RdP.rd {t : TypeId} {fs : Array Field} {n : Nat} {ps : List (TypeId × Nat)} (hu : P.underlying t = some (.struct fs)) (hn : P.cellsOf t = n) (hp : fs.toList.map (fun f => (f.type, f.offset)) = ps) {e : α → List V} {ok : α → Prop} (h : RdP enc P W n ps 0 e ok) : Rd enc P W t e ok := by
 subst hn
 exact RdF.rd hu (h _ hp)
def RdV (enc : TypeId × Value → H) (P : Program) (W : World) (t : TypeId) (e : α → V) (ok : α → Prop) : Prop :=
 ∀ v d ps base, DataW.Trod enc P W 0 (fun _ => true) true t v d ps → Value.okWide P W .any base t v → ∃ a, ok a ∧ Rep (Qj2 W) W noO (e a) v
theorem Rd.agg {t : TypeId} {fs : Array Field} (hu : P.underlying t = some (.struct fs)) {e : α → List V} {ok : α → Prop} (h : Rd enc P W t e ok) : RdV enc P W t (fun a => .ag (e a)) ok := by
 rintro v d ps base ⟨fuel, hf⟩ hw
 obtain ⟨cs, rfl, _⟩ := okWide_struct hu hw
 obtain ⟨a, h1, h2, h3, _⟩ := h fuel _ d ps hf
 exact ⟨a, h1, cs, rfl, by simpa [Value.cells] using h2.symm, by simpa [Value.cells] using h3⟩
theorem Rd.one {t : TypeId} {e : α → V} {ok : α → Prop} (hone : ∀ v base, Value.okWide P W .any base t v → v.oneCell' = true) (h : Rd enc P W t (fun a => [e a]) ok) : RdV enc P W t e ok := by
 rintro v d ps base ⟨fuel, hf⟩ hw
 have hc := hone v base hw
 have hcs : v.cells.toList = [v] := by cases v <;> simp [Value.oneCell'] at hc <;> rfl
 rw [hcs] at hf
 obtain ⟨a, h1, _, h3, _⟩ := h fuel _ d ps hf
 simp only [RepL, and_true] at h3
 exact ⟨a, h1, h3⟩
def RdA (enc : TypeId × Value → H) (P : Program) (W : World) (ts : List TypeId) (e : α → List V) (ok : α → Prop) : Prop :=
 ∀ vs ds ps base, DataW.TrodAll enc P W 0 (fun _ => true) true ts vs ds ps → (∀ (j : Nat) t v, ts[j]? = some t → vs[j]? = some v → Value.okWide P W .any base t v) → ∃ a, ok a ∧ (e a).length = vs.length ∧ RepL (Qj2 W) W noO (e a) vs
theorem Qxd : RdA enc P W [] (fun _ : Unit => []) (fun _ => True) := by
 intro vs ds ps base h _
 obtain ⟨rfl, _, _⟩ := trodAll_nil h
 exact ⟨(), trivial, rfl, by simp [RepL]⟩
theorem Qwo {t : TypeId} {ts : List TypeId} {e1 : α → V} {ok1 : α → Prop} {e2 : β → List V} {ok2 : β → Prop} (h1 : RdV enc P W t e1 ok1) (h2 : RdA enc P W ts e2 ok2) :
  RdA enc P W (t :: ts) (fun p : α × β => e1 p.1 :: e2 p.2) (fun p => ok1 p.1 ∧ ok2 p.2) := by
 intro vs ds ps base h hv
 obtain ⟨v, vs', d, ds', p, q, rfl, rfl, rfl, ha, hb⟩ := trodAll_cons h
 obtain ⟨a, a1, a2⟩ := h1 v d p base ha (hv 0 t v rfl rfl)
 obtain ⟨b, b1, b2, b3⟩ := h2 vs' ds' q base hb fun j t v hj hv' => hv (j + 1) t v (by simpa using hj) (by simpa using hv')
 exact ⟨(a, b), ⟨a1, b1⟩, by simp [b2], a2, b3⟩
theorem Qgx (hl : laidOutB P = true) {W' : World} {sp' : Nat → Bool} : ∀ {ts : List TypeId} {vs : List Value} {ds : List (DataW H)} {ps : List MemPlace}, (ts.all fun t => P.readableRec t && decide (t < P.types.size)) = true →
  DataW.TrodAll enc P W 0 (fun _ => true) true ts vs ds ps → (∀ p ∈ ps, W.sameAt W' p) → (∀ p ∈ ps, sp' p.block = true) → DataW.TrodAll enc P W' 0 sp' true ts vs ds ps
 | [], vs, ds, ps, _, h, _, _ => by
  obtain ⟨rfl, rfl, rfl⟩ := trodAll_nil h
  exact trodAll_mk0
 | t :: ts, vs, ds, ps, hr, h, hs, hsp => by
  obtain ⟨v, vs', d, ds', p, q, rfl, rfl, rfl, ha, hb⟩ := trodAll_cons h
  simp only [List.all_cons, Qv, decide_eq_true_eq] at hr
  exact trodAll_cons_mk (WideElems.Trod_stays hl hr.1.1 hr.1.2 ha (fun x hx => hs x (by simp [hx])) fun x hx => hsp x (by simp [hx]))
   (Qgx hl hr.2 hb (fun x hx => hs x (by simp [hx])) fun x hx => hsp x (by simp [hx]))
theorem Qjv {W' : World} (h : Below W.heap.size W W') (may : MemPlace → Prop) : W.keptBut W' may := by
 refine ⟨h.os, h.output, fun i hi => ?_⟩
 rw [h.block i hi]
 cases W.heap[i]? with
 | none => rfl
 | some o => cases o <;> first | exact ⟨rfl, rfl, rfl, fun _ _ => rfl⟩ | exact .inr ⟨rfl, rfl⟩ | rfl
theorem bridge {F : FuncId} {fn : Func} {s : ChangeSpec} {fresh : Bool} (hl : laidOutB P = true) {e : α → List V} {ok : α → Prop} {ts : List TypeId} (hts : fn.params.toList = ts) (hrd : ∀ W, RdA enc P W ts e ok)
  (hreads : (ts.all fun t => P.readableRec t && decide (t < P.types.size)) = true) (hvars : s.vars = []) (hfn : ∀ ds : List (DataW H), ds.length = ts.length → s.fn H ds = { results := [.lit (.bool true)], args := ds })
  {tb : TypeId} (hres : fn.resultTypes = #[tb]) (hb : P.underlying tb = some .bool) (hlaw : ∀ a, ok a → Qad P F (e a) (.b true))
  {W : World} {base : Nat} {args : Array Value} {ds gs : List (DataW H)} {before : List MemPlace}
  (hval : ∀ (j : Nat) t v, fn.params[j]? = some t → args[j]? = some v → Value.okWide P W .any base t v) (hW : DataW.Whole enc P fn.params.toList s.vars false W args.toList ds gs before) :
  Calls P F args W fun e' W' => ∃ v, e' = .returned v ∧ s.post enc P fn false fresh false false W args v W' := by
 have hW' := hW
 obtain ⟨p, q, hA, hV, rfl, hfz, hnd⟩ := hW
 have hlt : ∀ x ∈ p ++ q, x.block < W.heap.size := hW'.lt
 rw [hts] at hA
 have hlen : ds.length = ts.length ∧ args.toList.length = ts.length := by
  have : ∀ (ts : List TypeId) (vs : List Value) (ds : List (DataW H)) (ps : List MemPlace), DataW.TrodAll enc P W 0 (fun _ => true) true ts vs ds ps → ds.length = ts.length ∧ vs.length = ts.length := by
   intro ts
   induction ts with
   | nil => intro vs ds ps h; obtain ⟨rfl, rfl, rfl⟩ := trodAll_nil h; exact ⟨rfl, rfl⟩
   | cons t ts ih =>
    intro vs ds ps h
    obtain ⟨v, vs', d, ds', p, q, rfl, rfl, rfl, _, hb⟩ := trodAll_cons h
    have := ih _ _ _ hb
    simp [this.1, this.2]
  exact this _ _ _ _ hA
 rw [hvars] at hV
 obtain ⟨rfl, rfl⟩ : gs = [] ∧ q = [] := trodVars_none hV
 obtain ⟨a, h1, h2, h3⟩ := hrd W _ _ _ base hA fun j t v hj hv => hval j t v (by rw [← hts] at hj; simpa using hj) (by simpa using hv)
 refine (hlaw a h1 (Qj2 W) W args (fun _ h => h) (by simpa using h2.symm) h3).mono ?_
 rintro e' W' ⟨c, rfl, hev, hrep⟩
 simp only [Rep] at hrep
 subst hrep
 have hbl : Below W.heap.size W W' := ⟨hev.os, hev.tape, hev.output, hev.size, fun k hk => hev.old k hk (by rintro ⟨id, g, h⟩; cases h)⟩
 have hfe : s.fn H (ds ++ []) = { results := [.lit (.bool true)], args := ds } := by rw [List.append_nil]; exact hfn ds hlen.1
 refine ⟨_, rfl, post_of_same (pa := p) (pv := []) hW' (fun b sp hd => ?_) (fun sp hsp => ?_) (fun sp hsp => ?_) rfl (Qjv hbl _) hev.fz (ok_one hres rfl (okWide_bool_mk hb _))⟩
 ·rw [hfe, hres]
  exact trodAll_mk1 (shut_bool hb true)
 ·rw [hfe, hts]
  exact Qgx hl hreads hA (fun x hx => hbl.same (hlt x (by simp [hx]))) fun x hx => hsp x (by simp [hx])
 ·rw [hfe, hvars]
  rfl
end Go.Fam
namespace Go.Fam
variable {Γ : Gam} {E : TypeId → Nat → Prop} {Q : Exit → St → Prop} {σ : St}
theorem Qdb.mono {P : Program} {f : FuncId} {args : List V} {R R' : V → List Blk → Prop} (h : Qdb P f args R) (hr : ∀ r hp, R r hp → R' r hp) : Qdb P f args R' := fun S w cargs h1 h2 h3 =>
 Calls.mono (h S w cargs h1 h2 h3) fun e w' ⟨c, S', O', r, hp, he, hR, hx⟩ => ⟨c, S', O', r, hp, he, hr _ _ hR, hx⟩
theorem Qqj {α : Type} {l : List Nat} {d : Option Nat} {a : RC} (n : Nat) (S : List Nat → α → St) (C : List Nat → α → Prop) (x0 : α) (h0 : kp l d σ = S [] x0) (c0 : C [] x0)
  (hs : ∀ pre x, pre.Nodup → (∀ j ∈ pre, j < n) → C pre x → wpR Γ E a (Qaf (fun σ'' => ∃ j y, j ∈ Qih n pre ∧ C (pre ++ [j]) y ∧ kp l d σ'' = S (pre ++ [j]) y) Q) (S pre x)) : wpR Γ E (.loop l d a) Q σ := by
 refine Qhe (fun k σ => ∃ (pre : List Nat) (x : α), pre.Nodup ∧ (∀ j ∈ pre, j < n) ∧ k = n - pre.length ∧ C pre x ∧ σ = S pre x) ⟨n, [], x0, Qq, (by simp), by simp, c0, h0⟩ ?_
 rintro k _ ⟨pre, x, hnd, hlt, rfl, hc, rfl⟩
 refine Qeo _ _ _ _ (fun e σ he => ?_) (hs pre x hnd hlt hc)
 cases e <;> first | exact he | skip
 obtain ⟨j, y, hj, hc', hk⟩ := he
 obtain ⟨hjn, hjp⟩ := Qii.1 hj
 have hnd' : (pre ++ [j]).Nodup := by
  rw [List.nodup_append]
  exact ⟨hnd, by simp, fun a ha b hb => by simp at hb; subst hb; rintro rfl; exact hjp ha⟩
 have hlt' : ∀ i ∈ pre ++ [j], i < n := by
  intro i hi
  rcases Qz.1 hi with hi | hi
  ·exact hlt i hi
  ·simp at hi; omega
 have := Qpt hnd' hlt'
 rw [Qj, List.length_singleton] at this
 exact ⟨n - (pre ++ [j]).length, by simp; omega, pre ++ [j], y, hnd', hlt', rfl, hc', hk⟩
theorem Qk1 {α : Type} {p : List α → Prop} (h0 : p []) (hs : ∀ l x, p l → p (l ++ [x])) (l : List α) : p l := by
 have : ∀ r : List α, p r.reverse := by
  intro r
  induction r with
  | nil => exact h0
  | cons x r ih => rw [List.reverse_cons]; exact hs _ _ ih
 simpa using this l.reverse
theorem Qn2 {ks : List (List Int)} {l k : List Int} : k ∈ putK ks l ↔ k ∈ ks ∨ k = l := by
 unfold putK
 split
 ·rename_i h
  constructor
  ·exact .inl
  ·rintro (h' | rfl) <;> assumption
 ·simp
mutual
theorem Qjj (f : Nat → Nat) : ∀ v : V, Qa9 v = false → renV f v = v
 | .u, _ | .b _, _ | .i _, _ | .z _, _ | .sl _ _, _ | .sx _ _, _ | .pa _, _ | .pn, _ | .yl _, _ => by simp [renV]
 | .ag cs, h | .tp cs, h => by simp only [Qa9] at h; simp only [renV, Qe6 f cs h]
 | .fn g cs, h => by simp only [Qa9] at h; simp only [renV, Qe6 f cs h]
 | .gv q v, h => by simp only [Qa9] at h; simp only [renV, Qjj f v h]
 | .ad _ _ _, h | .rf _ _ _ _ _, h | .mp _ _, h | .it _ _, h => by simp [Qa9] at h
theorem Qe6 (f : Nat → Nat) : ∀ vs : List V, Qa5 vs = false → renL f vs = vs
 | [], _ => rfl
 | v :: vs, h => by
  simp only [Qa5, Bool.or_eq_false_iff] at h
  simp only [renL, Qjj f v h.1, Qe6 f vs h.2]
end
end Go.Fam
set_option linter.unusedSimpArgs false
namespace Go.Fam
variable {β : Type}
abbrev AM (β : Type) := List (List Int × β)
def aks (m : AM β) : List (List Int) := m.map (·.1)
def avs (g : β → V) (m : AM β) : List V := m.map fun e => g e.2
def aput (m : AM β) (k : List Int) (x : β) : AM β := if k ∈ aks m then m.map (fun e => if e.1 = k then (k, x) else e) else m ++ [(k, x)]
def aget (m : AM β) (k : List Int) : Option β := (m.find? fun e => decide (e.1 = k)).map (·.2)
theorem Qh0 (m : AM β) (k : List Int) (x : β) : aks (aput m k x) = putK (aks m) k := by
 unfold aput putK
 by_cases h : k ∈ aks m
 ·rw [if_pos h, if_pos h]
  unfold aks
  rw [List.map_map]
  refine Qr fun e _ => ?_
  by_cases he : e.1 = k <;> simp [he]
 ·rw [if_neg h, if_neg h]; simp [aks]
theorem Qkp {m : AM β} (h : (aks m).Nodup) (k : List Int) (x : β) : (aks (aput m k x)).Nodup := by
 rw [Qh0]; exact Qhb h
theorem Qpp {m : AM β} {k : List Int} : k ∈ aks m ↔ (aget m k).isSome = true := by
 unfold aks aget
 rw [Option.isSome_map, List.find?_isSome]
 simp
theorem Qoi {m : AM β} {k : List Int} : aget m k = none ↔ k ∉ aks m := by
 rw [Qpp]; cases aget m k <;> simp
theorem Qsy (g : β → V) (m : AM β) (k : List Int) : (avs g m)[(aks m).idxOf k]? = (aget m k).map g := by
 induction m with
 | nil => rfl
 | cons e m ih =>
  simp only [avs, aks, Qa] at ih ⊢
  by_cases h : e.1 = k
  ·subst h; simp [aget]
  ·have h1 : (e.1 == k) = false := by simpa using h
   rw [Q0, h1]
   simp only [aget, Qg, h, decide_false] at ih ⊢
   simpa using ih
theorem Qjo (m : AM β) (k k' : List Int) (x : β) : aget (aput m k x) k' = if k' = k then some x else aget m k' := by
 unfold aput
 split
 ·rename_i h
  by_cases he : k' = k
  ·subst he
   rw [if_pos rfl]
   induction m with
   | nil => simp [aks] at h
   | cons e m ih =>
    by_cases h1 : e.1 = k'
    ·simp [aget, h1]
    ·have : k' ∈ aks m := by simp only [aks, Qa, Ql] at h; rcases h with h | h; exact absurd h.symm h1; exact h
     have := ih this
     simpa [aget, h1] using this
  ·rw [if_neg he]
   clear h
   induction m with
   | nil => rfl
   | cons e m ih =>
    by_cases h1 : e.1 = k
    ·have h2 : ¬ e.1 = k' := fun h => he (by rw [← h, h1])
     have h3 : ¬ k = k' := fun h => he h.symm
     simp only [aget, Qa, Qg, h1, ↓reduceIte, h3, decide_false] at ih ⊢
     rw [← h1]; simpa [h1] using ih
    ·by_cases h2 : e.1 = k'
     ·simp only [aget, Qa, Qg, h2, decide_true, if_neg he]
     ·simp only [aget, Qa, Qg, h1, ↓reduceIte, h2, decide_false] at ih ⊢
      exact ih
 ·rename_i h
  unfold aget
  rw [List.find?_append]
  by_cases he : k' = k
  ·subst he
   have : m.find? (fun e => decide (e.1 = k')) = none := by
    rw [List.find?_eq_none]
    intro e hm hd
    exact h (Qt.2 ⟨e, hm, by simpa using hd⟩)
   simp [this]
  ·have h3 : ¬ k = k' := fun h => he h.symm
   simp [he, h3]
theorem Qmn {m : AM β} {k : List Int} {x : β} (h : aget m k = some x) : (k, x) ∈ m := by
 unfold aget at h
 obtain ⟨e, he, rfl⟩ := Qn.1 h
 have h1 := List.mem_of_find?_eq_some he
 have h2 := List.find?_some he
 have : e.1 = k := by simpa using h2
 rw [← this]; exact h1
theorem Qoh {m : AM β} (hn : (aks m).Nodup) {j : Nat} {k : List Int} {x : β} (h : m[j]? = some (k, x)) : aget m k = some x := by
 induction m generalizing j with
 | nil => simp at h
 | cons e m ih =>
  simp only [aks, Qa, Qh] at hn
  cases j with
  | zero =>
   simp at h; subst h; simp [aget]
  | succ j =>
   have h' : m[j]? = some (k, x) := by simpa using h
   have : e.1 ≠ k := fun he => hn.1 (he ▸ Qt.2 ⟨_, List.mem_of_getElem? h', rfl⟩)
   have := ih hn.2 h'
   simpa [aget, ‹e.1 ≠ k›] using this
theorem Qm2 {m : AM β} (hn : (aks m).Nodup) (g : β → V) (k : List Int) (x : β) : Qhc (aks m) (avs g m) k (g x) = avs g (aput m k x) := by
 unfold Qhc aput
 split
 ·rename_i h
  induction m with
  | nil => rfl
  | cons e m ih =>
   simp only [aks, Qa, Qh] at hn
   simp only [avs, aks, Qa] at ih ⊢
   by_cases h : e.1 = k
   ·subst h
    rw [List.idxOf_cons_self, List.set_cons_zero, if_pos rfl]
    congr 1
    rw [List.map_map]
    refine Qr fun e' he' => ?_
    have : e'.1 ≠ e.1 := fun h => hn.1 (h ▸ Qt.2 ⟨_, he', rfl⟩)
    simp [this]
   ·have h1 : (e.1 == k) = false := by simpa using h
    rw [Q0, h1, if_neg h]
    simp only [Bool.cond_false]
    rw [Qs, ih hn.2]
    rename_i h9
    simp only [aks, Qa, Ql] at h9
    exact h9.resolve_left fun h8 => h h8.symm
 ·simp [avs]
theorem Qik {g : β → V} (h : ∀ x, Qa9 (g x) = false) (m : AM β) : Qa5 (avs g m) = false := by
 unfold avs
 induction m with
 | nil => rfl
 | cons e m ih => rw [Qa]; simp only [Qa5, h, ih]; rfl
theorem Qv7 {m : AM β} {j : Nat} (h : j < (aks m).length) : ∃ k x, m[j]? = some (k, x) ∧ (aks m)[j]? = some k ∧ ∀ g : β → V, (avs g m)[j]? = some (g x) := by
 have hj : j < m.length := by simpa [aks] using h
 refine ⟨(m[j]).1, (m[j]).2, by rw [Qb hj], ?_, fun g => ?_⟩
 ·unfold aks; rw [Qu, Qb hj]; rfl
 ·unfold avs; rw [Qu, Qb hj]; rfl
theorem Qky (hp : List Blk) (n : Nat) : ∀ (vs : List V) (i : Nat) (v : V), cutL hp n (vs.set i v) = (cutL hp n vs).set i (cutV hp n v)
 | [], _, _ => rfl
 | _ :: _, 0, _ => rfl
 | x :: vs, i + 1, v => by simp only [Qs, cutL, Qky hp n vs i v]
theorem Qkx (hp : List Blk) (n : Nat) : ∀ (a b : List V), cutL hp n (a ++ b) = cutL hp n a ++ cutL hp n b
 | [], b => rfl
 | v :: a, b => by simp only [List.cons_append, cutL, Qkx hp n a b]
theorem Qnq (hp : List Blk) (n : Nat) (ks : List (List Int)) (vs : List V) (l : List Int) (v : V) : cutL hp n (Qhc ks vs l v) = Qhc ks (cutL hp n vs) l (cutV hp n v) := by
 unfold Qhc
 split
 ·exact Qky _ _ _ _ _
 ·rw [Qkx]; rfl
theorem Qo5 (hp : List Blk) (n : Nat) (x : Int) : rdV hp (n + 1) (.i x) = [] := rfl
theorem Qw9 (hp : List Blk) (n : Nat) (e : Nat) (r : List (List V)) : rdV hp (n + 1) (.sl e r) = [] := rfl
end Go.Fam
namespace Go.Fam
variable {P : Program}
def Ql5 (P : Program) : Nat → TypeId → Option Nat
 | 0, _ => none
 | d + 1, t => match P.underlying t with
  | some (.int .i64) => some 1
  | some (.struct fs) => if P.stoodInHeld t || (szB P t).isNone then none else
   match fs.toList.foldlM (fun off f => if f.name == "_" || f.offset != off then none else (Ql5 P d f.type).map (off + ·)) 0 with
   | some n => if szB P t == some n then some n else none
   | none => none
  | _ => none
def Qho (P : Program) (t : TypeId) (xs : List Int) : Value := if Qc7 P t then .agg (xs.map (Value.int .i64)).toArray else .int .i64 (xs.headD 0)
structure FlatOk (P : Program) (d : Nat) (t : TypeId) (n : Nat) : Prop where
 eq : ∀ d', d ≤ d' → ∀ (xs ys : List Int) (w : World), xs.length = n → ys.length = n → (Op.equalIn d' t (Qho P t xs) (Qho P t ys)).run P w = .ok (decide (xs = ys)) w
 key : ∀ d', d ≤ d' → ∀ (xs : List Int) (e : Bool) (w : World), xs.length = n → (Instr.checkKey e d' t (Qho P t xs)).run P w = .ok () w
 part : ∀ (xs : List Int) (off : Nat) (w : World), off + n ≤ xs.length → (part t (xs.map (Value.int .i64)).toArray off).run P w = .ok (Qho P t ((xs.drop off).take n)) w
theorem Qfg {α : Type} (xs : List α) (off k : Nat) : xs.drop off = (xs.drop off).take k ++ xs.drop (off + k) := by
 rw [← Qp, Qe]
theorem Ql4 {d : Nat} (ih : ∀ t n, Ql5 P d t = some n → FlatOk P d t n) : ∀ (fs : List Field) (off n : Nat),
  fs.foldlM (fun off f => if f.name == "_" || f.offset != off then none else (Ql5 P d f.type).map (off + ·)) off = some n →
  off ≤ n ∧ ∀ (d' : Nat), d ≤ d' → ∀ (xs ys : List Int) (w : World), xs.length = n → ys.length = n →
   (Op.eqFields d' (xs.map (Value.int .i64)).toArray (ys.map (Value.int .i64)).toArray fs).run P w = .ok (decide (xs.drop off = ys.drop off)) w ∧
   ∀ e, (forIn fs PUnit.unit fun f (_ : PUnit) => (if f.name ≠ "_" then (do let c ← part f.type (xs.map (Value.int .i64)).toArray f.offset; Instr.checkKey e d' f.type c; pure (ForInStep.yield PUnit.unit) : Sem (ForInStep PUnit)) else pure (ForInStep.yield PUnit.unit))).run P w = .ok PUnit.unit w
 | [], off, n, h => by
  simp at h; subst h
  refine ⟨Qx _, fun d' _ xs ys w hx hy => ⟨?_, fun e => by simp⟩⟩
  have h1 : xs.drop off = [] := by rw [Qf]; omega
  have h2 : ys.drop off = [] := by rw [Qf]; omega
  simp [Op.eqFields, h1, h2]
 | f :: fs, off, n, h => by
  rw [List.foldlM_cons] at h
  by_cases h1 : f.name = "_"
  ·simp [h1] at h
  by_cases h2 : f.offset = off
  ·cases h3 : Ql5 P d f.type with
   | none => simp [h1, h2, h3] at h
   | some k =>
    have hc : (f.name == "_" || f.offset != off) = false := by simp [h1, h2]
    rw [hc] at h
    simp only [Qc, if_false, h3, Option.map_some] at h
    change List.foldlM _ (off + k) fs = some n at h
    obtain ⟨hle, hrest⟩ := Ql4 ih fs (off + k) n h
    have hf := ih _ _ h3
    refine ⟨by omega, fun d' hd xs ys w hx hy => ?_⟩
    have hp1 := hf.part xs off w (by omega)
    have hp2 := hf.part ys off w (by omega)
    have hl1 : ((xs.drop off).take k).length = k := by simp; omega
    have hl2 : ((ys.drop off).take k).length = k := by simp; omega
    have he := hf.eq d' hd ((xs.drop off).take k) ((ys.drop off).take k) w hl1 hl2
    obtain ⟨hr1, hr2⟩ := hrest d' hd xs ys w hx hy
    refine ⟨?_, fun e => ?_⟩
    ·simp only [Op.eqFields, if_pos (show f.name ≠ "_" from h1), Sem.run_bind, h2, hp1, hp2, he, Result.andThen_ok]
     by_cases e : (xs.drop off).take k = (ys.drop off).take k
     ·simp only [e, decide_true, Bool.not_true, Qc, if_false, hr1]
      congr 1
      rw [decide_eq_decide]
      rw [Qfg xs off k, Qfg ys off k, e]
      exact List.append_cancel_left_eq _ _ _ ▸ Iff.rfl
     ·simp only [e, decide_false, Bool.not_false, if_true, Sem.run_pure]
      congr 1
      symm
      rw [decide_eq_false_iff_not]
      intro hc
      exact e (by rw [hc])
    ·have hk := hf.key d' hd ((xs.drop off).take k) e w hl1
     simp only [List.forIn_cons, if_pos (show f.name ≠ "_" from h1), Sem.run_bind, h2, hp1, hk, Result.andThen_ok, Sem.run_pure]
     exact hr2 e
  ·simp [h1, h2] at h
theorem Qmv : ∀ (d : Nat) (t : TypeId) (n : Nat), Ql5 P d t = some n → FlatOk P d t n
 | 0, _, _, h => by simp [Ql5] at h
 | d + 1, t, n, h => by
  rw [Ql5] at h
  cases hu : P.underlying t with
  | none => simp [hu] at h
  | some desc =>
   rw [hu] at h
   cases desc <;> first | (simp at h; done) | skip
   ·rename_i k
    cases k <;> first | (simp at h; done) | skip
    simp at h; subst h
    have ha : Qc7 P t = false := by simp [Qc7, hu]
    refine ⟨fun d' hd xs ys w hx hy => ?_, fun d' hd xs e w hx => ?_, fun xs off w hx => ?_⟩
    ·obtain ⟨d', rfl⟩ : ∃ k, d' = k + 1 := ⟨d' - 1, by omega⟩
     match xs, ys, hx, hy with
     | [a], [b], _, _ =>
      simp only [Qho, ha, if_false, Qc, List.headD_cons]
      rw [run_equalIn_int w d' t .i64 .i64 a b hu]
      congr 1
      rw [Qy]; simp
    ·obtain ⟨d', rfl⟩ : ∃ k, d' = k + 1 := ⟨d' - 1, by omega⟩
     simp [Instr.checkKey, run_underlying hu, Qho, ha]
    ·have hlt : off < xs.length := by omega
     simp only [part, Sem.run_bind, Qfu hu, Result.andThen_ok, ha, Qho, Qc, if_false]
     have h1 : ((xs.drop off).take 1).headD 0 = xs[off] := by rw [List.drop_eq_getElem_cons hlt]; rfl
     rw [h1]
     simp [hlt]
   ·rename_i fs
    simp only at h
    by_cases hs : (P.stoodInHeld t || (szB P t).isNone) = true
    ·simp [hs] at h
    ·rw [if_neg hs] at h
     simp at hs
     have ha : Qc7 P t = true := by simp [Qc7, hu]
     split at h
     ·rename_i m hm
      split at h
      ·rename_i hsz
       simp at h hsz; subst h
       obtain ⟨_, hfs⟩ := Ql4 (fun t n => Qmv d t n) fs.toList 0 m hm
       have hff : P.fieldsOf t = fs := by simp [Program.fieldsOf, hu]
       refine ⟨fun d' hd xs ys w hx hy => ?_, fun d' hd xs e w hx => ?_, fun xs off w hx => ?_⟩
       ·obtain ⟨d', rfl⟩ : ∃ k, d' = k + 1 := ⟨d' - 1, by omega⟩
        simp only [Qho, ha, if_true]
        rw [run_equalIn_struct w d' t _ _ (by rw [hff]; exact hu) hs.1, hff, (hfs d' (by omega) xs ys w hx hy).1]
        simp
       ·obtain ⟨d', rfl⟩ : ∃ k, d' = k + 1 := ⟨d' - 1, by omega⟩
        have := (hfs d' (by omega) xs xs w hx hx).2 e
        simp only [Qho, ha, if_true, Instr.checkKey, Sem.run_bind, run_underlying hu, Result.andThen_ok]
        rw [← Array.forIn_toList]
        rw [this]; rfl
       ·simp only [part, Sem.run_bind, Qfu hu, Result.andThen_ok, ha, Qho, if_true, Qbj hsz, Sem.run_pure]
        congr 2
        apply Array.ext'
        simp [List.map_drop, List.map_take]
      ·simp at h
     ·simp at h
theorem Qau.of {t : TypeId} {n : Nat} {fs : Array Field} (hu : P.underlying t = some (.struct fs)) (hf : Ql5 P 9 t = some n) (hg : P.eqGuardType P.depth t = false) : Qau P t n := by
 have ho := Qmv 9 t n hf
 have ha : Qc7 P t = true := by simp [Qc7, hu]
 have hv : ∀ xs, Qho P t xs = .agg (xs.map (Value.int .i64)).toArray := fun xs => by simp [Qho, ha]
 refine ⟨⟨fs, hu⟩, fun xs ys w hx hy => ⟨fun op x y hop => ⟨run_eqGuard_agg w op t x y _ _ hg, ?_⟩, ?_, fun e => ?_⟩⟩
 ·have := ho.eq 10000 (by decide) xs ys w hx hy
  rw [hv, hv] at this
  rcases hop with rfl | rfl
  ·rw [run_eql_struct, this]; simp [Result.andThen, show (BinOp.eql == BinOp.neq) = false from rfl]
  ·rw [run_neq_struct, this]; simp [Result.andThen]
 ·have := ho.eq 10000 (by decide) xs ys w hx hy
  rw [hv, hv] at this
  exact this
 ·have := ho.key 10000 (by decide) xs e w hx
  rw [hv] at this
  exact this
end Go.Fam
namespace Go.Fam
theorem Evol.cut0 {S S' : Nat → Prop} {w w' : World} {O0 O : OInfo} (h : Evol S S' w w' O0 O) (n : Nat) (hlo : ∀ id x, O0 id = some x → id < n) : Evol S (cutS S' O n) w w' O0 (Qbs O n) := by
 refine ⟨⟨fun k hk => ⟨.inl (h.ext.keep k hk).1, (h.ext.keep k hk).2⟩, fun id g ob ho => ?_⟩, h.os, h.tape, h.output, h.size, h.fz, h.old, fun k ⟨id, g, ho⟩ => h.fresh k ⟨id, g, (Qbc ho).2⟩, ?_⟩
 ·obtain ⟨g', ob', h1, h2⟩ := h.ext.own id g ob ho
  refine ⟨g', ob', ?_, h2⟩
  unfold Qbs
  rw [if_pos (hlo id _ ho)]
  exact h1
 rintro k (hk | ⟨id, g, ho⟩)
 ·exact h.grow k hk
 ·exact .inr (h.fresh k ⟨id, g, (Qbh ho).2⟩)
theorem Qje {S0 S : Nat → Prop} {w0 w : World} {O0 O : OInfo} (h : Evol S0 S w0 w O0 O) (h0 : ∀ id g b, O0 id = some (g, some b) → b < w0.heap.size) {L : Nat} {o o' : Obj} (hb : w.heap[L]? = some o) (hc : o.isCells = false) (hc' : o'.isCells = false) (hS : ¬ S L) (hL : w0.heap.size ≤ L) :
  Evol S0 S w0 (w.putObj L o') O0 O := by
 have hoth : ∀ k, k ≠ L → (w.putObj L o').heap[k]? = w.heap[k]? := fun k hk => World.putObj_heap_other hk
 have hnew : (w.putObj L o').heap[L]? = some o' := World.putObj_heap_same (Array.getElem?_eq_some_iff.1 hb).1
 refine ⟨⟨fun k hk => ⟨(h.ext.keep k hk).1, ?_⟩, fun id g ob ho => ?_⟩, h.os, h.tape, h.output, by simpa using h.size, fun a => ?_, fun k hk hno => ?_, h.fresh, h.grow⟩
 ·rw [hoth k (by rintro rfl; exact hS (h.ext.keep k hk).1)]; exact (h.ext.keep k hk).2
 ·obtain ⟨g', ob', h1, h2, h3⟩ := h.ext.own id g ob ho
  refine ⟨g', ob', h1, h2, fun e => ?_⟩
  obtain ⟨h4, h5⟩ := h3 e
  refine ⟨h4, fun b cur e hb hh => ?_⟩
  obtain ⟨cur', h6, h7⟩ := h5 b cur e hb hh
  refine ⟨cur', ?_, h7⟩
  rw [hoth b (by have := h0 id g b (by rw [ho, hb]); omega)]
  exact h6
 ·refine Eq.trans ?_ (h.fz a)
  by_cases e : a.block = L
  ·simp only [World.frozen?, e, hnew, hb]
   cases o <;> cases o' <;> first | rfl | (simp [Obj.isCells] at hc; done) | (simp [Obj.isCells] at hc'; done)
  ·simp only [World.frozen?, hoth _ e]
 ·rw [hoth k (by omega)]; exact h.old k hk hno
section
variable {P : Program} {F : Fence} {n : Nat} {Γ : Gam} {pu : List Nat}
def Ch (S0 : Nat → Prop) (w0 : World) (O0 : OInfo) : Ctx := fun S w O ds _ => Evol S0 S w0 w O0 O ∧ ∃ Ds : List Nat, ds = Ds.map col ∧ Ds.Nodup ∧ ∀ D ∈ Ds, w.heap[D]? = some (.deferred (some [])) ∧ ¬ S D ∧ ¬ Own O D ∧ w0.heap.size ≤ D
theorem Qv9 {M : FrI} {S0 : Nat → Prop} {w0 : World} {O0 : OInfo} {lo : Nat} (hro : F.round = none) (h0 : ∀ id g b, O0 id = some (g, some b) → b < w0.heap.size) (hlo : ∀ id x, O0 id = some x → id < lo) (hp : 0 < lo) : CtxOk P F n M (Ch S0 w0 O0) lo 1 w0.heap.size := by
 refine ⟨?_, ?_, fun _ => hro, fun _ _ _ _ _ _ h => h.1.size, ?_, ?_, ?_, fun h => (by cases h), fun h => (by cases h), fun h => (by cases h)⟩
 ·rintro S S' w w' O O' ds h h' ⟨h1, Ds, h2, h3, h4⟩ hlt ev _
  refine ⟨h1.trans ev, Ds, h2, h3, fun D hD => ?_⟩
  obtain ⟨a1, a2, a3, a4⟩ := h4 D hD
  have hDlt := (Array.getElem?_eq_some_iff.1 a1).1
  refine ⟨(ev.old D hDlt a3).trans a1, fun hS => ?_, fun hO => ?_, a4⟩
  ·rcases ev.grow D hS with h | h | h
   ·exact a2 h
   ·exact a3 h
   ·omega
  ·rcases ev.fresh D hO with h | h
   ·exact a3 h
   ·omega
 ·rintro S w O ds h h' k ⟨h1, Ds, h2, h3, h4⟩ hk _
  refine ⟨h1.cut0 k (fun id x hx => Qd (hlo id x hx) hk), Ds, h2, h3, fun D hD => ?_⟩
  obtain ⟨a1, a2, a3, a4⟩ := h4 D hD
  refine ⟨a1, ?_, fun ⟨id, g, ho⟩ => a3 ⟨id, g, (Qbc ho).2⟩, a4⟩
  rintro (h | ⟨id, g, ho⟩)
  ·exact a2 h
  ·exact a3 ⟨id, g, (Qbh ho).2⟩
 ·rintro _ S w O ds h L r r' ⟨h1, Ds, h2, h3, h4⟩ hL hS hO hb
  refine ⟨Qje h1 h0 hL rfl rfl hS hb, Ds, h2, h3, fun D hD => ?_⟩
  obtain ⟨a1, a2, a3, a4⟩ := h4 D hD
  refine ⟨?_, a2, a3, a4⟩
  rw [World.putObj_heap_other (by rintro rfl; rw [hL] at a1; cases a1)]
  exact a1
 ·rintro _ S w O ds h r ⟨h1, Ds, h2, h3, h4⟩ hS hO
  have hl : Later w ((w.alloc (.deferred (some []))).alloc (.loop r)) := (Qcl w _ rfl).trans (Qcl _ _ rfl)
  refine ⟨h1.trans (hl.evol hS hO), w.heap.size :: Ds, by rw [h2]; rfl, Qh.2 ⟨fun hD => ?_, h3⟩, fun D hD => ?_⟩
  ·have := (Array.getElem?_eq_some_iff.1 (h4 _ hD).1).1; omega
  ·rcases Ql.1 hD with rfl | hD
   ·refine ⟨?_, fun h => ?_, fun h => ?_, h1.size⟩
    ·exact (heap_alloc_old _ _ (by simp)).trans (World.alloc_heap_new w _)
    ·have := hS _ h; omega
    ·have := hO _ h; omega
   ·obtain ⟨a1, a2, a3, a4⟩ := h4 D hD
    exact ⟨(hl.old D (Array.getElem?_eq_some_iff.1 a1).1).trans a1, a2, a3, a4⟩
 ·intro _ h; omega
theorem Qf9 {M : FrI} {fn : Func} {rs : List RV} (hr : Qg8 P fn.results.toList = some rs) {S0 S : Nat → Prop} {w0 : World} {O0 O : OInfo} (h0 : ∀ id g b, O0 id = some (g, some b) → b < w0.heap.size) {σ : St} {a : Act} (hok : rvs σ.hp σ.fr rs) {R : Ending → World → Prop}
  (hR : ∀ w' c, Evol S0 S w0 w' O0 O → Mat S w' O σ.hp → Rep S w' O (resV σ.hp σ.fr rs) c → R (.returned c) w') :
  ∀ (Ds : List Nat) (w : World), Ds.Nodup → (∀ D ∈ Ds, w.heap[D]? = some (.deferred (some [])) ∧ ¬ S D ∧ ¬ Own O D ∧ w0.heap.size ≤ D) → Evol S0 S w0 w O0 O → SR M S w O σ a → LeavesInM F n P fn a.tmps R (Ds.map col) .returning w
 | [], w, _, _, hev, hsr => by
  obtain ⟨c, hrun, hrp⟩ := Qen hsr hr hok
  exact ⟨c, hrun, hR w c hev hsr.mat hrp⟩
 | D :: Ds, w, hnd, hD, hev, hsr => by
  obtain ⟨hn1, hn2⟩ := Qh.1 hnd
  obtain ⟨a1, a2, a3, a4⟩ := hD D (by simp)
  refine ⟨by simp, .inl ⟨D, _, rfl, run_takeDeferred a1, ?_⟩⟩
  refine Qf9 hr h0 hok hR Ds _ hn2 (fun D' hD' => ?_) (Qje hev h0 a1 rfl rfl a2 a4) (Qff hsr _ a2 a3)
  obtain ⟨b1, b2⟩ := hD D' (by simp [hD'])
  exact ⟨(World.putObj_heap_other (by rintro rfl; exact hn1 hD')).trans b1, b2⟩
theorem Qly {S : Nat → Prop} {w : World} {O : OInfo} {args : List V} {cargs : Array Value} {nt : Nat} (hsz : cargs.size = args.length) (hn : args.length ≤ nt) (hrep : RepL S w O args cargs.toList) :
  (cargs ++ Array.replicate (nt - cargs.size) undef).size = nt ∧ FrM S w O (lkp (zipA 0 args)) { tmps := cargs ++ Array.replicate (nt - cargs.size) undef, defers := [] } := by
 have hlo : ∀ t, t < cargs.size → (cargs ++ Array.replicate (nt - cargs.size) undef).getD t undef = cargs.getD t undef := by
  intro t ht
  simp [Array.getElem?_append, ht]
 refine ⟨by simp; omega, fun t => ?_⟩
 show Rep S w O (lkp (zipA 0 args) t) _
 rw [Qhw, if_pos (Qw _), Nat.sub_zero]
 cases ht : args[t]? with
 | none => simp [Rep]
 | some v =>
  obtain ⟨cv, hcv, hv⟩ := RepL.get _ _ t v hrep ht
  have hlt : t < cargs.size := by have := Qao hcv; simpa using this
  show Rep S w O v ((cargs ++ Array.replicate (nt - cargs.size) undef).getD t undef)
  rw [hlo t hlt]
  have : cargs.getD t undef = cv := by
   rw [Array.getElem?_toList] at hcv
   have h2 := (Array.getElem?_eq_some_iff.1 hcv).2
   simp [hlt, h2]
  rw [this]
  exact hv
theorem Ql9 (hG : GOk P Γ) (hm : P.follows .mixedOrders = true) {f : FuncId} {fn : Func} {c : Code} {rc : RC} {rs : List RV} (hf : P.funcs[f]? = some fn) (hb : fn.body = some c) {lo : Nat}
  (hc : comp P pu (fn.ntmps, 0) lo 1 rc c = some rc) (hr : Qg8 P fn.results.toList = some rs) {args : List V} (hn : args.length ≤ fn.ntmps) {hp : List Blk} (hlo : hp.length ≤ lo) (hpos : 0 < lo) {R : V → List Blk → Prop}
  (h : wpR Γ (Qau P) rc (endK rs fun σ => R (resV σ.hp σ.fr rs) σ.hp) ⟨lkp (zipA 0 args), hp⟩) : Qco P f args hp R := by
 intro S w O cargs hmat hsz hrep
 have h0 : ∀ id g b, O id = some (g, some b) → b < w.heap.size := fun id g b h => (hmat.own id g b h).1
 have hl : ∀ id x, O id = some x → id < lo := fun id x h => Qd (Qfw hmat h) hlo
 refine Qdk.calls (n := 0) (callsIn_of_wp_marks hf hb trivial ?_)
 obtain ⟨h1, h2⟩ := Qly hsz hn hrep
 obtain ⟨M, hM⟩ : ∃ M : FrI, M = ⟨fn.ntmps, 0, fun _ => undef, fun _ => False⟩ := ⟨_, rfl⟩
 have hnm : M.nm = (fn.ntmps, 0) := by rw [hM]; rfl
 have hat : At (Ch S w O) M S w O ⟨lkp (zipA 0 args), hp⟩ { tmps := cargs ++ Array.replicate (fn.ntmps - cargs.size) undef, defers := [] } := by
  refine ⟨⟨Evol.refl _ _ _, [], rfl, Qq, fun _ h => by cases h⟩, ⟨by rw [hM]; exact h1, fun t ht => by rw [hM] at ht; exact absurd ht (Q1 _), h2, hmat⟩⟩
 refine Qfh hG hm (M := M) (by rw [hM]; exact fun _ h => h.elim) rc c rc _ 0 lo 1 Qdk (by rw [hnm]; exact hc) (Ch S w O) w.heap.size (Qv9 rfl h0 hl hpos) _ _ _ S w O _ h hat ?_
 intro e σ' S' w' O' a' he hat'
 have fin : (rvs σ'.hp σ'.fr rs ∧ R (resV σ'.hp σ'.fr rs) σ'.hp) → LeavesInM Fence.wide 0 P fn a'.tmps (fun e w' => ∃ c S' O' r hp', e = .returned c ∧ R r hp' ∧ Evol S S' w w' O O' ∧ Mat S' w' O' hp' ∧ Rep S' w' O' r c) a'.defers .returning w' := by
  rintro ⟨k1, k2⟩
  obtain ⟨ev, Ds, e1, e2, e3⟩ := hat'.ctx
  rw [e1]
  exact Qf9 hr h0 k1 (fun w2 c hev hmat hrp => ⟨c, S', O', _, _, rfl, k2, hev, hmat, hrp⟩) Ds w' e2 e3 ev hat'.sr
 cases e <;> first | exact fin he | exact he.elim
end
def hpG {α : Type} (eA : α → List V) (eH : α → List Blk) (dec : List V → List Blk → α) (C : α → Prop) (R : α → V → List Blk → Prop) : List V → List Blk → Prop × (V → List Blk → Prop) :=
 fun as hp => (eA (dec as hp) = as ∧ eH (dec as hp) = hp ∧ C (dec as hp), R (dec as hp))
theorem Qpc {α : Type} {eA : α → List V} {eH : α → List Blk} {dec : List V → List Blk → α} {C : α → Prop} {R : α → V → List Blk → Prop} (x : α) (h : dec (eA x) (eH x) = x) : hpG eA eH dec C R (eA x) (eH x) = (C x, R x) := by
 unfold hpG
 rw [h]; simp
theorem Qpd {P : Program} {f : FuncId} {α : Type} {eA : α → List V} {eH : α → List Blk} {dec : List V → List Blk → α} {C : α → Prop} {R : α → V → List Blk → Prop}
  (h : ∀ x, C x → (∀ r hp', R x r hp' → ∀ y, ghO (eH x) = some y → ghO hp' = some y) ∧ Qco P f (eA x) (eH x) (R x)) (as : List V) (hp : List Blk) (hc : (hpG eA eH dec C R as hp).1) :
  (∀ r hp', (hpG eA eH dec C R as hp).2 r hp' → ∀ y, ghO hp = some y → ghO hp' = some y) ∧ Qco P f as hp (hpG eA eH dec C R as hp).2 := by
 obtain ⟨h1, h2, h3⟩ := hc
 have := h _ h3
 rw [h1, h2] at this
 exact this
theorem Qq2 (i : Nat) (v : V) (l : List V) (h : i < l.length) : putAt i [v] l = l.set i v := by
 unfold putAt
 rw [List.set_eq_take_append_cons_drop, if_pos h]
 simp
end Go.Fam
namespace Go.Fam
mutual
def lowV (n : Nat) : V → Bool
 | .ad id _ _ | .rf id _ _ _ _ | .mp id _ | .it id _ => decide (id < n)
 | .ag cs | .tp cs => lowL n cs
 | .fn _ cs => lowL n cs
 | .gv _ v => lowV n v
 | _ => true
def lowL (n : Nat) : List V → Bool
 | [] => true
 | v :: vs => lowV n v && lowL n vs
end
def lowB (n : Nat) : Blk → Bool
 | .cells _ vs | .map _ _ vs => lowL n vs
 | .iter mid _ _ _ => decide (mid < n)
 | _ => true
theorem Qgr {O : OInfo} {n id : Nat} (h : id < n) : Qbs O n id = O id := if_pos h
mutual
theorem Qk2 {S : Nat → Prop} {w : World} {O : OInfo} {n : Nat} : ∀ (v : V) (c : Value), lowV n v = true → Rep S w O v c → Rep S w (Qbs O n) v c
 | .u, _, _, _ => by simp [Rep]
 | .b x, c, _, hr => by simpa [Rep] using hr
 | .i x, c, _, hr => by simpa [Rep] using hr
 | .z es, c, _, hr => by simpa [Rep] using hr
 | .sl es rows, c, _, hr => by simpa only [Rep] using hr
 | .sx es rows, c, _, hr => by simpa only [Rep] using hr
 | .pa cs, c, _, hr => by simpa only [Rep] using hr
 | .pn, c, _, hr => by simpa [Rep] using hr
 | .yl l, c, _, hr => by simpa only [Rep] using hr
 | .ag cs, c, hl, hr => by
  simp only [lowV] at hl
  simp only [Rep] at hr ⊢
  obtain ⟨ccs, hc, hn, hr⟩ := hr
  exact ⟨ccs, hc, hn, Qel cs _ hl hr⟩
 | .tp cs, c, hl, hr => by
  simp only [lowV] at hl
  simp only [Rep] at hr ⊢
  obtain ⟨ccs, hc, hn, hr⟩ := hr
  exact ⟨ccs, hc, hn, Qel cs _ hl hr⟩
 | .fn f cs, c, hl, hr => by
  simp only [lowV] at hl
  simp only [Rep] at hr ⊢
  obtain ⟨ccs, hc, hn, hr⟩ := hr
  exact ⟨ccs, hc, hn, Qel cs _ hl hr⟩
 | .gv q v, c, hl, hr => by
  simp only [lowV] at hl
  simp only [Rep] at hr ⊢
  exact ⟨fun hq => Qk2 v c hl (hr.1 hq), hr.2⟩
 | .ad id g off, c, hl, hr => by
  simp only [lowV, decide_eq_true_eq] at hl
  simpa only [Rep, Qgr hl] using hr
 | .rf id g off len es, c, hl, hr => by
  simp only [lowV, decide_eq_true_eq] at hl
  simpa only [Rep, Qgr hl] using hr
 | .mp id g, c, hl, hr => by
  simp only [lowV, decide_eq_true_eq] at hl
  simpa only [Rep, Qgr hl] using hr
 | .it id g, c, hl, hr => by
  simp only [lowV, decide_eq_true_eq] at hl
  simpa only [Rep, Qgr hl] using hr
theorem Qel {S : Nat → Prop} {w : World} {O : OInfo} {n : Nat} : ∀ (vs : List V) (cs : List Value), lowL n vs = true → RepL S w O vs cs → RepL S w (Qbs O n) vs cs
 | [], _, _, _ => by simp [RepL]
 | _ :: _, [], _, hr => by simp [RepL] at hr
 | v :: vs, c :: cs, hl, hr => by
  simp only [lowL, Qv] at hl
  simp only [RepL] at hr ⊢
  exact ⟨Qk2 v c hl.1 hr.1, Qel vs cs hl.2 hr.2⟩
end
theorem Qte {S : Nat → Prop} {w : World} {O : OInfo} {n g : Nat} {ob : Option Nat} : ∀ (b : Blk), lowB n b = true → Qbg S w O g ob (some b) → Qbg S w (Qbs O n) g ob (some b)
 | .cells g' vs, hl, h => by
  simp only [lowB] at hl
  simp only [Qbg] at h ⊢
  refine ⟨h.1, ?_⟩
  cases ob with
  | none => exact h.2
  | some b =>
   obtain ⟨cur, e, h1, h2, h3⟩ := h.2
   exact ⟨cur, e, h1, Qel _ _ hl h2, h3⟩
 | .map st ks vs, hl, h => by
  simp only [lowB] at hl
  simp only [Qbg] at h ⊢
  obtain ⟨h0, b, es, h1, h2, h3, h4, h5⟩ := h
  exact ⟨h0, b, es, h1, h2, h3, Qel _ _ hl h4, h5⟩
 | .iter mid k left cur, hl, h => by
  simp only [lowB, decide_eq_true_eq] at hl
  simp only [Qbg] at h ⊢
  obtain ⟨h0, b, m, seen, h1, h2, h3, h4⟩ := h
  exact ⟨h0, b, m, seen, h1, h2, Qk2 (n := n) (.mp mid 0) _ (by simp [lowV, hl]) h3, h4⟩
 | .gh _ _, _, h => h
 | .dead _, _, h => h
 | .hole, _, h => h
theorem Qco.frame {P : Program} {f : FuncId} {args : List V} {hp : List Blk} {R : V → List Blk → Prop} (h : Qco P f args hp R) (hl : ∀ r hp', R r hp' → hp'.length = hp.length) (ha : lowL hp.length args = true) (hb : ∀ b ∈ hp, lowB hp.length b = true) (tl : List Blk) :
  Qco P f args (hp ++ tl) fun r hp2 => ∃ hp', R r hp' ∧ hp2 = hp' ++ tl := by
 intro S w O cargs hm hs hr
 have hO1 : ∀ {id x}, Qbs O hp.length id = some x → id < hp.length ∧ O id = some x := fun h => Qbc h
 have hm1 : Mat S w (Qbs O hp.length) hp := by
  refine ⟨hm.lt, fun id g b ho => hm.own id g b (hO1 ho).2, fun id id' g g' b h1 h2 => hm.inj id id' g g' b (hO1 h1).2 (hO1 h2).2, fun id g ob ho => ?_⟩
  obtain ⟨hlt, ho⟩ := hO1 ho
  have := hm.blk id g ob ho
  rw [Qk hlt, Qb hlt] at this
  rw [Qb hlt]
  exact Qte _ (hb _ (List.getElem_mem hlt)) this
 refine (h S w (Qbs O hp.length) cargs hm1 hs (Qel _ _ ha hr)).mono ?_
 rintro e w' ⟨c, S', O1', r, hp', rfl, hR, hev, hm', hrep⟩
 have hlen := hl r hp' hR
 obtain ⟨O', hO'⟩ : ∃ O' : OInfo, O' = fun id => if id < hp.length then O1' id else O id := ⟨_, rfl⟩
 have h1lt : ∀ {id x}, O1' id = some x → id < hp.length := fun {id x} h => by rw [← hlen]; exact Qfw hm' h
 have e1 : ∀ {id}, id < hp.length → O' id = O1' id := fun h => by rw [hO']; exact if_pos h
 have e2 : ∀ {id}, ¬ id < hp.length → O' id = O id := fun h => by rw [hO']; exact if_neg h
 have htl : ∀ {id g b}, ¬ id < hp.length → O id = some (g, some b) → ¬ Own (Qbs O hp.length) b := by
  rintro id g b hn ho ⟨id2, g2, ho2⟩
  obtain ⟨hlt2, ho2⟩ := hO1 ho2
  have := hm.inj id id2 g g2 b ho ho2
  omega
 have hkeep : ∀ {id g b}, ¬ id < hp.length → O id = some (g, some b) → w'.heap[b]? = w.heap[b]? := fun hn ho => hev.old _ (hm.own _ _ _ ho).1 (htl hn ho)
 have hnS : ∀ {id g b}, ¬ id < hp.length → O id = some (g, some b) → ¬ S' b ∧ ¬ Own O1' b := by
  intro id g b hn ho
  have hlt := (hm.own _ _ _ ho).1
  refine ⟨fun hS => ?_, fun hO => ?_⟩
  ·rcases hev.grow b hS with h | h | h
   ·exact (hm.own _ _ _ ho).2 h
   ·exact htl hn ho h
   ·omega
  ·rcases hev.fresh b hO with h | h
   ·exact htl hn ho h
   ·omega
 have hext : Ext S S' w w' O O' := by
  refine ⟨hev.ext.keep, fun id g ob ho => ?_⟩
  by_cases hid : id < hp.length
  ·obtain ⟨g', ob', k1, k2⟩ := hev.ext.own id g ob (by rw [Qgr hid]; exact ho)
   exact ⟨g', ob', by rw [e1 hid]; exact k1, k2⟩
  ·refine ⟨g, ob, by rw [e2 hid]; exact ho, Qx _, fun _ => ⟨rfl, fun b cur e hb hh => ⟨cur, ?_, rfl⟩⟩⟩
   subst hb
   rw [hkeep hid ho]; exact hh
 have hext1 : Ext S' S' w' w' O1' O' := ⟨fun n hn => ⟨hn, rfl⟩, fun id g ob ho => ⟨g, ob, by rw [e1 (h1lt ho)]; exact ho, Qx _, fun _ => ⟨rfl, fun b cur e _ hh => ⟨cur, hh, rfl⟩⟩⟩⟩
 refine ⟨c, S', O', r, hp' ++ tl, rfl, ⟨hp', hR, rfl⟩, ?_, ?_, Rep.ext hext1 _ _ hrep⟩
 ·refine ⟨hext, hev.os, hev.tape, hev.output, hev.size, hev.fz, fun n hn hno => hev.old n hn fun ⟨id, g, ho⟩ => hno ⟨id, g, (hO1 ho).2⟩, ?_, ?_⟩
  ·rintro n ⟨id, g, ho⟩
   by_cases hid : id < hp.length
   ·rw [e1 hid] at ho
    rcases hev.fresh n ⟨id, g, ho⟩ with ⟨id2, g2, ho2⟩ | h
    ·exact .inl ⟨id2, g2, (hO1 ho2).2⟩
    ·exact .inr h
   ·rw [e2 hid] at ho
    exact .inl ⟨id, g, ho⟩
  ·intro n hn
   rcases hev.grow n hn with h | ⟨id2, g2, ho2⟩ | h
   ·exact .inl h
   ·exact .inr (.inl ⟨id2, g2, (hO1 ho2).2⟩)
   ·exact .inr (.inr h)
 ·refine ⟨hm'.lt, fun id g b ho => ?_, fun id id' g g' b h1 h2 => ?_, fun id g ob ho => ?_⟩
  ·by_cases hid : id < hp.length
   ·rw [e1 hid] at ho; exact hm'.own id g b ho
   ·rw [e2 hid] at ho
    exact ⟨Qd (hm.own id g b ho).1 hev.size, (hnS hid ho).1⟩
  ·by_cases hid : id < hp.length
   ·rw [e1 hid] at h1
    by_cases hid' : id' < hp.length
    ·rw [e1 hid'] at h2; exact hm'.inj id id' g g' b h1 h2
    ·rw [e2 hid'] at h2
     exact absurd ⟨id, g, h1⟩ (hnS hid' h2).2
   ·rw [e2 hid] at h1
    by_cases hid' : id' < hp.length
    ·rw [e1 hid'] at h2
     exact absurd ⟨id', g', h2⟩ (hnS hid h1).2
    ·rw [e2 hid'] at h2; exact hm.inj id id' g g' b h1 h2
  ·by_cases hid : id < hp.length
   ·rw [e1 hid] at ho
    rw [Qk (by rw [hlen]; exact hid)]
    have := hm'.blk id g ob ho
    exact this.ext hext1 fun _ _ => rfl
   ·rw [e2 hid] at ho
    have := hm.blk id g ob ho
    rw [List.getElem?_append_right (by omega)] at this ⊢
    rw [hlen]
    refine this.ext hext fun b hb => ?_
    subst hb
    exact hkeep hid ho
theorem Qvs {P : Program} {f : FuncId} {al : List V → Prop} {α : Type} {eA : α → List V} {eH : α → List Blk} {dec : List V → List Blk → α} {C : α → Prop} {R : α → V → List Blk → Prop} (h : ∀ x, C x → Qi1 P f al (eA x) (eH x) (R x)) (xs : List V) (hp : List Blk) (hc : (hpG eA eH dec C R xs hp).1) :
  Qi1 P f al xs hp (hpG eA eH dec C R xs hp).2 := by
 obtain ⟨h1, h2, h3⟩ := hc
 have := h _ h3
 rw [h1, h2] at this
 exact this
section
variable {P : Program} {F : Fence} {n : Nat} {Γ : Gam} {pu : List Nat}
theorem Qnv (hG : GOk P Γ) (hm : P.follows .mixedOrders = true) {f : FuncId} {fn : Func} {c : Code} {rc : RC} {rs : List RV} (hf : P.funcs[f]? = some fn) (hb : fn.body = some c) {lo : Nat}
  (hc : comp P pu (fn.ntmps, 0) lo 1 rc c = some rc) (hr : Qg8 P fn.results.toList = some rs) {args : List V} (hn : args.length ≤ fn.ntmps) {hp : List Blk} (hlo : hp.length ≤ lo) (hpos : 0 < lo) {R : V → List Blk → Prop}
  (h : wpR Γ (Qau P) rc (endK rs fun σ => R (cutV σ.hp lo (resV σ.hp σ.fr rs)) (cutH lo σ.hp)) ⟨lkp (zipA 0 args), hp⟩) : Qco P f args hp R := by
 intro S w O cargs hmat hsz hrep
 have h0 : ∀ id g b, O id = some (g, some b) → b < w.heap.size := fun id g b h => (hmat.own id g b h).1
 have hl : ∀ id x, O id = some x → id < lo := fun id x h => Qd (Qfw hmat h) hlo
 refine Qdk.calls (n := 0) (callsIn_of_wp_marks hf hb trivial ?_)
 obtain ⟨h1, h2⟩ := Qly hsz hn hrep
 obtain ⟨M, hM⟩ : ∃ M : FrI, M = ⟨fn.ntmps, 0, fun _ => undef, fun _ => False⟩ := ⟨_, rfl⟩
 have hnm : M.nm = (fn.ntmps, 0) := by rw [hM]; rfl
 have hat : At (Ch S w O) M S w O ⟨lkp (zipA 0 args), hp⟩ { tmps := cargs ++ Array.replicate (fn.ntmps - cargs.size) undef, defers := [] } := by
  refine ⟨⟨Evol.refl _ _ _, [], rfl, Qq, fun _ h => by cases h⟩, ⟨by rw [hM]; exact h1, fun t ht => by rw [hM] at ht; exact absurd ht (Q1 _), h2, hmat⟩⟩
 refine Qfh hG hm (M := M) (by rw [hM]; exact fun _ h => h.elim) rc c rc _ 0 lo 1 Qdk (by rw [hnm]; exact hc) (Ch S w O) w.heap.size (Qv9 rfl h0 hl hpos) _ _ _ S w O _ h hat ?_
 intro e σ' S' w' O' a' he hat'
 have fin : (rvs σ'.hp σ'.fr rs ∧ R (cutV σ'.hp lo (resV σ'.hp σ'.fr rs)) (cutH lo σ'.hp)) → LeavesInM Fence.wide 0 P fn a'.tmps (fun e w' => ∃ c S' O' r hp', e = .returned c ∧ R r hp' ∧ Evol S S' w w' O O' ∧ Mat S' w' O' hp' ∧ Rep S' w' O' r c) a'.defers .returning w' := by
  rintro ⟨k1, k2⟩
  obtain ⟨ev, Ds, e1, e2, e3⟩ := hat'.ctx
  rw [e1]
  exact Qf9 hr h0 k1 (fun w2 c hev hmat hrp => ⟨c, _, _, _, _, rfl, k2, hev.cut0 lo hl, Qi2 hmat lo, Qh3 hmat lo _ _ hrp⟩) Ds w' e2 e3 ev hat'.sr
 cases e <;> first | exact fin he | exact he.elim
end
end Go.Fam
