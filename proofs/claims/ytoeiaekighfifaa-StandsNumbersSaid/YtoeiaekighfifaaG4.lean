import Derived.Test.YtoeiaekighfifaaG3
import Derived.ProofKit
import Derived.OpenShut
import Derived.Laws.StructEq
import Derived.Shelf.Sort.Plain
import Derived.Shelf.Slices.CompactI
set_option linter.all false
open List renaming map_cons → Qa, getElem?_eq_getElem → Qb, getElem?_map → Qc, take_append_drop → Qf, getElem?_eq_none → Qg, drop_eq_nil_iff → Qh, mem_of_getElem? → Qi, eq_nil_of_length_eq_zero → Qj, mem_append → Qk, find?_cons → Ql, nodup_cons → Qm, map_congr_left → Qn, replicate → Qo, length_append → Qp, getElem?_take → Qq, getElem?_append_left → Qr, ext_getElem? → Qs, mem_cons → Qu, idxOf_lt_length_iff → Qv, getElem?_set_self → Qy, drop_drop → Qz, take_succ_cons → Q0, count_eq_zero → Q1, mem_map → Q2, length_cons → Q4, length_map → Q7, idxOf_cons → Q9, nodup_nil → Za
open Nat renaming lt_of_lt_of_le → Qe, le_refl → Qt, zero_le → Q5
open Bool renaming false_eq_true → Qd, and_eq_true → Q3, eq_iff_iff → Q6
open Option renaming bind_eq_some_iff → Qw, map_eq_some_iff → Qx, map_some → Q8
namespace Go.Fam
theorem Qa1 (fr : List (Nat × V)) (d : Nat) (v : V) : upd (lkp fr) (some d) v = lkp ((d, v) :: fr) := rfl
theorem Qbn (fr : Nat → V) (v : V) : upd fr none v = fr := rfl
theorem Qa0 (fr : List (Nat × V)) (d t : Nat) (v : V) : lkp ((d, v) :: fr) t = if t = d then v else lkp fr t := rfl
theorem Qa3 (t : Nat) : lkp [] t = .u := rfl
theorem vw_i (hp : List Blk) (n : Nat) (x : Int) : vw hp (n + 1) (.i x) = .i x := rfl
theorem vw_b (hp : List Blk) (n : Nat) (x : Bool) : vw hp (n + 1) (.b x) = .b x := rfl
theorem vw_z (hp : List Blk) (n : Nat) (e : Nat) : vw hp (n + 1) (.z e) = .sl e [] := rfl
theorem Qam (hp : List Blk) (n : Nat) (e : Nat) (r : List (List V)) : vw hp (n + 1) (.sl e r) = .sl e r := rfl
theorem Qhu (hp : List Blk) (n : Nat) (r : List V) : vw hp (n + 1) (.pa r) = .pa r := rfl
theorem Qau (hp : List Blk) (n : Nat) (r : List V) : vw hp (n + 1) (.ag r) = .ag (r.map (vw hp n)) := rfl
theorem Qd5 (hp : List Blk) (n : Nat) (r : List V) : vw hp (n + 1) (.tp r) = .tp (r.map (vw hp n)) := rfl
theorem Qj5 (hp : List Blk) (n f : Nat) (r : List V) : vw hp (n + 1) (.fn f r) = .fn f (r.map (vw hp n)) := rfl
theorem Qkz (hp : List Blk) (n id g off : Nat) : vw hp (n + 1) (.ad id g off) = match hp[id]? with
   | some (.cells g' vs) => if g' = g then .pa ((vs.drop off).map (vw hp n)) else .u
   | _ => .u := rfl
theorem Qe8 (hp : List Blk) (n id g off len es : Nat) : vw hp (n + 1) (.rf id g off len es) = match hp[id]? with
   | some (.cells g' vs) => if g' = g ∧ off + len * es ≤ vs.length then .sl es ((Qcj es vs off len).map fun r => r.map (vw hp n)) else .u
   | _ => .u := rfl
section
variable {Γ : Gam} {E : TypeId → Nat → Prop} {g : Bool} {base : Nat}
theorem Qa7 (σ : St) (K : St → Prop) : runR Γ E g base [] σ K = K σ := rfl
theorem Qa2 (o : RO) (l : List RO) (σ : St) (K : St → Prop) : runR Γ E g base (o :: l) σ K = ((step Γ E g base o σ).1 ∧ runR Γ E g base l (step Γ E g base o σ).2 K) := rfl
variable {Q : Exit → St → Prop} {σ : St}
theorem Qag : wpR Γ E .skip Q σ = Q .normal σ := rfl
theorem Qa9 (l : List RO) : wpR Γ E (.reg g l) Q σ = runR Γ E g 0 l σ (Q .normal) := rfl
theorem Qbo (m : Nat) (l : List AnyOp) : wpR Γ E (.any g m l) Q σ = runX Γ E g σ.hp.length l [] ⟨σ.fr, σ.hp ++ Qo m .hole⟩ (Q .normal) := rfl
theorem Qa8 (a b : RC) : wpR Γ E (.seq a b) Q σ = wpR Γ E a (Qae (wpR Γ E b Q) Q) σ := rfl
theorem Qu7 (c : Od) (a b : RC) : wpR Γ E (.cond c a b) Q σ = match evO σ.fr c with
  | .b t => (t = true → wpR Γ E a Q σ) ∧ (t = false → wpR Γ E b Q σ)
  | _ => False := rfl
theorem Qac (c : Od) (a b : RC) : wpR Γ E (.cond c a b) Q σ = match evO σ.fr c with
  | .b t => if t = true then wpR Γ E a Q σ else wpR Γ E b Q σ
  | _ => False := by
 rw [Qu7]
 cases evO σ.fr c <;> try rfl
 rename_i t
 cases t <;> simp
theorem Qad (id : Nat) (a : RC) : wpR Γ E (.block id a) Q σ = wpR Γ E a (Qaj id Q) σ := rfl
theorem Qb1 (id : Nat) : wpR Γ E (.exit id) Q σ = Q (.exit id) σ := rfl
theorem Qah : wpR Γ E .ret Q σ = Q .ret σ := rfl
theorem Qa6 (l : List Nat) (a : RC) : wpR Γ E (.keep l a) Q σ = wpR Γ E a Q ⟨lkp (l.map fun t => (t, σ.fr t)), σ.hp⟩ := rfl
theorem Qcb (n : Nat) (a : RC) : wpR Γ E (.drp n a) Q σ = wpR Γ E a Q ⟨fun t => cutV σ.hp n (σ.fr t), cutH n σ.hp⟩ := rfl
theorem Qgq (t es : Nat) (a : RC) : wpR Γ E (.own t es a) Q σ = match σ.fr t with
  | .z _ => wpR Γ E a Q ⟨upd σ.fr (some t) (.rf σ.hp.length 0 0 0 es), σ.hp ++ [.cells 0 []]⟩
  | _ => False := rfl
theorem Qu8 (t es gs : Nat) (a : RC) : wpR Γ E (.owng t es gs a) Q σ = match σ.fr t with
  | .z _ => wpR Γ E a Q ⟨upd σ.fr (some t) (.rf σ.hp.length gs 0 0 es), σ.hp ++ [.cells gs []]⟩
  | _ => False := rfl
theorem Qmu (t off es : Nat) (a : RC) : wpR Γ E (.ownc t off es a) Q σ = match σ.fr t with
  | .ad id g o => match σ.hp[id]? with
   | some (.cells g' vs) => match vs[o + off]? with
    | some (.z _) => g' = g ∧ wpR Γ E a Q ⟨σ.fr, σ.hp.set id (.cells g (vs.set (o + off) (.rf σ.hp.length 0 0 0 es))) ++ [.cells 0 []]⟩
    | _ => False
   | _ => False
  | _ => False := rfl
theorem Qx6 (d m it : Nat) : wpR Γ E (.nxt d m it) Q σ = match σ.fr it with
  | .it id g => match σ.hp[id]? with
   | some (.iter mid n left _) => match σ.hp[mid]? with
    | some (.map _ ks _) => g = 0 ∧ ks.length = n ∧ (left = [] → Q .normal ⟨upd (upd σ.fr (some d) .u) (some m) (.b false), σ.hp⟩) ∧
      ∀ j ∈ left, Q .normal ⟨upd (upd σ.fr (some d) .u) (some m) (.b true), σ.hp.set id (.iter mid n (left.erase j) (some j))⟩
    | _ => False
   | _ => False
  | _ => False := rfl
theorem Qo4 (l1 : List RO) (y : RO) (l2 : List RO) : wpR Γ E (.hcl g l1 y l2) Q σ = runR Γ E g 0 l1 σ fun σ1 => match y.x with
  | .o f args => match opv g σ1.fr f with
   | .fn gf caps => Qb6 g y σ1.fr ∧ (Γ.h gf (args.map (opv g σ1.fr) ++ caps) σ1.hp).1 ∧
     ∀ r hp', (Γ.h gf (args.map (opv g σ1.fr) ++ caps) σ1.hp).2 r hp' → runR Γ E g 0 l2 ⟨upd σ1.fr y.dst r, hp'⟩ (Q .normal)
   | _ => False
  | _ => False := rfl
theorem Qx7 (l1 : List RO) (y : RO) (l2 : List RO) : wpR Γ E (.rnl g l1 y l2) Q σ = runR Γ E g 0 l1 σ fun σ1 => match y.x with
  | .q (.len a) => match opv g σ1.fr a with
   | .sl _ rows => Qb6 g y σ1.fr ∧ ∀ b, (rows ≠ [] → b = false) → runR Γ E g 0 l2 ⟨upd σ1.fr y.dst (.b b), σ1.hp⟩ (Q .normal)
   | .z _ => Qb6 g y σ1.fr ∧ ∀ b, runR Γ E g 0 l2 ⟨upd σ1.fr y.dst (.b b), σ1.hp⟩ (Q .normal)
   | _ => False
  | _ => False := rfl
theorem Qqx (l : List It) : wpR Γ E (.itm l) Q σ = runI Γ E l σ (Q .normal) := rfl
theorem Qks (K : St → Prop) : runI Γ E [] σ K = K σ := rfl
theorem Qqz (o : RO) (l : List It) (K : St → Prop) : runI Γ E (.r o :: l) σ K = ((step Γ E true 0 o σ).1 ∧ runI Γ E l (step Γ E true 0 o σ).2 K) := rfl
theorem Qo7 (o : RO) (l : List It) (K : St → Prop) : runI Γ E (.w o :: l) σ K = match Qat σ.fr o.gd with
  | none => False
  | some false => runI Γ E l ⟨upd σ.fr o.dst (.gv false .u), σ.hp⟩ K
  | some true => (step Γ E true 0 o σ).1 ∧ runI Γ E l (step Γ E true 0 o σ).2 K := rfl
theorem Qo6 (o : RO) (l : List It) (K : St → Prop) : runI Γ E (.h o :: l) σ K = match Qat σ.fr o.gd with
  | none => False
  | some false => runI Γ E l ⟨upd σ.fr o.dst (.gv false .u), σ.hp⟩ K
  | some true => match o.x with
   | .o f args => match opv true σ.fr f with
    | .fn gf caps => Qb6 true o σ.fr ∧ (Γ.h gf (args.map (opv true σ.fr) ++ caps) σ.hp).1 ∧
      ∀ r hp', (Γ.h gf (args.map (opv true σ.fr) ++ caps) σ.hp).2 r hp' → runI Γ E l ⟨upd σ.fr o.dst r, hp'⟩ K
    | _ => False
   | _ => False := rfl
theorem Qo5 (a : RC) : wpR Γ E (.scp a) Q σ = wpR Γ E a (noGo Q) σ := rfl
theorem Qbq (hp : List Blk) (n : Nat) : ∀ L : List (Nat × V), (fun t => cutV hp n (lkp L t)) = lkp (L.map fun p => (p.1, cutV hp n p.2))
 | [] => by funext t; simp [lkp, cutV]
 | (k, v) :: L => by
  funext t
  have := congrFun (Qbq hp n L) t
  simp only [lkp, Qa]
  split
  ·rfl
  ·exact this
theorem Qhd {l : List Nat} {d : Option Nat} {a : RC} (I : Nat → St → Prop) (h0 : ∃ k, I k (kp l d σ)) (h : ∀ k σ', I k σ' → wpR Γ E a (Qae (fun σ'' => ∃ j, j < k ∧ I j (kp l d σ'')) Q) σ') :
  wpR Γ E (.loop l d a) Q σ := ⟨I, h0, h⟩
theorem Qbt {K K' : St → Prop} (hK : ∀ σ, K σ → K' σ) : ∀ (l : List RO) (σ : St), runR Γ E g base l σ K → runR Γ E g base l σ K'
 | [], σ, h => hK σ h
 | _ :: l, _, h => ⟨h.1, Qbt hK l _ h.2⟩
theorem Qgr {K K' : St → Prop} (hK : ∀ σ, K σ → K' σ) : ∀ (l : List AnyOp) (ds : List FP) (σ : St), runX Γ E g base l ds σ K → runX Γ E g base l ds σ K'
 | [], _, σ, h => hK σ h
 | _ :: l, _, _, h => ⟨h.1, h.2.1, Qgr hK l _ _ h.2.2⟩
theorem Qe3 {K K' : St → Prop} (hK : ∀ σ, K σ → K' σ) : ∀ (l : List It) (σ : St), runI Γ E l σ K → runI Γ E l σ K'
 | [], σ, h => hK σ h
 | .r _ :: l, _, h => ⟨h.1, Qe3 hK l _ h.2⟩
 | .w o :: l, σ, h => by
  rw [Qo7] at h ⊢
  split
  ·rename_i hc; rw [hc] at h; exact h
  ·rename_i hc; rw [hc] at h; exact Qe3 hK l _ h
  ·rename_i hc; rw [hc] at h; exact ⟨h.1, Qe3 hK l _ h.2⟩
 | .h o :: l, σ, h => by
  rw [Qo6] at h ⊢
  split
  ·rename_i hc; rw [hc] at h; exact h
  ·rename_i hc; rw [hc] at h; exact Qe3 hK l _ h
  ·rename_i hc; rw [hc] at h
   simp only at h ⊢
   split at h
   ·split at h
    ·exact ⟨h.1, h.2.1, fun r hp' hr => Qe3 hK l _ (h.2.2 r hp' hr)⟩
    ·exact h.elim
   ·exact h.elim
theorem Qel : ∀ (r : RC) (Q Q' : Exit → St → Prop) (σ : St), (∀ e σ, Q e σ → Q' e σ) → wpR Γ E r Q σ → wpR Γ E r Q' σ := by
  intro r
  induction r with
  | skip => intro Q Q' σ h hw; exact h _ _ hw
  | no => intro Q Q' σ h hw; exact hw.elim
  | reg g l => intro Q Q' σ h hw; exact Qbt (h _) l σ hw
  | any g m l => intro Q Q' σ h hw; exact Qgr (h _) l [] _ hw
  | seq a b iha ihb =>
    intro Q Q' σ h hw
    refine iha _ _ σ (fun e σ' he => ?_) hw
    cases e <;> first | exact h _ _ he | exact ihb _ _ _ h he
  | mid a b iha ihb =>
    intro Q Q' σ h hw
    obtain ⟨M, h1, h2⟩ := hw
    refine ⟨M, iha _ _ σ (fun e σ' he => ?_) h1, fun σ' hM => ihb _ _ _ h (h2 σ' hM)⟩
    cases e <;> first | exact h _ _ he | exact he
  | cond c a b iha ihb =>
    intro Q Q' σ h hw
    simp only [wpR] at hw ⊢
    cases hc : evO σ.fr c <;> simp only [hc] at hw ⊢ <;> try exact hw
    exact ⟨fun ht => iha _ _ _ h (hw.1 ht), fun ht => ihb _ _ _ h (hw.2 ht)⟩
  | block id a iha =>
    intro Q Q' σ h hw
    refine iha _ _ σ (fun e σ' he => ?_) hw
    cases e <;> first | exact h _ _ he | skip
    simp only [Qaj] at he ⊢
    split
    · rename_i hi; rw [if_pos hi] at he; exact h _ _ he
    · rename_i hi; rw [if_neg hi] at he; exact h _ _ he
  | loop l d a iha =>
    intro Q Q' σ h hw
    obtain ⟨I, h0, h1⟩ := hw
    refine ⟨I, h0, fun k σ' hI => iha _ _ σ' (fun e σ'' he => ?_) (h1 k σ' hI)⟩
    cases e <;> first | exact h _ _ he | exact he
  | exit id => intro Q Q' σ h hw; exact h _ _ hw
  | ret => intro Q Q' σ h hw; exact h _ _ hw
  | keep l a iha => intro Q Q' σ h hw; exact iha _ _ _ h hw
  | drp n a iha => intro Q Q' σ h hw; exact iha _ _ _ h hw
  | own t es a iha =>
    intro Q Q' σ h hw
    simp only [wpR] at hw ⊢
    cases ht : σ.fr t <;> simp only [ht] at hw ⊢ <;> try exact hw
    exact iha _ _ _ h hw
  | owng t es gs a iha =>
    intro Q Q' σ h hw
    simp only [wpR] at hw ⊢
    cases ht : σ.fr t <;> simp only [ht] at hw ⊢ <;> try exact hw
    exact iha _ _ _ h hw
  | ownc t off es a iha =>
    intro Q Q' σ h hw
    simp only [wpR] at hw ⊢
    cases ht : σ.fr t <;> simp only [ht] at hw ⊢ <;> try exact hw
    case ad id g o =>
      cases hid : σ.hp[id]? with
      | none => simp [hid] at hw
      | some bk =>
        cases bk <;> simp only [hid] at hw ⊢ <;> try exact hw
        case cells g' vs =>
          cases hv : vs[o + off]? with
          | none => simp [hv] at hw
          | some v => cases v <;> simp only [hv] at hw ⊢ <;> first | exact hw | exact ⟨hw.1, iha _ _ _ h hw.2⟩
  | owni t i off es a iha =>
    intro Q Q' σ h hw
    simp only [wpR] at hw ⊢
    cases ht : σ.fr t <;> simp only [ht] at hw ⊢ <;> try exact hw
    case rf id g o len es' =>
     cases hi : σ.fr i <;> simp only [hi] at hw ⊢ <;> try exact hw
     case i k =>
      cases hid : σ.hp[id]? with
      | none => simp [hid] at hw
      | some bk =>
        cases bk <;> simp only [hid] at hw ⊢ <;> try exact hw
        case cells g' vs =>
          cases hv : vs[o + k.toNat * es' + off]? with
          | none => simp [hv] at hw
          | some v => cases v <;> simp only [hv] at hw ⊢ <;> first | exact hw | exact ⟨hw.1, iha _ _ _ h hw.2⟩
  | swp i j a iha => intro Q Q' σ h hw; exact ⟨hw.1, hw.2.1, iha _ _ _ h hw.2.2⟩
  | nxt d m it =>
    intro Q Q' σ h hw
    simp only [wpR] at hw ⊢
    cases ht : σ.fr it <;> simp only [ht] at hw ⊢ <;> try exact hw
    case it id g =>
      cases hid : σ.hp[id]? with
      | none => simp [hid] at hw
      | some bk =>
        cases bk <;> simp only [hid] at hw ⊢ <;> try exact hw
        case iter mid n left cur =>
          cases hm : σ.hp[mid]? with
          | none => simp [hm] at hw
          | some bk2 =>
            cases bk2 <;> simp only [hm] at hw ⊢ <;> try exact hw
            case map st ks vs => exact ⟨hw.1, hw.2.1, fun hl => h _ _ (hw.2.2.1 hl), fun j hj => h _ _ (hw.2.2.2 j hj)⟩
  | rfn f ps lo b a ihb iha =>
    intro Q Q' σ h hw
    simp only [wpR] at hw ⊢
    split at hw
    · rename_i gf caps hf
      split at hw
      · rename_i ok ys hΓ
        obtain ⟨h1, h2, h3, h4, I, h5, h6, h7⟩ := hw
        refine ⟨h1, h2, h3, h4, I, h5, fun k x hp hx hI => ihb _ _ _ (fun e σ' he => ?_) (h6 k x hp hx hI), fun hp hI => h _ _ (h7 hp hI)⟩
        cases e <;> first | exact he | skip
        refine iha _ _ _ (fun e σ'' he' => ?_) he
        cases e <;> first | exact he' | exact h _ _ he'
      · exact hw
    · exact hw
  | yrg g l1 y ks l2 =>
    intro Q Q' σ h hw
    refine Qbt (fun σ1 hw => ?_) l1 σ hw
    split at hw
    · exact hw.elim
    · exact Qbt (h _) l2 _ hw
    · split at hw
      · split at hw
        · exact ⟨hw.1, hw.2.1, hw.2.2.1, hw.2.2.2.1, hw.2.2.2.2.1, fun b => Qbt (h _) l2 _ (hw.2.2.2.2.2 b)⟩
        · exact hw.elim
      · exact hw.elim
  | hcl g l1 y l2 =>
    intro Q Q' σ h hw
    refine Qbt (fun σ1 hw => ?_) l1 σ hw
    split at hw
    · split at hw
      · exact ⟨hw.1, hw.2.1, fun r bs hR => Qbt (h _) l2 _ (hw.2.2 r bs hR)⟩
      · exact hw.elim
    · exact hw.elim
  | hca g m1 l1 y m2 l2 =>
    intro Q Q' σ h hw
    refine Qgr (fun σ1 hw => ?_) l1 _ _ hw
    split at hw
    · split at hw
      · exact ⟨hw.1, hw.2.1, fun r bs hR => Qgr (h _) l2 _ _ (hw.2.2 r bs hR)⟩
      · exact hw.elim
    · exact hw.elim
  | crl g l1 y l2 =>
    intro Q Q' σ h hw
    refine Qbt (fun σ1 hw => ?_) l1 σ hw
    split at hw
    · split at hw
      · exact ⟨hw.1, hw.2.1, hw.2.2.1, hw.2.2.2.1, fun r bs hR => Qbt (h _) l2 _ (hw.2.2.2.2 r bs hR)⟩
      · exact hw.elim
    · exact hw.elim
  | scp a iha =>
    intro Q Q' σ h hw
    refine iha _ _ σ (fun e σ' he => ?_) hw
    cases e <;> first | exact he | exact h _ _ he
  | dum a iha => intro Q Q' σ h hw; exact iha _ _ _ h hw
  | itm l => intro Q Q' σ h hw; exact Qe3 (h _) l σ hw
  | rnl g l1 y l2 =>
    intro Q Q' σ h hw
    refine Qbt (fun σ1 hw => ?_) l1 σ hw
    split at hw
    · split at hw
      · exact ⟨hw.1, fun b hb => Qbt (h _) l2 _ (hw.2 b hb)⟩
      · exact ⟨hw.1, fun b => Qbt (h _) l2 _ (hw.2 b)⟩
      · exact hw.elim
    · exact hw.elim
  | yrh g l1 y l2 =>
    intro Q Q' σ h hw
    refine Qbt (fun σ1 hw => ?_) l1 σ hw
    split at hw
    · exact hw.elim
    · exact Qbt (h _) l2 _ hw
    · split at hw
      · split at hw
        · exact ⟨hw.1, hw.2.1, hw.2.2.1, hw.2.2.2.1, fun b bv' hb => Qbt (h _) l2 _ (hw.2.2.2.2 b bv' hb)⟩
        · exact hw.elim
      · exact hw.elim
  | ycl lo g l1 y l2 =>
    intro Q Q' σ h hw
    refine Qbt (fun σ1 hw => ?_) l1 σ hw
    split at hw
    · split at hw
      · exact ⟨hw.1, hw.2.1, hw.2.2.1, fun r bs hR => Qbt (h _) l2 _ (hw.2.2.2 r bs hR)⟩
      · exact hw.elim
    · exact hw.elim
  | rfh f ps lo zl b a ihb iha =>
    intro Q Q' σ h hw
    simp only [wpR] at hw ⊢
    split at hw
    · rename_i gf caps hf
      obtain ⟨al, ys, bv0, I, h1, h2, h3, h4, h5, h6, h7⟩ := hw
      refine ⟨al, ys, bv0, I, h1, h2, h3, h4, h5, fun k x z bv hx hI => ⟨(h6 k x z bv hx hI).1, (h6 k x z bv hx hI).2.1, ihb _ _ _ (fun e σ' he => ?_) (h6 k x z bv hx hI).2.2⟩, fun bv hI => h _ _ (h7 bv hI)⟩
      cases e <;> first | exact he | skip
      refine iha _ _ _ (fun e σ'' he' => ?_) he
      cases e <;> first | exact he' | skip
      obtain ⟨bv', a1, a2, a3, a4⟩ := he'
      exact ⟨bv', a1, a2, a3, h _ _ a4⟩
    · exact hw
def Qja (n : Nat) (pre : List Nat) : List Nat := (List.range n).filter fun k => !pre.contains k
theorem Qq6 (n : Nat) : Qja n [] = List.range n := by simp [Qja]
theorem Qiq {n : Nat} {pre : List Nat} {j : Nat} : j ∈ Qja n pre ↔ j < n ∧ j ∉ pre := by simp [Qja]
theorem Qip {n : Nat} {pre : List Nat} {j : Nat} (h : j ∈ Qja n pre) : (Qja n pre).erase j = Qja n (pre ++ [j]) := by
 unfold Qja
 rw [List.Nodup.erase_eq_filter (List.Nodup.sublist List.filter_sublist List.nodup_range), List.filter_filter]
 apply List.filter_congr
 intro x _
 simp only [List.contains_append, Bool.not_or]
 rw [Bool.and_comm]
 congr 1
 simp
 rw [Q6]
 simp
theorem Qf1 {n : Nat} {pre : List Nat} (hnd : pre.Nodup) (hlt : ∀ j ∈ pre, j < n) : pre.length ≤ n := by
 induction n generalizing pre with
 | zero => cases pre with | nil => simp | cons j l => have := hlt j (by simp); omega
 | succ n ih =>
  by_cases hn : n ∈ pre
  ·have h1 := List.length_erase_of_mem hn
   have h2 := ih (pre := pre.erase n) (hnd.erase n) fun j hj => by
    rw [hnd.mem_erase_iff] at hj
    have := hlt j hj.2
    have := hj.1
    omega
   have := List.length_pos_of_mem hn
   omega
  ·have h2 := ih (pre := pre) hnd fun j hj => by
    have := hlt j hj
    have : j ≠ n := by rintro rfl; exact hn hj
    omega
   omega
theorem Qc2 {l : List Nat} {d : Option Nat} {a : RC} (n : Nat) (S : Nat → St) (h0 : kp l d σ = S 0) (hs : ∀ i, i < n → wpR Γ E a (Qae (fun σ'' => kp l d σ'' = S (i + 1)) Q) (S i))
  (he : wpR Γ E a (Qae (fun _ => False) Q) (S n)) : wpR Γ E (.loop l d a) Q σ := by
 refine Qhd (fun k σ => ∃ i, i ≤ n ∧ k = n - i ∧ σ = S i) ⟨n, 0, Q5 _, rfl, h0⟩ ?_
 rintro k _ ⟨i, hi, rfl, rfl⟩
 by_cases h : i < n
 ·refine Qel _ _ _ _ (fun e σ he => ?_) (hs i h)
  cases e <;> first | exact he | skip
  exact ⟨n - (i + 1), by omega, i + 1, h, rfl, he⟩
 ·have : i = n := by omega
  subst this
  refine Qel _ _ _ _ (fun e σ he => ?_) he
  cases e <;> first | exact he | exact he.elim
theorem Qbs {l : List Nat} {d : Option Nat} {a : RC} (n : Nat) (S : Nat → St) (C : Nat → Prop) (h0 : kp l d σ = S 0) (c0 : C 0) (hs : ∀ i, i < n → C i → wpR Γ E a (Qae (fun σ'' => C (i + 1) ∧ kp l d σ'' = S (i + 1)) Q) (S i))
  (he : C n → wpR Γ E a (Qae (fun _ => False) Q) (S n)) : wpR Γ E (.loop l d a) Q σ := by
 refine Qhd (fun k σ => ∃ i, i ≤ n ∧ k = n - i ∧ C i ∧ σ = S i) ⟨n, 0, Q5 _, rfl, c0, h0⟩ ?_
 rintro k _ ⟨i, hi, rfl, hc, rfl⟩
 by_cases h : i < n
 ·refine Qel _ _ _ _ (fun e σ he => ?_) (hs i h hc)
  cases e <;> first | exact he | skip
  exact ⟨n - (i + 1), by omega, i + 1, h, rfl, he.1, he.2⟩
 ·have : i = n := by omega
  subst this
  refine Qel _ _ _ _ (fun e σ he => ?_) (he hc)
  cases e <;> first | exact he | exact he.elim
end
theorem Qck (es : Nat) (vs : List V) : Qcj es vs 0 1 = [vs.take es] := by simp [Qcj]
theorem Qj9 (p A B : Prop) [Decidable p] : (if p then A else B) = ((p → A) ∧ (¬ p → B)) := by by_cases h : p <;> simp [h]
theorem Qol (p : Prop) [Decidable p] (x : Bool) : (if p then x else false) = (decide p && x) := by by_cases h : p <;> simp [h]
end Go.Fam
namespace Go.Fam
open Go.ChangeShapes Go.WideShapes Go.ChangeAt Go.RowKit
variable {P : Program} {W : World} {H : Type} {enc : TypeId × Value → H} {α β : Type}
def Qjd (W : World) : Nat → Prop := fun n => n < W.heap.size
def Rd (enc : TypeId × Value → H) (P : Program) (W : World) (t : TypeId) (e : α → List V) (ok : α → Prop) : Prop :=
 ∀ fuel (cs : List Value) d ps, DataW.trod enc P W 0 (fun _ => true) true fuel t cs = some (d, ps) → ∃ a, ok a ∧ (e a).length = cs.length ∧ RepL (Qjd W) W noO (e a) cs ∧ ∀ c ∈ cs, c.oneCell' = true
theorem Rd.map {t : TypeId} {e : α → List V} {ok : α → Prop} (h : Rd enc P W t e ok) {e' : β → List V} {ok' : β → Prop} (g : α → β) (he : ∀ a, e' (g a) = e a) (hok : ∀ a, ok a → ok' (g a)) : Rd enc P W t e' ok' := by
 intro fuel cs d ps hd
 obtain ⟨a, h1, h2, h3, h4⟩ := h fuel cs d ps hd
 exact ⟨g a, hok a h1, by rw [he]; exact h2, by rw [he]; exact h3, h4⟩
theorem Qx4 {t : TypeId} (hu : P.underlying t = some (.int .i64)) : Rd enc P W t (fun n : Int => [.i n]) inI := by
 intro fuel cs d ps h
 cases fuel with
 | zero => simp [DataW.trod] at h
 | succ fuel =>
  unfold DataW.trod at h
  split at h <;> rename_i heq <;> (try rw [hu] at heq) <;> first | (cases heq; done) | skip
  ·cases heq
   rename_i k' n
   split at h
   ·rename_i hk
    obtain ⟨rfl, hw⟩ := hk
    refine ⟨n, ?_, rfl, by simp [RepL, Rep], by simp [Value.oneCell']⟩
    simp [Lit.wf, IntKind.min, IntKind.max, IntKind.signed, IntKind.bits] at hw
    unfold inI
    omega
   ·cases h
  ·cases h
theorem Qqm {t : TypeId} {fs : Array Field} (hu : P.underlying t = some (.struct fs)) {e : α → List V} {ok : α → Prop}
  (hf : ∀ fuel (cs : List Value) xs, cs.length = P.cellsOf t → (fs.toList.mapM fun f => DataW.trod enc P W 0 (fun _ => true) true fuel f.type ((cs.drop f.offset).take (P.cellsOf f.type))) = some xs →
   ∃ a, ok a ∧ (e a).length = cs.length ∧ RepL (Qjd W) W noO (e a) cs ∧ ∀ c ∈ cs, c.oneCell' = true) : Rd enc P W t e ok := by
 intro fuel cs d ps h
 cases fuel with
 | zero => simp [DataW.trod] at h
 | succ fuel =>
  unfold DataW.trod at h
  split at h <;> rename_i heq <;> (try rw [hu] at heq) <;> first | (cases heq; done) | skip
  ·cases heq
   split at h
   ·rename_i hl
    simp only [Qx] at h
    obtain ⟨xs, hx, _⟩ := h
    exact hf fuel _ xs hl hx
   ·cases h
  ·cases h
def RdF (enc : TypeId × Value → H) (P : Program) (W : World) (n : Nat) (fs : List Field) (off : Nat) (e : α → List V) (ok : α → Prop) : Prop :=
 ∀ fuel (cs : List Value) xs, cs.length = n → (fs.mapM fun f => DataW.trod enc P W 0 (fun _ => true) true fuel f.type ((cs.drop f.offset).take (P.cellsOf f.type))) = some xs →
  ∃ a, ok a ∧ (e a).length = (cs.drop off).length ∧ RepL (Qjd W) W noO (e a) (cs.drop off) ∧ ∀ c ∈ cs.drop off, c.oneCell' = true
theorem Qu2 {n off : Nat} (h : n ≤ off) : RdF enc P W n [] off (fun _ : Unit => []) (fun _ => True) := by
 intro fuel cs xs hl _
 have : cs.drop off = [] := by rw [Qh]; omega
 exact ⟨(), trivial, by rw [this]; rfl, by simp [RepL], by rw [this]; simp⟩
theorem Qrz {n off k : Nat} {f : Field} {fs : List Field} {e1 : α → List V} {ok1 : α → Prop} {e2 : β → List V} {ok2 : β → Prop} (h1 : f.offset = off) (h2 : P.cellsOf f.type = k) (hr : Rd enc P W f.type e1 ok1)
  (hs : RdF enc P W n fs (off + k) e2 ok2) : RdF enc P W n (f :: fs) off (fun p : α × β => e1 p.1 ++ e2 p.2) (fun p => ok1 p.1 ∧ ok2 p.2) := by
 intro fuel cs xs hl h
 rw [List.mapM_cons] at h
 cases hx : DataW.trod enc P W 0 (fun _ => true) true fuel f.type ((cs.drop f.offset).take (P.cellsOf f.type)) with
 | none => simp [hx] at h
 | some x =>
  cases hxs : fs.mapM (fun f => DataW.trod enc P W 0 (fun _ => true) true fuel f.type ((cs.drop f.offset).take (P.cellsOf f.type))) with
  | none => simp [hx, hxs] at h
  | some ys =>
   rw [h1, h2] at hx
   obtain ⟨a, a1, a2, a3, a4⟩ := hr fuel _ x.1 x.2 hx
   obtain ⟨b, b1, b2, b3, b4⟩ := hs fuel cs ys hl hxs
   have e : cs.drop off = (cs.drop off).take k ++ cs.drop (off + k) := by rw [← Qz, Qf]
   refine ⟨(a, b), ⟨a1, b1⟩, ?_, ?_, ?_⟩
   ·rw [e, Qp, Qp, a2, b2]
   ·rw [e]; exact RepL.append _ _ _ _ a3 a2.symm b3
   ·rw [e]
    intro c hc
    rcases Qk.1 hc with hc | hc
    ·exact a4 c hc
    ·exact b4 c hc
theorem RdF.rd {t : TypeId} {fs : Array Field} (hu : P.underlying t = some (.struct fs)) {e : α → List V} {ok : α → Prop} (h : RdF enc P W (P.cellsOf t) fs.toList 0 e ok) : Rd enc P W t e ok :=
 Qqm hu fun fuel cs xs hl hx => by simpa using h fuel cs xs hl hx
theorem Qqv {es : Nat} {e : α → List V} {ok : α → Prop} {cur : List Value} : ∀ (len off : Nat), (∀ i, i < len → ∃ x, ok x ∧ (e x).length = es ∧ (∀ c ∈ (cur.drop (off + i * es)).take es, c.oneCell' = true) ∧ RepL (Qjd W) W noO (e x) (cur.drop (off + i * es))) →
  ∃ l : List α, l.length = len ∧ (∀ x ∈ l, ok x) ∧ Qb3 (Qjd W) W es (l.map e) (cur.drop off)
 | 0, _, _ => ⟨[], rfl, by simp, by simp [Qb3]⟩
 | len + 1, off, h => by
  obtain ⟨x, x1, x2, x3, x4⟩ := h 0 (by omega)
  obtain ⟨l, l1, l2, l3⟩ := Qqv len (off + es) fun i hi => by
   have := h (i + 1) (by omega)
   rwa [Nat.succ_mul, show off + (i * es + es) = off + es + i * es by omega] at this
  simp only [Nat.zero_mul, Nat.add_zero] at x3 x4
  refine ⟨x :: l, by simp [l1], ?_, ?_⟩
  ·intro y hy
   rcases Qu.1 hy with rfl | hy
   ·exact x1
   ·exact l2 y hy
  ·simp only [Qa, Qb3]
   exact ⟨⟨x2, x3⟩, x4, by rw [Qz]; exact l3⟩
theorem Qnw {t el : TypeId} {es : Nat} {e : α → List V} {ok : α → Prop} (hu : P.underlying t = some (.slice el)) (hk : P.cellsOf el = es) (h0 : es ≠ 0) (he : Rd enc P W el e ok) :
  Rd enc P W t (fun l : List α => [.sl es (l.map e)]) (fun l => (∀ x ∈ l, ok x) ∧ l.length ≤ maxLen) := by
 intro fuel cs d ps h
 cases fuel with
 | zero => simp [DataW.trod] at h
 | succ fuel =>
  unfold DataW.trod at h
  split at h <;> rename_i heq <;> (try rw [hu] at heq) <;> first | (cases heq; done) | skip
  ·exact ⟨[], by simp, rfl, by simp [RepL, Rep], by simp [Value.oneCell']⟩
  ·cases heq
   rename_i a len cap
   split at h
   ·rename_i hb
    obtain ⟨_, hlc, hcm⟩ := hb
    rw [Qw] at h
    obtain ⟨elems, hel, _⟩ := h
    have hlen := mapM_some_length hel
    simp only [List.length_range] at hlen
    have hget : ∀ i, i < len → ∃ row x, W.cells? 0 (a.add (i * es)) es = some row ∧ ok x ∧ (e x).length = es ∧ RepL (Qjd W) W noO (e x) row ∧ ∀ c ∈ row, c.oneCell' = true := by
     intro i hi
     have h1 := mapM_some_get hel i i (by simp [hi])
     rw [Qb (by omega), hk, Qw] at h1
     obtain ⟨row, hrow, hx⟩ := h1
     obtain ⟨x, x1, x2, x3, x4⟩ := he fuel row _ _ hx
     exact ⟨row, x, hrow, x1, by rw [x2]; exact (World.cells?_some hrow).2.1, x3, x4⟩
    cases len with
    | zero => exact ⟨[], by simp, rfl, by simp [RepL, Rep], by simp [Value.oneCell']⟩
    | succ len =>
     obtain ⟨blk, off, spot⟩ := a
     obtain ⟨row0, _, hrow0, _⟩ := hget 0 (by omega)
     have hc0 := (World.cells?_some hrow0).2.2 0 (by omega)
     have hl0 := (World.cells?_some hrow0).2.1
     rw [Qb (by omega)] at hc0
     simp only [Nat.zero_mul, Addr.add, if_true, World.cell?] at hc0
     cases hbk : W.heap[blk]? with
     | none => rw [hbk] at hc0; cases hc0
     | some o =>
      rw [hbk] at hc0
      cases o <;> first | (cases hc0; done) | skip
      rename_i cur elt fr
      cases spot with
      | some s => simp at hc0
      | none =>
       have hrows : ∀ i, i < len + 1 → ∃ x, ok x ∧ (e x).length = es ∧ (∀ c ∈ (cur.toList.drop (off + i * es)).take es, c.oneCell' = true) ∧ RepL (Qjd W) W noO (e x) (cur.toList.drop (off + i * es)) := by
        intro i hi
        obtain ⟨row, x, hrow, x1, x2, x3, x4⟩ := hget i hi
        obtain ⟨_, r2, r3⟩ := World.cells?_some hrow
        have hadd : ∀ m, (⟨blk, off, none⟩ : Addr).add m = ⟨blk, off + m, none⟩ := by
         intro m; unfold Addr.add; split
         ·subst m; rfl
         ·rfl
        have hrw : row = (cur.toList.drop (off + i * es)).take es := by
         apply Qs
         intro j
         by_cases hj : j < es
         ·have := r3 j hj
          rw [hadd, show (⟨blk, off + i * es, none⟩ : Addr).add j = ⟨blk, off + i * es + j, none⟩ from by unfold Addr.add; split <;> simp_all] at this
          simp only [World.cell?, hbk, Option.isSome_none, Qd, if_false] at this
          rw [← this, Qq, if_pos hj, List.getElem?_drop, Array.getElem?_toList]
         ·rw [Qg (by omega), Qg (by simp; omega)]
        refine ⟨x, x1, x2, by rw [← hrw]; exact x4, ?_⟩
        have := RepL.more (e x) row ((cur.toList.drop (off + i * es)).drop es) x3
        rwa [hrw, Qf] at this
       obtain ⟨l, l1, l2, l3⟩ := Qqv (len + 1) off hrows
       refine ⟨l, ⟨l2, by rw [l1]; omega⟩, rfl, ?_, by simp [Value.oneCell']⟩
       simp only [RepL, Rep, and_true]
       refine ⟨_, cap, by rw [Q7, l1], by simp; omega, .inr ⟨blk, off, cur, elt, fr, rfl, ?_, hbk, l3⟩⟩
       exact (Array.getElem?_eq_some_iff.1 hbk).1
   ·cases h
  ·cases h
def RdP (enc : TypeId × Value → H) (P : Program) (W : World) (n : Nat) (ps : List (TypeId × Nat)) (off : Nat) (e : α → List V) (ok : α → Prop) : Prop :=
 ∀ fs : List Field, fs.map (fun f => (f.type, f.offset)) = ps → RdF enc P W n fs off e ok
theorem Qql {n off : Nat} (h : n ≤ off) : RdP enc P W n [] off (fun _ : Unit => []) (fun _ => True) := by
 intro fs hf
 have : fs = [] := by simpa using hf
 subst this
 exact Qu2 h
theorem Qeh {n off k : Nat} {t : TypeId} {ps : List (TypeId × Nat)} {e1 : α → List V} {ok1 : α → Prop} {e2 : β → List V} {ok2 : β → Prop} (h2 : P.cellsOf t = k) (hr : Rd enc P W t e1 ok1)
  (hs : RdP enc P W n ps (off + k) e2 ok2) : RdP enc P W n ((t, off) :: ps) off (fun p : α × β => e1 p.1 ++ e2 p.2) (fun p => ok1 p.1 ∧ ok2 p.2) := by
 intro fs hf
 cases fs with
 | nil => cases hf
 | cons f fs =>
  simp only [Qa, List.cons.injEq, Prod.mk.injEq] at hf
  obtain ⟨⟨rfl, ho⟩, hf⟩ := hf
  exact Qrz ho h2 hr (hs fs hf)
theorem RdP.rd {t : TypeId} {fs : Array Field} {n : Nat} {ps : List (TypeId × Nat)} (hu : P.underlying t = some (.struct fs)) (hn : P.cellsOf t = n) (hp : fs.toList.map (fun f => (f.type, f.offset)) = ps) {e : α → List V} {ok : α → Prop} (h : RdP enc P W n ps 0 e ok) : Rd enc P W t e ok := by
 subst hn
 exact RdF.rd hu (h _ hp)
def RdV (enc : TypeId × Value → H) (P : Program) (W : World) (t : TypeId) (e : α → V) (ok : α → Prop) : Prop :=
 ∀ v d ps base, DataW.Trod enc P W 0 (fun _ => true) true t v d ps → Value.okWide P W .any base t v → ∃ a, ok a ∧ Rep (Qjd W) W noO (e a) v
theorem Rd.agg {t : TypeId} {fs : Array Field} (hu : P.underlying t = some (.struct fs)) {e : α → List V} {ok : α → Prop} (h : Rd enc P W t e ok) : RdV enc P W t (fun a => .ag (e a)) ok := by
 rintro v d ps base ⟨fuel, hf⟩ hw
 obtain ⟨cs, rfl, _⟩ := okWide_struct hu hw
 obtain ⟨a, h1, h2, h3, _⟩ := h fuel _ d ps hf
 exact ⟨a, h1, cs, rfl, by simpa [Value.cells] using h2.symm, by simpa [Value.cells] using h3⟩
theorem Rd.one {t : TypeId} {e : α → V} {ok : α → Prop} (hone : ∀ v base, Value.okWide P W .any base t v → v.oneCell' = true) (h : Rd enc P W t (fun a => [e a]) ok) : RdV enc P W t e ok := by
 rintro v d ps base ⟨fuel, hf⟩ hw
 have hc := hone v base hw
 have hcs : v.cells.toList = [v] := by cases v <;> simp [Value.oneCell'] at hc <;> rfl
 rw [hcs] at hf
 obtain ⟨a, h1, _, h3, _⟩ := h fuel _ d ps hf
 simp only [RepL, and_true] at h3
 exact ⟨a, h1, h3⟩
theorem Qu0 {t : TypeId} (hu : P.underlying t = some (.int .i64)) (v : Value) (base : Nat) (h : Value.okWide P W .any base t v) : v.oneCell' = true := by
 obtain ⟨n, rfl⟩ := okWide_int hu h; rfl
theorem Qqc {t el : TypeId} (hu : P.underlying t = some (.slice el)) (v : Value) (base : Nat) (h : Value.okWide P W .any base t v) : v.oneCell' = true := by
 obtain ⟨a, l, c, rfl⟩ := okWide_slice hu h; rfl
def RdA (enc : TypeId × Value → H) (P : Program) (W : World) (ts : List TypeId) (e : α → List V) (ok : α → Prop) : Prop :=
 ∀ vs ds ps base, DataW.TrodAll enc P W 0 (fun _ => true) true ts vs ds ps → (∀ (j : Nat) t v, ts[j]? = some t → vs[j]? = some v → Value.okWide P W .any base t v) → ∃ a, ok a ∧ (e a).length = vs.length ∧ RepL (Qjd W) W noO (e a) vs
theorem Qyv : RdA enc P W [] (fun _ : Unit => []) (fun _ => True) := by
 intro vs ds ps base h _
 obtain ⟨rfl, _, _⟩ := trodAll_nil h
 exact ⟨(), trivial, rfl, by simp [RepL]⟩
theorem Qxb {t : TypeId} {ts : List TypeId} {e1 : α → V} {ok1 : α → Prop} {e2 : β → List V} {ok2 : β → Prop} (h1 : RdV enc P W t e1 ok1) (h2 : RdA enc P W ts e2 ok2) :
  RdA enc P W (t :: ts) (fun p : α × β => e1 p.1 :: e2 p.2) (fun p => ok1 p.1 ∧ ok2 p.2) := by
 intro vs ds ps base h hv
 obtain ⟨v, vs', d, ds', p, q, rfl, rfl, rfl, ha, hb⟩ := trodAll_cons h
 obtain ⟨a, a1, a2⟩ := h1 v d p base ha (hv 0 t v rfl rfl)
 obtain ⟨b, b1, b2, b3⟩ := h2 vs' ds' q base hb fun j t v hj hv' => hv (j + 1) t v (by simpa using hj) (by simpa using hv')
 exact ⟨(a, b), ⟨a1, b1⟩, by simp [b2], a2, b3⟩
theorem Qgw (hl : laidOutB P = true) {W' : World} {sp' : Nat → Bool} : ∀ {ts : List TypeId} {vs : List Value} {ds : List (DataW H)} {ps : List MemPlace}, (ts.all fun t => P.readableRec t && decide (t < P.types.size)) = true →
  DataW.TrodAll enc P W 0 (fun _ => true) true ts vs ds ps → (∀ p ∈ ps, W.sameAt W' p) → (∀ p ∈ ps, sp' p.block = true) → DataW.TrodAll enc P W' 0 sp' true ts vs ds ps
 | [], vs, ds, ps, _, h, _, _ => by
  obtain ⟨rfl, rfl, rfl⟩ := trodAll_nil h
  exact trodAll_mk0
 | t :: ts, vs, ds, ps, hr, h, hs, hsp => by
  obtain ⟨v, vs', d, ds', p, q, rfl, rfl, rfl, ha, hb⟩ := trodAll_cons h
  simp only [List.all_cons, Q3, decide_eq_true_eq] at hr
  exact trodAll_cons_mk (WideElems.Trod_stays hl hr.1.1 hr.1.2 ha (fun x hx => hs x (by simp [hx])) fun x hx => hsp x (by simp [hx]))
   (Qgw hl hr.2 hb (fun x hx => hs x (by simp [hx])) fun x hx => hsp x (by simp [hx]))
theorem Qk6 {W' : World} (h : Below W.heap.size W W') (may : MemPlace → Prop) : W.keptBut W' may := by
 refine ⟨h.os, h.output, fun i hi => ?_⟩
 rw [h.block i hi]
 cases W.heap[i]? with
 | none => rfl
 | some o => cases o <;> first | exact ⟨rfl, rfl, rfl, fun _ _ => rfl⟩ | exact .inr ⟨rfl, rfl⟩ | rfl
open Go.ChangeShapes Go.WideShapes Go.ChangeAt Go.RowKit in
theorem Qqh {H : Type} {enc : TypeId × Value → H} {P : Program} {f : Func} {s : ChangeSpec} {apart fresh handsOn again : Bool} {W W' : World} {args : Array Value} {v : Value} {ds gs : List (DataW H)} {before pa pv : List MemPlace}
  (hW : DataW.Whole enc P f.params.toList s.vars apart W args.toList ds gs before)
  (hres : ∀ (b : Nat) (sp : Nat → Bool) (hd : Bool), DataW.TrodAll enc P W' b sp hd f.resultTypes.toList (v.resultList f.resultTypes.size) (s.fn H (ds ++ gs)).results [])
  (hargs : ∀ sp : Nat → Bool, (∀ p ∈ before, sp p.block = true) → DataW.TrodAll enc P W' 0 sp true f.params.toList args.toList (s.fn H (ds ++ gs)).args pa)
  (hvars : ∀ sp : Nat → Bool, (∀ p ∈ before, sp p.block = true) → DataW.TrodVars enc P W' sp s.vars (s.fn H (ds ++ gs)).vars pv)
  (hps : before = pa ++ pv) (hk : W.keptBut W' (· ∈ before)) (hfz : ∀ a, a.block < W.heap.size → W'.frozen? a = W.frozen? a)
  (hok : ∀ (j : Nat) (t : TypeId) (r : Value), f.resultTypes[j]? = some t → (v.resultList f.resultTypes.size)[j]? = some r → Value.okWide P W' .any 0 t r) :
  s.post enc P f apart fresh handsOn again W args v W' := by
 have hlt := hW.lt
 have hold : ∀ p ∈ before, (fun b => decide (b < W.heap.size)) p.block = true := fun p hp => by simpa using hW.lt p hp
 refine ⟨ds, gs, before, [], pa, pv, hW, hres _ _ _, hargs _ hold, hvars _ hold, World.keptBut_mono (fun p hp => ⟨hp, ?_⟩) hk, fun _ => ?_⟩
 ·rw [hps, Qk] at hp
  exact Or.inr hp
 ·obtain ⟨_, _, _, _, _, hz, hn⟩ := hW
  refine ⟨hok, _, _, ([] ++ pa) ++ pv, ⟨[] ++ pa, pv, trodAll_append (hargs _ (fun _ _ => rfl)) (hres _ _ _), hvars _ (fun _ _ => rfl), rfl, ?_, ?_⟩, ?_⟩
  ·intro b off hp
   have hp' : MemPlace.cell b off ∈ before := by rw [hps]; simpa using hp
   rw [hfz _ (hlt _ hp')]
   exact hz b off hp'
  ·intro ha
   have := hn ha
   rw [hps] at this
   simpa using this
  ·intro p hp _
   rw [hps]
   simpa using hp
theorem bridge {F : FuncId} {fn : Func} {s : ChangeSpec} {fresh : Bool} (hl : laidOutB P = true) {e : α → List V} {ok : α → Prop} {ts : List TypeId} (hts : fn.params.toList = ts) (hrd : ∀ W, RdA enc P W ts e ok)
  (hreads : (ts.all fun t => P.readableRec t && decide (t < P.types.size)) = true) (hvars : s.vars = []) (hfn : ∀ ds : List (DataW H), ds.length = ts.length → s.fn H ds = { results := [.lit (.bool true)], args := ds })
  {tb : TypeId} (hres : fn.resultTypes = #[tb]) (hb : P.underlying tb = some .bool) (hlaw : ∀ a, ok a → Qal P F (e a) (.b true))
  {W : World} {base : Nat} {args : Array Value} {ds gs : List (DataW H)} {before : List MemPlace}
  (hval : ∀ (j : Nat) t v, fn.params[j]? = some t → args[j]? = some v → Value.okWide P W .any base t v) (hW : DataW.Whole enc P fn.params.toList s.vars false W args.toList ds gs before) :
  Calls P F args W fun e' W' => ∃ v, e' = .returned v ∧ s.post enc P fn false fresh false false W args v W' := by
 have hW' := hW
 obtain ⟨p, q, hA, hV, rfl, hfz, hnd⟩ := hW
 have hlt : ∀ x ∈ p ++ q, x.block < W.heap.size := hW'.lt
 rw [hts] at hA
 have hlen : ds.length = ts.length ∧ args.toList.length = ts.length := by
  have : ∀ (ts : List TypeId) (vs : List Value) (ds : List (DataW H)) (ps : List MemPlace), DataW.TrodAll enc P W 0 (fun _ => true) true ts vs ds ps → ds.length = ts.length ∧ vs.length = ts.length := by
   intro ts
   induction ts with
   | nil => intro vs ds ps h; obtain ⟨rfl, rfl, rfl⟩ := trodAll_nil h; exact ⟨rfl, rfl⟩
   | cons t ts ih =>
    intro vs ds ps h
    obtain ⟨v, vs', d, ds', p, q, rfl, rfl, rfl, _, hb⟩ := trodAll_cons h
    have := ih _ _ _ hb
    simp [this.1, this.2]
  exact this _ _ _ _ hA
 rw [hvars] at hV
 obtain ⟨rfl, rfl⟩ : gs = [] ∧ q = [] := trodVars_none hV
 obtain ⟨a, h1, h2, h3⟩ := hrd W _ _ _ base hA fun j t v hj hv => hval j t v (by rw [← hts] at hj; simpa using hj) (by simpa using hv)
 refine (hlaw a h1 (Qjd W) W args (fun _ h => h) (by simpa using h2.symm) h3).mono ?_
 rintro e' W' ⟨c, rfl, hev, hrep⟩
 simp only [Rep] at hrep
 subst hrep
 have hbl : Below W.heap.size W W' := ⟨hev.os, hev.tape, hev.output, hev.size, fun k hk => hev.old k hk (by rintro ⟨id, g, h⟩; cases h)⟩
 have hfe : s.fn H (ds ++ []) = { results := [.lit (.bool true)], args := ds } := by rw [List.append_nil]; exact hfn ds hlen.1
 refine ⟨_, rfl, Qqh (pa := p) (pv := []) hW' (fun b sp hd => ?_) (fun sp hsp => ?_) (fun sp hsp => ?_) rfl (Qk6 hbl _) hev.fz (ok_one hres rfl (okWide_bool_mk hb _))⟩
 ·rw [hfe, hres]
  exact trodAll_mk1 (shut_bool hb true)
 ·rw [hfe, hts]
  exact Qgw hl hreads hA (fun x hx => hbl.same (hlt x (by simp [hx]))) fun x hx => hsp x (by simp [hx])
 ·rw [hfe, hvars]
  rfl
end Go.Fam
namespace Go.Fam
variable {Γ : Gam} {E : TypeId → Nat → Prop} {Q : Exit → St → Prop} {σ : St}
theorem Qe9.mono {P : Program} {f : FuncId} {args : List V} {R R' : V → List Blk → Prop} (h : Qe9 P f args R) (hr : ∀ r hp, R r hp → R' r hp) : Qe9 P f args R' := fun S w cargs h1 h2 h3 =>
 Calls.mono (h S w cargs h1 h2 h3) fun e w' ⟨c, S', O', r, hp, he, hR, hx⟩ => ⟨c, S', O', r, hp, he, hr _ _ hR, hx⟩
theorem Qqy {α : Type} {l : List Nat} {d : Option Nat} {a : RC} (n : Nat) (S : List Nat → α → St) (C : List Nat → α → Prop) (x0 : α) (h0 : kp l d σ = S [] x0) (c0 : C [] x0)
  (hs : ∀ pre x, pre.Nodup → (∀ j ∈ pre, j < n) → C pre x → wpR Γ E a (Qae (fun σ'' => ∃ j y, j ∈ Qja n pre ∧ C (pre ++ [j]) y ∧ kp l d σ'' = S (pre ++ [j]) y) Q) (S pre x)) : wpR Γ E (.loop l d a) Q σ := by
 refine Qhd (fun k σ => ∃ (pre : List Nat) (x : α), pre.Nodup ∧ (∀ j ∈ pre, j < n) ∧ k = n - pre.length ∧ C pre x ∧ σ = S pre x) ⟨n, [], x0, Za, (by simp), by simp, c0, h0⟩ ?_
 rintro k _ ⟨pre, x, hnd, hlt, rfl, hc, rfl⟩
 refine Qel _ _ _ _ (fun e σ he => ?_) (hs pre x hnd hlt hc)
 cases e <;> first | exact he | skip
 obtain ⟨j, y, hj, hc', hk⟩ := he
 obtain ⟨hjn, hjp⟩ := Qiq.1 hj
 have hnd' : (pre ++ [j]).Nodup := by
  rw [List.nodup_append]
  exact ⟨hnd, by simp, fun a ha b hb => by simp at hb; subst hb; rintro rfl; exact hjp ha⟩
 have hlt' : ∀ i ∈ pre ++ [j], i < n := by
  intro i hi
  rcases Qk.1 hi with hi | hi
  ·exact hlt i hi
  ·simp at hi; omega
 have := Qf1 hnd' hlt'
 rw [Qp, List.length_singleton] at this
 exact ⟨n - (pre ++ [j]).length, by simp; omega, pre ++ [j], y, hnd', hlt', rfl, hc', hk⟩
def cmKs (xs : List Int) : List (List Int) := xs.foldl (fun ks x => putK ks [x]) []
def cmVs (xs : List Int) : List V := (cmKs xs).map fun k => .i (xs.count (k.headD 0))
theorem Qga (xs : List Int) (x : Int) : cmKs (xs ++ [x]) = putK (cmKs xs) [x] := by simp [cmKs]
theorem Qgk {α : Type} {p : List α → Prop} (h0 : p []) (hs : ∀ l x, p l → p (l ++ [x])) (l : List α) : p l := by
 have : ∀ r : List α, p r.reverse := by
  intro r
  induction r with
  | nil => exact h0
  | cons x r ih => rw [List.reverse_cons]; exact hs _ _ ih
 simpa using this l.reverse
theorem Qkj {ks : List (List Int)} {l k : List Int} : k ∈ putK ks l ↔ k ∈ ks ∨ k = l := by
 unfold putK
 split
 ·rename_i h
  constructor
  ·exact .inl
  ·rintro (h' | rfl) <;> assumption
 ·simp
theorem Qki (xs : List Int) : ∀ k, k ∈ cmKs xs ↔ ∃ x, x ∈ xs ∧ k = [x] := by
 refine Qgk (p := fun xs => ∀ k, k ∈ cmKs xs ↔ ∃ x, x ∈ xs ∧ k = [x]) (by simp [cmKs]) (fun l x ih k => ?_) xs
 rw [Qga, Qkj, ih]
 simp only [Qk, List.mem_singleton]
 constructor
 ·rintro (⟨y, hy, rfl⟩ | rfl)
  ·exact ⟨y, .inl hy, rfl⟩
  ·exact ⟨x, .inr rfl, rfl⟩
 ·rintro ⟨y, hy | rfl, rfl⟩
  ·exact .inl ⟨y, hy, rfl⟩
  ·exact .inr rfl
theorem Qoi (xs : List Int) : (cmKs xs).Nodup :=
 Qgk (p := fun xs => (cmKs xs).Nodup) (by simp [cmKs]) (fun l x ih => by rw [Qga]; exact Qff ih) xs
theorem Qlm {ks : List (List Int)} {l : List Int} (h : l ∈ ks) : ks[ks.idxOf l]? = some l := by
 have hl := Qv.2 h
 rw [Qb hl, List.getElem_idxOf hl]
theorem Qvm (xs : List Int) (x : Int) : ((cmVs xs)[(cmKs xs).idxOf [x]]?).getD (.i 0) = .i (xs.count x) := by
 unfold cmVs
 by_cases h : [x] ∈ cmKs xs
 ·rw [Qc, Qlm h]; rfl
 ·have hx : x ∉ xs := fun hx => h ((Qki xs _).2 ⟨x, hx, rfl⟩)
  have : (cmKs xs).idxOf [x] = (cmKs xs).length := List.idxOf_eq_length h
  rw [this, Qg (by simp), Q1.2 hx]; rfl
theorem Qvn (xs : List Int) (x : Int) : Qgo (cmKs xs) (cmVs xs) [x] (.i ((xs.count x : Int) + 1)) = cmVs (xs ++ [x]) := by
 have hone : ∀ k ∈ cmKs xs, k = [k.headD 0] := by
  intro k hk
  obtain ⟨y, _, rfl⟩ := (Qki xs k).1 hk
  rfl
 have hne : ∀ k ∈ cmKs xs, k ≠ [x] → (xs ++ [x]).count (k.headD 0) = xs.count (k.headD 0) := by
  intro k hk hkx
  have : k.headD 0 ≠ x := fun e => hkx (by rw [hone k hk, e])
  have hc : [x].count (k.headD 0) = 0 := Q1.2 (by simpa using this)
  rw [List.count_append, hc, Nat.add_zero]
 have hx : (xs ++ [x]).count x = xs.count x + 1 := by simp
 unfold Qgo cmVs
 rw [Qga]
 unfold putK
 split
 ·rename_i h
  apply Qs
  intro i
  rw [List.getElem?_set]
  by_cases hi : (cmKs xs).idxOf [x] = i
  ·subst hi
   rw [if_pos rfl, if_pos (by rw [Q7]; exact Qv.2 h), Qc, Qlm h]
   simp
  ·rw [if_neg hi, Qc, Qc]
   cases hk : (cmKs xs)[i]? with
   | none => rfl
   | some k =>
    have hne' : k ≠ [x] := by
     rintro rfl
     have hil := Qan hk
     exact hi (by
      have := (Qoi xs).idxOf_getElem i hil
      rw [Qb hil] at hk
      rw [← this, Option.some.inj hk])
    simp only [Q8]
    rw [hne k (Qi hk) hne']
 ·rename_i h
  rw [List.map_append]
  congr 1
  ·apply Qn
   intro k hk
   rw [hne k hk (fun e => h (e ▸ hk))]
  ·simp
theorem Qrt (xs : List Int) : Qa5 (cmVs xs) = false := by
 unfold cmVs
 generalize cmKs xs = ks
 induction ks with
 | nil => rfl
 | cons k ks ih => rw [Qa]; simp only [Qa5, Qab, ih]; rfl
end Go.Fam
set_option linter.unusedSimpArgs false
namespace Go.Fam
variable {β : Type}
abbrev AM (β : Type) := List (List Int × β)
def aks (m : AM β) : List (List Int) := m.map (·.1)
def avs (g : β → V) (m : AM β) : List V := m.map fun e => g e.2
def aput (m : AM β) (k : List Int) (x : β) : AM β := if k ∈ aks m then m.map (fun e => if e.1 = k then (k, x) else e) else m ++ [(k, x)]
def aget (m : AM β) (k : List Int) : Option β := (m.find? fun e => decide (e.1 = k)).map (·.2)
theorem Qia (m : AM β) (k : List Int) (x : β) : aks (aput m k x) = putK (aks m) k := by
 unfold aput putK
 by_cases h : k ∈ aks m
 ·rw [if_pos h, if_pos h]
  unfold aks
  rw [List.map_map]
  refine Qn fun e _ => ?_
  by_cases he : e.1 = k <;> simp [he]
 ·rw [if_neg h, if_neg h]; simp [aks]
theorem Ql2 {m : AM β} (h : (aks m).Nodup) (k : List Int) (x : β) : (aks (aput m k x)).Nodup := by
 rw [Qia]; exact Qff h
theorem Qdo {m : AM β} {k : List Int} : k ∈ aks m ↔ (aget m k).isSome = true := by
 unfold aks aget
 rw [Option.isSome_map, List.find?_isSome]
 simp
theorem Ql1 {m : AM β} {k : List Int} : aget m k = none ↔ k ∉ aks m := by
 rw [Qdo]; cases aget m k <;> simp
theorem Qt8 (g : β → V) (m : AM β) (k : List Int) : (avs g m)[(aks m).idxOf k]? = (aget m k).map g := by
 induction m with
 | nil => rfl
 | cons e m ih =>
  simp only [avs, aks, Qa] at ih ⊢
  by_cases h : e.1 = k
  ·subst h; simp [aget]
  ·have h1 : (e.1 == k) = false := by simpa using h
   rw [Q9, h1]
   simp only [aget, Ql, h, decide_false] at ih ⊢
   simpa using ih
theorem Qhv (m : AM β) (k k' : List Int) (x : β) : aget (aput m k x) k' = if k' = k then some x else aget m k' := by
 unfold aput
 split
 ·rename_i h
  by_cases he : k' = k
  ·subst he
   rw [if_pos rfl]
   induction m with
   | nil => simp [aks] at h
   | cons e m ih =>
    by_cases h1 : e.1 = k'
    ·simp [aget, h1]
    ·have : k' ∈ aks m := by simp only [aks, Qa, Qu] at h; rcases h with h | h; exact absurd h.symm h1; exact h
     have := ih this
     simpa [aget, h1] using this
  ·rw [if_neg he]
   clear h
   induction m with
   | nil => rfl
   | cons e m ih =>
    by_cases h1 : e.1 = k
    ·have h2 : ¬ e.1 = k' := fun h => he (by rw [← h, h1])
     have h3 : ¬ k = k' := fun h => he h.symm
     simp only [aget, Qa, Ql, h1, ↓reduceIte, h3, h2, decide_false] at ih ⊢
     rw [← h1]; simpa [h1] using ih
    ·by_cases h2 : e.1 = k'
     ·simp only [aget, Qa, Ql, h1, ↓reduceIte, h2, decide_true, if_neg he]
     ·simp only [aget, Qa, Ql, h1, ↓reduceIte, h2, decide_false] at ih ⊢
      exact ih
 ·rename_i h
  unfold aget
  rw [List.find?_append]
  by_cases he : k' = k
  ·subst he
   have : m.find? (fun e => decide (e.1 = k')) = none := by
    rw [List.find?_eq_none]
    intro e hm hd
    exact h (Q2.2 ⟨e, hm, by simpa using hd⟩)
   simp [this]
  ·have h3 : ¬ k = k' := fun h => he h.symm
   simp [he, h3]
theorem Qn3 {m : AM β} {k : List Int} {x : β} (h : aget m k = some x) : (k, x) ∈ m := by
 unfold aget at h
 obtain ⟨e, he, rfl⟩ := Qx.1 h
 have h1 := List.mem_of_find?_eq_some he
 have h2 := List.find?_some he
 have : e.1 = k := by simpa using h2
 rw [← this]; exact h1
theorem Qfw {m : AM β} (hn : (aks m).Nodup) {j : Nat} {k : List Int} {x : β} (h : m[j]? = some (k, x)) : aget m k = some x := by
 induction m generalizing j with
 | nil => simp at h
 | cons e m ih =>
  simp only [aks, Qa, Qm] at hn
  cases j with
  | zero =>
   simp at h; subst h; simp [aget]
  | succ j =>
   have h' : m[j]? = some (k, x) := by simpa using h
   have : e.1 ≠ k := fun he => hn.1 (he ▸ Q2.2 ⟨_, Qi h', rfl⟩)
   have := ih hn.2 h'
   simpa [aget, ‹e.1 ≠ k›] using this
theorem Qp9 {m : AM β} (hn : (aks m).Nodup) (g : β → V) (k : List Int) (x : β) : Qgo (aks m) (avs g m) k (g x) = avs g (aput m k x) := by
 unfold Qgo aput
 split
 ·rename_i h
  induction m with
  | nil => rfl
  | cons e m ih =>
   simp only [aks, Qa, Qm] at hn
   simp only [avs, aks, Qa] at ih ⊢
   by_cases h : e.1 = k
   ·subst h
    rw [List.idxOf_cons_self, List.set_cons_zero, if_pos rfl]
    congr 1
    rw [List.map_map]
    refine Qn fun e' he' => ?_
    have : e'.1 ≠ e.1 := fun h => hn.1 (h ▸ Q2.2 ⟨_, he', rfl⟩)
    simp [this]
   ·have h1 : (e.1 == k) = false := by simpa using h
    rw [Q9, h1, if_neg h]
    simp only [Bool.cond_false]
    rw [List.set_cons_succ, ih hn.2]
    rename_i h9
    simp only [aks, Qa, Qu] at h9
    exact h9.resolve_left fun h8 => h h8.symm
 ·simp [avs]
theorem Qvh {m : AM β} {j : Nat} (h : j < (aks m).length) : ∃ k x, m[j]? = some (k, x) ∧ (aks m)[j]? = some k ∧ ∀ g : β → V, (avs g m)[j]? = some (g x) := by
 have hj : j < m.length := by simpa [aks] using h
 refine ⟨(m[j]).1, (m[j]).2, by rw [Qb hj], ?_, fun g => ?_⟩
 ·unfold aks; rw [Qc, Qb hj]; rfl
 ·unfold avs; rw [Qc, Qb hj]; rfl
theorem Qyw (hp : List Blk) (n : Nat) (x : Int) : rdV hp (n + 1) (.i x) = [] := rfl
theorem Qnv (hp : List Blk) (n : Nat) (e : Nat) (r : List (List V)) : rdV hp (n + 1) (.sl e r) = [] := rfl
theorem Qx2 (hp : List Blk) (n : Nat) (cs : List V) : rdV hp (n + 1) (.ag cs) = cs.flatMap (rdV hp n) := rfl
end Go.Fam
namespace Go.Fam
variable {P : Program}
def Qlf (P : Program) : Nat → TypeId → Option Nat
 | 0, _ => none
 | d + 1, t => match P.underlying t with
  | some (.int .i64) => some 1
  | some (.struct fs) => if P.stoodInHeld t || (szB P t).isNone then none else
   match fs.toList.foldlM (fun off f => if f.name == "_" || f.offset != off then none else (Qlf P d f.type).map (off + ·)) 0 with
   | some n => if szB P t == some n then some n else none
   | none => none
  | _ => none
def Qhp (P : Program) (t : TypeId) (xs : List Int) : Value := if Qc4 P t then .agg (xs.map (Value.int .i64)).toArray else .int .i64 (xs.headD 0)
structure FlatOk (P : Program) (d : Nat) (t : TypeId) (n : Nat) : Prop where
 eq : ∀ d', d ≤ d' → ∀ (xs ys : List Int) (w : World), xs.length = n → ys.length = n → (Op.equalIn d' t (Qhp P t xs) (Qhp P t ys)).run P w = .ok (decide (xs = ys)) w
 key : ∀ d', d ≤ d' → ∀ (xs : List Int) (e : Bool) (w : World), xs.length = n → (Instr.checkKey e d' t (Qhp P t xs)).run P w = .ok () w
 part : ∀ (xs : List Int) (off : Nat) (w : World), off + n ≤ xs.length → (part t (xs.map (Value.int .i64)).toArray off).run P w = .ok (Qhp P t ((xs.drop off).take n)) w
theorem Qf7 {α : Type} (xs : List α) (off k : Nat) : xs.drop off = (xs.drop off).take k ++ xs.drop (off + k) := by
 rw [← Qz, Qf]
theorem Qle {d : Nat} (ih : ∀ t n, Qlf P d t = some n → FlatOk P d t n) : ∀ (fs : List Field) (off n : Nat),
  fs.foldlM (fun off f => if f.name == "_" || f.offset != off then none else (Qlf P d f.type).map (off + ·)) off = some n →
  off ≤ n ∧ ∀ (d' : Nat), d ≤ d' → ∀ (xs ys : List Int) (w : World), xs.length = n → ys.length = n →
   (Op.eqFields d' (xs.map (Value.int .i64)).toArray (ys.map (Value.int .i64)).toArray fs).run P w = .ok (decide (xs.drop off = ys.drop off)) w ∧
   ∀ e, (forIn fs PUnit.unit fun f (_ : PUnit) => (if f.name ≠ "_" then (do let c ← part f.type (xs.map (Value.int .i64)).toArray f.offset; Instr.checkKey e d' f.type c; pure (ForInStep.yield PUnit.unit) : Sem (ForInStep PUnit)) else pure (ForInStep.yield PUnit.unit))).run P w = .ok PUnit.unit w
 | [], off, n, h => by
  simp at h; subst h
  refine ⟨Qt _, fun d' _ xs ys w hx hy => ⟨?_, fun e => by simp⟩⟩
  have h1 : xs.drop off = [] := by rw [Qh]; omega
  have h2 : ys.drop off = [] := by rw [Qh]; omega
  simp [Op.eqFields, h1, h2]
 | f :: fs, off, n, h => by
  rw [List.foldlM_cons] at h
  by_cases h1 : f.name = "_"
  ·simp [h1] at h
  by_cases h2 : f.offset = off
  ·cases h3 : Qlf P d f.type with
   | none => simp [h1, h2, h3] at h
   | some k =>
    have hc : (f.name == "_" || f.offset != off) = false := by simp [h1, h2]
    rw [hc] at h
    simp only [Qd, if_false, h3, Q8] at h
    change List.foldlM _ (off + k) fs = some n at h
    obtain ⟨hle, hrest⟩ := Qle ih fs (off + k) n h
    have hf := ih _ _ h3
    refine ⟨by omega, fun d' hd xs ys w hx hy => ?_⟩
    have hp1 := hf.part xs off w (by omega)
    have hp2 := hf.part ys off w (by omega)
    have hl1 : ((xs.drop off).take k).length = k := by simp; omega
    have hl2 : ((ys.drop off).take k).length = k := by simp; omega
    have he := hf.eq d' hd ((xs.drop off).take k) ((ys.drop off).take k) w hl1 hl2
    obtain ⟨hr1, hr2⟩ := hrest d' hd xs ys w hx hy
    refine ⟨?_, fun e => ?_⟩
    ·simp only [Op.eqFields, if_pos (show f.name ≠ "_" from h1), Sem.run_bind, h2, hp1, hp2, he, Result.andThen_ok]
     by_cases e : (xs.drop off).take k = (ys.drop off).take k
     ·simp only [e, decide_true, Bool.not_true, Qd, if_false, hr1]
      congr 1
      rw [decide_eq_decide]
      rw [Qf7 xs off k, Qf7 ys off k, e]
      exact List.append_cancel_left_eq _ _ _ ▸ Iff.rfl
     ·simp only [e, decide_false, Bool.not_false, if_true, Sem.run_pure]
      congr 1
      symm
      rw [decide_eq_false_iff_not]
      intro hc
      exact e (by rw [hc])
    ·have hk := hf.key d' hd ((xs.drop off).take k) e w hl1
     simp only [List.forIn_cons, if_pos (show f.name ≠ "_" from h1), Sem.run_bind, h2, hp1, hk, Result.andThen_ok, Sem.run_pure]
     exact hr2 e
  ·simp [h1, h2] at h
theorem Qne : ∀ (d : Nat) (t : TypeId) (n : Nat), Qlf P d t = some n → FlatOk P d t n
 | 0, _, _, h => by simp [Qlf] at h
 | d + 1, t, n, h => by
  rw [Qlf] at h
  cases hu : P.underlying t with
  | none => simp [hu] at h
  | some desc =>
   rw [hu] at h
   cases desc <;> first | (simp at h; done) | skip
   ·rename_i k
    cases k <;> first | (simp at h; done) | skip
    simp at h; subst h
    have ha : Qc4 P t = false := by simp [Qc4, hu]
    refine ⟨fun d' hd xs ys w hx hy => ?_, fun d' hd xs e w hx => ?_, fun xs off w hx => ?_⟩
    ·obtain ⟨d', rfl⟩ : ∃ k, d' = k + 1 := ⟨d' - 1, by omega⟩
     match xs, ys, hx, hy with
     | [a], [b], _, _ =>
      simp only [Qhp, ha, if_false, Qd, List.headD_cons]
      rw [run_equalIn_int w d' t .i64 .i64 a b hu]
      congr 1
      rw [Q6]; simp
    ·obtain ⟨d', rfl⟩ : ∃ k, d' = k + 1 := ⟨d' - 1, by omega⟩
     simp [Instr.checkKey, run_underlying hu, Qhp, ha]
    ·have hlt : off < xs.length := by omega
     simp only [part, Sem.run_bind, Qfk hu, Result.andThen_ok, ha, Qhp, Qd, if_false]
     have h1 : ((xs.drop off).take 1).headD 0 = xs[off] := by rw [List.drop_eq_getElem_cons hlt]; rfl
     rw [h1]
     simp [hlt]
   ·rename_i fs
    simp only at h
    by_cases hs : (P.stoodInHeld t || (szB P t).isNone) = true
    ·simp [hs] at h
    ·rw [if_neg hs] at h
     simp at hs
     have ha : Qc4 P t = true := by simp [Qc4, hu]
     split at h
     ·rename_i m hm
      split at h
      ·rename_i hsz
       simp at h hsz; subst h
       obtain ⟨_, hfs⟩ := Qle (fun t n => Qne d t n) fs.toList 0 m hm
       have hff : P.fieldsOf t = fs := by simp [Program.fieldsOf, hu]
       refine ⟨fun d' hd xs ys w hx hy => ?_, fun d' hd xs e w hx => ?_, fun xs off w hx => ?_⟩
       ·obtain ⟨d', rfl⟩ : ∃ k, d' = k + 1 := ⟨d' - 1, by omega⟩
        simp only [Qhp, ha, if_true]
        rw [run_equalIn_struct w d' t _ _ (by rw [hff]; exact hu) hs.1, hff, (hfs d' (by omega) xs ys w hx hy).1]
        simp
       ·obtain ⟨d', rfl⟩ : ∃ k, d' = k + 1 := ⟨d' - 1, by omega⟩
        have := (hfs d' (by omega) xs xs w hx hx).2 e
        simp only [Qhp, ha, if_true, Instr.checkKey, Sem.run_bind, run_underlying hu, Result.andThen_ok]
        rw [← Array.forIn_toList]
        rw [this]; rfl
       ·simp only [part, Sem.run_bind, Qfk hu, Result.andThen_ok, ha, Qhp, if_true, Qbk hsz, Sem.run_pure]
        congr 2
        apply Array.ext'
        simp [List.map_drop, List.map_take]
      ·simp at h
     ·simp at h
theorem Qb0.of {t : TypeId} {n : Nat} {fs : Array Field} (hu : P.underlying t = some (.struct fs)) (hf : Qlf P 9 t = some n) (hg : P.eqGuardType P.depth t = false) : Qb0 P t n := by
 have ho := Qne 9 t n hf
 have ha : Qc4 P t = true := by simp [Qc4, hu]
 have hv : ∀ xs, Qhp P t xs = .agg (xs.map (Value.int .i64)).toArray := fun xs => by simp [Qhp, ha]
 refine ⟨⟨fs, hu⟩, fun xs ys w hx hy => ⟨fun op x y hop => ⟨run_eqGuard_agg w op t x y _ _ hg, ?_⟩, ?_, fun e => ?_⟩⟩
 ·have := ho.eq 10000 (by decide) xs ys w hx hy
  rw [hv, hv] at this
  rcases hop with rfl | rfl
  ·rw [run_eql_struct, this]; simp [Result.andThen, show (BinOp.eql == BinOp.neq) = false from rfl]
  ·rw [run_neq_struct, this]; simp [Result.andThen]
 ·have := ho.eq 10000 (by decide) xs ys w hx hy
  rw [hv, hv] at this
  exact this
 ·have := ho.key 10000 (by decide) xs e w hx
  rw [hv] at this
  exact this
end Go.Fam
namespace Go.Fam
theorem Evol.cut0 {S S' : Nat → Prop} {w w' : World} {O0 O : OInfo} (h : Evol S S' w w' O0 O) (n : Nat) (hlo : ∀ id x, O0 id = some x → id < n) : Evol S (cutS S' O n) w w' O0 (Qbx O n) := by
 refine ⟨⟨fun k hk => ⟨.inl (h.ext.keep k hk).1, (h.ext.keep k hk).2⟩, fun id g ob ho => ?_⟩, h.os, h.tape, h.output, h.size, h.fz, h.old, fun k ⟨id, g, ho⟩ => h.fresh k ⟨id, g, (Qbd ho).2⟩, ?_⟩
 ·obtain ⟨g', ob', h1, h2⟩ := h.ext.own id g ob ho
  refine ⟨g', ob', ?_, h2⟩
  unfold Qbx
  rw [if_pos (hlo id _ ho)]
  exact h1
 rintro k (hk | ⟨id, g, ho⟩)
 ·exact h.grow k hk
 ·exact .inr (h.fresh k ⟨id, g, (Qbh ho).2⟩)
theorem Qjj {S0 S : Nat → Prop} {w0 w : World} {O0 O : OInfo} (h : Evol S0 S w0 w O0 O) (h0 : ∀ id g b, O0 id = some (g, some b) → b < w0.heap.size) {L : Nat} {o o' : Obj} (hb : w.heap[L]? = some o) (hc : o.isCells = false) (hc' : o'.isCells = false) (hS : ¬ S L) (hL : w0.heap.size ≤ L) :
  Evol S0 S w0 (w.putObj L o') O0 O := by
 have hoth : ∀ k, k ≠ L → (w.putObj L o').heap[k]? = w.heap[k]? := fun k hk => World.putObj_heap_other hk
 have hnew : (w.putObj L o').heap[L]? = some o' := World.putObj_heap_same (Array.getElem?_eq_some_iff.1 hb).1
 refine ⟨⟨fun k hk => ⟨(h.ext.keep k hk).1, ?_⟩, fun id g ob ho => ?_⟩, h.os, h.tape, h.output, by simpa using h.size, fun a ha => ?_, fun k hk hno => ?_, h.fresh, h.grow⟩
 ·rw [hoth k (by rintro rfl; exact hS (h.ext.keep k hk).1)]; exact (h.ext.keep k hk).2
 ·obtain ⟨g', ob', h1, h2, h3⟩ := h.ext.own id g ob ho
  refine ⟨g', ob', h1, h2, fun e => ?_⟩
  obtain ⟨h4, h5⟩ := h3 e
  refine ⟨h4, fun b cur e hb hh => ?_⟩
  obtain ⟨cur', h6, h7⟩ := h5 b cur e hb hh
  refine ⟨cur', ?_, h7⟩
  rw [hoth b (by have := h0 id g b (by rw [ho, hb]); omega)]
  exact h6
 ·refine Eq.trans ?_ (h.fz a ha)
  by_cases e : a.block = L
  ·simp only [World.frozen?, e, hnew, hb]
   cases o <;> cases o' <;> first | rfl | (simp [Obj.isCells] at hc; done) | (simp [Obj.isCells] at hc'; done)
  ·simp only [World.frozen?, hoth _ e]
 ·rw [hoth k (by omega)]; exact h.old k hk hno
section
variable {P : Program} {F : Fence} {n : Nat} {Γ : Gam} {pu : List Nat}
def Ch (S0 : Nat → Prop) (w0 : World) (O0 : OInfo) : Ctx := fun S w O ds _ => Evol S0 S w0 w O0 O ∧ ∃ Ds : List Nat, ds = Ds.map col ∧ Ds.Nodup ∧ ∀ D ∈ Ds, w.heap[D]? = some (.deferred (some [])) ∧ ¬ S D ∧ ¬ Own O D ∧ w0.heap.size ≤ D
theorem Qxd {M : FrI} {S0 : Nat → Prop} {w0 : World} {O0 : OInfo} {lo : Nat} (hro : F.round = none) (h0 : ∀ id g b, O0 id = some (g, some b) → b < w0.heap.size) (hlo : ∀ id x, O0 id = some x → id < lo) (hp : 0 < lo) : CtxOk P F n M (Ch S0 w0 O0) lo 1 w0.heap.size := by
 refine ⟨?_, ?_, fun _ => hro, fun _ _ _ _ _ _ h => h.1.size, ?_, ?_, ?_, fun h => (by cases h), fun h => (by cases h), fun h => (by cases h)⟩
 ·rintro S S' w w' O O' ds h h' ⟨h1, Ds, h2, h3, h4⟩ hlt ev _
  refine ⟨h1.trans ev, Ds, h2, h3, fun D hD => ?_⟩
  obtain ⟨a1, a2, a3, a4⟩ := h4 D hD
  have hDlt := (Array.getElem?_eq_some_iff.1 a1).1
  refine ⟨(ev.old D hDlt a3).trans a1, fun hS => ?_, fun hO => ?_, a4⟩
  ·rcases ev.grow D hS with h | h | h
   ·exact a2 h
   ·exact a3 h
   ·omega
  ·rcases ev.fresh D hO with h | h
   ·exact a3 h
   ·omega
 ·rintro S w O ds h h' k ⟨h1, Ds, h2, h3, h4⟩ hk _
  refine ⟨h1.cut0 k (fun id x hx => Qe (hlo id x hx) hk), Ds, h2, h3, fun D hD => ?_⟩
  obtain ⟨a1, a2, a3, a4⟩ := h4 D hD
  refine ⟨a1, ?_, fun ⟨id, g, ho⟩ => a3 ⟨id, g, (Qbd ho).2⟩, a4⟩
  rintro (h | ⟨id, g, ho⟩)
  ·exact a2 h
  ·exact a3 ⟨id, g, (Qbh ho).2⟩
 ·rintro _ S w O ds h L r r' ⟨h1, Ds, h2, h3, h4⟩ hL hS hO hb
  refine ⟨Qjj h1 h0 hL rfl rfl hS hb, Ds, h2, h3, fun D hD => ?_⟩
  obtain ⟨a1, a2, a3, a4⟩ := h4 D hD
  refine ⟨?_, a2, a3, a4⟩
  rw [World.putObj_heap_other (by rintro rfl; rw [hL] at a1; cases a1)]
  exact a1
 ·rintro _ S w O ds h r ⟨h1, Ds, h2, h3, h4⟩ hS hO
  have hl : Later w ((w.alloc (.deferred (some []))).alloc (.loop r)) := (Qcm w _ rfl).trans (Qcm _ _ rfl)
  refine ⟨h1.trans (hl.evol hS hO), w.heap.size :: Ds, by rw [h2]; rfl, Qm.2 ⟨fun hD => ?_, h3⟩, fun D hD => ?_⟩
  ·have := (Array.getElem?_eq_some_iff.1 (h4 _ hD).1).1; omega
  ·rcases Qu.1 hD with rfl | hD
   ·refine ⟨?_, fun h => ?_, fun h => ?_, h1.size⟩
    ·exact (heap_alloc_old _ _ (by simp)).trans (World.alloc_heap_new w _)
    ·have := hS _ h; omega
    ·have := hO _ h; omega
   ·obtain ⟨a1, a2, a3, a4⟩ := h4 D hD
    exact ⟨(hl.old D (Array.getElem?_eq_some_iff.1 a1).1).trans a1, a2, a3, a4⟩
 ·intro _ h; omega
theorem Qhk {M : FrI} {fn : Func} {rs : List RV} (hr : Qix P fn.results.toList = some rs) {S0 S : Nat → Prop} {w0 : World} {O0 O : OInfo} (h0 : ∀ id g b, O0 id = some (g, some b) → b < w0.heap.size) {σ : St} {a : Act} (hok : rvs σ.hp σ.fr rs) {R : Ending → World → Prop}
  (hR : ∀ w' c, Evol S0 S w0 w' O0 O → Mat S w' O σ.hp → Rep S w' O (resV σ.hp σ.fr rs) c → R (.returned c) w') :
  ∀ (Ds : List Nat) (w : World), Ds.Nodup → (∀ D ∈ Ds, w.heap[D]? = some (.deferred (some [])) ∧ ¬ S D ∧ ¬ Own O D ∧ w0.heap.size ≤ D) → Evol S0 S w0 w O0 O → SR M S w O σ a → LeavesInM F n P fn a.tmps R (Ds.map col) .returning w
 | [], w, _, _, hev, hsr => by
  obtain ⟨c, hrun, hrp⟩ := Qiz hsr hr hok
  exact ⟨c, hrun, hR w c hev hsr.mat hrp⟩
 | D :: Ds, w, hnd, hD, hev, hsr => by
  obtain ⟨hn1, hn2⟩ := Qm.1 hnd
  obtain ⟨a1, a2, a3, a4⟩ := hD D (by simp)
  refine ⟨by simp, .inl ⟨D, _, rfl, run_takeDeferred a1, ?_⟩⟩
  refine Qhk hr h0 hok hR Ds _ hn2 (fun D' hD' => ?_) (Qjj hev h0 a1 rfl rfl a2 a4) (Qf6 hsr _ a2 a3)
  obtain ⟨b1, b2⟩ := hD D' (by simp [hD'])
  exact ⟨(World.putObj_heap_other (by rintro rfl; exact hn1 hD')).trans b1, b2⟩
theorem Qr5 {S : Nat → Prop} {w : World} {O : OInfo} {args : List V} {cargs : Array Value} {nt : Nat} (hsz : cargs.size = args.length) (hn : args.length ≤ nt) (hrep : RepL S w O args cargs.toList) :
  (cargs ++ Array.replicate (nt - cargs.size) undef).size = nt ∧ FrM S w O (lkp (zipA 0 args)) { tmps := cargs ++ Array.replicate (nt - cargs.size) undef, defers := [] } := by
 have hlo : ∀ t, t < cargs.size → (cargs ++ Array.replicate (nt - cargs.size) undef).getD t undef = cargs.getD t undef := by
  intro t ht
  simp [Array.getElem?_append, ht]
 refine ⟨by simp; omega, fun t => ?_⟩
 show Rep S w O (lkp (zipA 0 args) t) _
 rw [Qkd, if_pos (Q5 _), Nat.sub_zero]
 cases ht : args[t]? with
 | none => simp [Rep]
 | some v =>
  obtain ⟨cv, hcv, hv⟩ := RepL.get _ _ t v hrep ht
  have hlt : t < cargs.size := by have := Qan hcv; simpa using this
  show Rep S w O v ((cargs ++ Array.replicate (nt - cargs.size) undef).getD t undef)
  rw [hlo t hlt]
  have : cargs.getD t undef = cv := by
   rw [Array.getElem?_toList] at hcv
   have h2 := (Array.getElem?_eq_some_iff.1 hcv).2
   simp [hlt, h2]
  rw [this]
  exact hv
end
def hpG {α : Type} (eA : α → List V) (eH : α → List Blk) (dec : List V → List Blk → α) (C : α → Prop) (R : α → V → List Blk → Prop) : List V → List Blk → Prop × (V → List Blk → Prop) :=
 fun as0 hp => (eA (dec as0 hp) = as0 ∧ eH (dec as0 hp) = hp ∧ C (dec as0 hp), R (dec as0 hp))
theorem Qnk {α : Type} {eA : α → List V} {eH : α → List Blk} {dec : List V → List Blk → α} {C : α → Prop} {R : α → V → List Blk → Prop} (x : α) (h : dec (eA x) (eH x) = x) : hpG eA eH dec C R (eA x) (eH x) = (C x, R x) := by
 unfold hpG
 rw [h]; simp
theorem Qnl {P : Program} {f : FuncId} {α : Type} {eA : α → List V} {eH : α → List Blk} {dec : List V → List Blk → α} {C : α → Prop} {R : α → V → List Blk → Prop}
  (h : ∀ x, C x → (∀ r hp', R x r hp' → ∀ y, ghO (eH x) = some y → ghO hp' = some y) ∧ HeapCall P f (eA x) (eH x) (R x)) (as0 : List V) (hp : List Blk) (hc : (hpG eA eH dec C R as0 hp).1) :
  (∀ r hp', (hpG eA eH dec C R as0 hp).2 r hp' → ∀ y, ghO hp = some y → ghO hp' = some y) ∧ HeapCall P f as0 hp (hpG eA eH dec C R as0 hp).2 := by
 obtain ⟨h1, h2, h3⟩ := hc
 have := h _ h3
 rw [h1, h2] at this
 exact this
theorem Qqi (i : Nat) (v : V) (l : List V) (h : i < l.length) : putAt i [v] l = l.set i v := by
 unfold putAt
 rw [List.set_eq_take_append_cons_drop, if_pos h]
 simp
theorem Qdl.toPure {P : Program} {f : FuncId} {args : List V} {r : V} {hp : List Blk} (h : Qdl P f args r hp) : Qal P f args (vw hp 8 r) := by
 intro S w cargs hS hsz hrep
 refine Calls.mono (h S w cargs hS hsz hrep) ?_
 rintro e w' ⟨cv, S', O', rfl, hev, hmat, hrp⟩
 refine ⟨cv, rfl, ?_, ?_⟩
 ·exact ⟨⟨fun k hk => ⟨.inl hk, (hev.ext.keep k hk).2⟩, fun _ _ _ h => by cases h⟩, hev.os, hev.tape, hev.output, hev.size, hev.fz, hev.old, fun k ⟨_, _, h⟩ => (by cases h), fun k hk => hk.imp id fun h => .inr h.1⟩
 ·have h3 := Qju hmat 8 _ _ hrp
  refine Rep.ext ⟨fun k hk => ⟨?_, rfl⟩, fun _ _ _ h => by cases h⟩ _ _ h3
  rcases hk with hk | ⟨id, g, ho⟩
  ·rcases hev.grow k hk with h4 | h4 | h4
   ·exact .inl h4
   ·obtain ⟨_, _, h4⟩ := h4; cases h4
   ·exact .inr ⟨h4, hmat.lt k hk⟩
  ·rcases hev.fresh k ⟨id, g, ho⟩ with h4 | h4
   ·obtain ⟨_, _, h4⟩ := h4; cases h4
   ·exact .inr ⟨h4, (hmat.own id g k ho).1⟩
end Go.Fam
namespace Go.Fam
mutual
def lowV (n : Nat) : V → Bool
 | .ad id _ _ | .rf id _ _ _ _ | .mp id _ | .it id _ => decide (id < n)
 | .ag cs | .tp cs => lowL n cs
 | .fn _ cs => lowL n cs
 | .gv _ v => lowV n v
 | _ => true
def lowL (n : Nat) : List V → Bool
 | [] => true
 | v :: vs => lowV n v && lowL n vs
end
def lowB (n : Nat) : Blk → Bool
 | .cells _ vs | .map _ _ vs => lowL n vs
 | .iter mid _ _ _ => decide (mid < n)
 | _ => true
theorem Qgp {O : OInfo} {n id : Nat} (h : id < n) : Qbx O n id = O id := if_pos h
mutual
theorem Qke {S : Nat → Prop} {w : World} {O : OInfo} {n : Nat} : ∀ (v : V) (c : Value), lowV n v = true → Rep S w O v c → Rep S w (Qbx O n) v c
 | .u, _, _, _ => by simp [Rep]
 | .b x, c, _, hr => by simpa [Rep] using hr
 | .i x, c, _, hr => by simpa [Rep] using hr
 | .z es, c, _, hr => by simpa [Rep] using hr
 | .sl es rows, c, _, hr => by simpa only [Rep] using hr
 | .sx es rows, c, _, hr => by simpa only [Rep] using hr
 | .pa cs, c, _, hr => by simpa only [Rep] using hr
 | .pn, c, _, hr => by simpa [Rep] using hr
 | .yl l, c, _, hr => by simpa only [Rep] using hr
 | .ag cs, c, hl, hr => by
  simp only [lowV] at hl
  simp only [Rep] at hr ⊢
  obtain ⟨ccs, hc, hn, hr⟩ := hr
  exact ⟨ccs, hc, hn, Qee cs _ hl hr⟩
 | .tp cs, c, hl, hr => by
  simp only [lowV] at hl
  simp only [Rep] at hr ⊢
  obtain ⟨ccs, hc, hn, hr⟩ := hr
  exact ⟨ccs, hc, hn, Qee cs _ hl hr⟩
 | .fn f cs, c, hl, hr => by
  simp only [lowV] at hl
  simp only [Rep] at hr ⊢
  obtain ⟨ccs, hc, hn, hr⟩ := hr
  exact ⟨ccs, hc, hn, Qee cs _ hl hr⟩
 | .gv q v, c, hl, hr => by
  simp only [lowV] at hl
  simp only [Rep] at hr ⊢
  exact ⟨fun hq => Qke v c hl (hr.1 hq), hr.2⟩
 | .ad id g off, c, hl, hr => by
  simp only [lowV, decide_eq_true_eq] at hl
  simpa only [Rep, Qgp hl] using hr
 | .rf id g off len es, c, hl, hr => by
  simp only [lowV, decide_eq_true_eq] at hl
  simpa only [Rep, Qgp hl] using hr
 | .mp id g, c, hl, hr => by
  simp only [lowV, decide_eq_true_eq] at hl
  simpa only [Rep, Qgp hl] using hr
 | .it id g, c, hl, hr => by
  simp only [lowV, decide_eq_true_eq] at hl
  simpa only [Rep, Qgp hl] using hr
theorem Qee {S : Nat → Prop} {w : World} {O : OInfo} {n : Nat} : ∀ (vs : List V) (cs : List Value), lowL n vs = true → RepL S w O vs cs → RepL S w (Qbx O n) vs cs
 | [], _, _, _ => by simp [RepL]
 | _ :: _, [], _, hr => by simp [RepL] at hr
 | v :: vs, c :: cs, hl, hr => by
  simp only [lowL, Q3] at hl
  simp only [RepL] at hr ⊢
  exact ⟨Qke v c hl.1 hr.1, Qee vs cs hl.2 hr.2⟩
end
theorem Qtq {S : Nat → Prop} {w : World} {O : OInfo} {n g : Nat} {ob : Option Nat} : ∀ (b : Blk), lowB n b = true → Qbg S w O g ob (some b) → Qbg S w (Qbx O n) g ob (some b)
 | .cells g' vs, hl, h => by
  simp only [lowB] at hl
  simp only [Qbg] at h ⊢
  refine ⟨h.1, ?_⟩
  cases ob with
  | none => exact h.2
  | some b =>
   obtain ⟨cur, e, h1, h2, h3⟩ := h.2
   exact ⟨cur, e, h1, Qee _ _ hl h2, h3⟩
 | .map st ks vs, hl, h => by
  simp only [lowB] at hl
  simp only [Qbg] at h ⊢
  obtain ⟨h0, b, es, h1, h2, h3, h4, h5⟩ := h
  exact ⟨h0, b, es, h1, h2, h3, Qee _ _ hl h4, h5⟩
 | .iter mid k left cur, hl, h => by
  simp only [lowB, decide_eq_true_eq] at hl
  simp only [Qbg] at h ⊢
  obtain ⟨h0, b, m, seen, h1, h2, h3, h4⟩ := h
  exact ⟨h0, b, m, seen, h1, h2, Qke (n := n) (.mp mid 0) _ (by simp [lowV, hl]) h3, h4⟩
 | .gh _ _, _, h => h
 | .dead _, _, h => h
 | .hole, _, h => h
theorem HeapCall.frame {P : Program} {f : FuncId} {args : List V} {hp : List Blk} {R : V → List Blk → Prop} (h : HeapCall P f args hp R) (hl : ∀ r hp', R r hp' → hp'.length = hp.length) (ha : lowL hp.length args = true) (hb : ∀ b ∈ hp, lowB hp.length b = true) (tl : List Blk) :
  HeapCall P f args (hp ++ tl) fun r hp2 => ∃ hp', R r hp' ∧ hp2 = hp' ++ tl := by
 intro S w O cargs hm hs hr
 have hO1 : ∀ {id x}, Qbx O hp.length id = some x → id < hp.length ∧ O id = some x := fun h => Qbd h
 have hm1 : Mat S w (Qbx O hp.length) hp := by
  refine ⟨hm.lt, fun id g b ho => hm.own id g b (hO1 ho).2, fun id id' g g' b h1 h2 => hm.inj id id' g g' b (hO1 h1).2 (hO1 h2).2, fun id g ob ho => ?_⟩
  obtain ⟨hlt, ho⟩ := hO1 ho
  have := hm.blk id g ob ho
  rw [Qr hlt, Qb hlt] at this
  rw [Qb hlt]
  exact Qtq _ (hb _ (List.getElem_mem hlt)) this
 refine (h S w (Qbx O hp.length) cargs hm1 hs (Qee _ _ ha hr)).mono ?_
 rintro e w' ⟨c, S', O1', r, hp', rfl, hR, hev, hm', hrep⟩
 have hlen := hl r hp' hR
 obtain ⟨O', hO'⟩ : ∃ O' : OInfo, O' = fun id => if id < hp.length then O1' id else O id := ⟨_, rfl⟩
 have h1lt : ∀ {id x}, O1' id = some x → id < hp.length := fun {id x} h => by rw [← hlen]; exact Qhl hm' h
 have e1 : ∀ {id}, id < hp.length → O' id = O1' id := fun h => by rw [hO']; exact if_pos h
 have e2 : ∀ {id}, ¬ id < hp.length → O' id = O id := fun h => by rw [hO']; exact if_neg h
 have htl : ∀ {id g b}, ¬ id < hp.length → O id = some (g, some b) → ¬ Own (Qbx O hp.length) b := by
  rintro id g b hn ho ⟨id2, g2, ho2⟩
  obtain ⟨hlt2, ho2⟩ := hO1 ho2
  have := hm.inj id id2 g g2 b ho ho2
  omega
 have hkeep : ∀ {id g b}, ¬ id < hp.length → O id = some (g, some b) → w'.heap[b]? = w.heap[b]? := fun hn ho => hev.old _ (hm.own _ _ _ ho).1 (htl hn ho)
 have hnS : ∀ {id g b}, ¬ id < hp.length → O id = some (g, some b) → ¬ S' b ∧ ¬ Own O1' b := by
  intro id g b hn ho
  have hlt := (hm.own _ _ _ ho).1
  refine ⟨fun hS => ?_, fun hO => ?_⟩
  ·rcases hev.grow b hS with h | h | h
   ·exact (hm.own _ _ _ ho).2 h
   ·exact htl hn ho h
   ·omega
  ·rcases hev.fresh b hO with h | h
   ·exact htl hn ho h
   ·omega
 have hext : Ext S S' w w' O O' := by
  refine ⟨hev.ext.keep, fun id g ob ho => ?_⟩
  by_cases hid : id < hp.length
  ·obtain ⟨g', ob', k1, k2⟩ := hev.ext.own id g ob (by rw [Qgp hid]; exact ho)
   exact ⟨g', ob', by rw [e1 hid]; exact k1, k2⟩
  ·refine ⟨g, ob, by rw [e2 hid]; exact ho, Qt _, fun _ => ⟨rfl, fun b cur e hb hh => ⟨cur, ?_, rfl⟩⟩⟩
   subst hb
   rw [hkeep hid ho]; exact hh
 have hext1 : Ext S' S' w' w' O1' O' := ⟨fun n hn => ⟨hn, rfl⟩, fun id g ob ho => ⟨g, ob, by rw [e1 (h1lt ho)]; exact ho, Qt _, fun _ => ⟨rfl, fun b cur e _ hh => ⟨cur, hh, rfl⟩⟩⟩⟩
 refine ⟨c, S', O', r, hp' ++ tl, rfl, ⟨hp', hR, rfl⟩, ?_, ?_, Rep.ext hext1 _ _ hrep⟩
 ·refine ⟨hext, hev.os, hev.tape, hev.output, hev.size, hev.fz, fun n hn hno => hev.old n hn fun ⟨id, g, ho⟩ => hno ⟨id, g, (hO1 ho).2⟩, ?_, ?_⟩
  ·rintro n ⟨id, g, ho⟩
   by_cases hid : id < hp.length
   ·rw [e1 hid] at ho
    rcases hev.fresh n ⟨id, g, ho⟩ with ⟨id2, g2, ho2⟩ | h
    ·exact .inl ⟨id2, g2, (hO1 ho2).2⟩
    ·exact .inr h
   ·rw [e2 hid] at ho
    exact .inl ⟨id, g, ho⟩
  ·intro n hn
   rcases hev.grow n hn with h | ⟨id2, g2, ho2⟩ | h
   ·exact .inl h
   ·exact .inr (.inl ⟨id2, g2, (hO1 ho2).2⟩)
   ·exact .inr (.inr h)
 ·refine ⟨hm'.lt, fun id g b ho => ?_, fun id id' g g' b h1 h2 => ?_, fun id g ob ho => ?_⟩
  ·by_cases hid : id < hp.length
   ·rw [e1 hid] at ho; exact hm'.own id g b ho
   ·rw [e2 hid] at ho
    exact ⟨Qe (hm.own id g b ho).1 hev.size, (hnS hid ho).1⟩
  ·by_cases hid : id < hp.length
   ·rw [e1 hid] at h1
    by_cases hid' : id' < hp.length
    ·rw [e1 hid'] at h2; exact hm'.inj id id' g g' b h1 h2
    ·rw [e2 hid'] at h2
     exact absurd ⟨id, g, h1⟩ (hnS hid' h2).2
   ·rw [e2 hid] at h1
    by_cases hid' : id' < hp.length
    ·rw [e1 hid'] at h2
     exact absurd ⟨id', g', h2⟩ (hnS hid h1).2
    ·rw [e2 hid'] at h2; exact hm.inj id id' g g' b h1 h2
  ·by_cases hid : id < hp.length
   ·rw [e1 hid] at ho
    rw [Qr (by rw [hlen]; exact hid)]
    have := hm'.blk id g ob ho
    exact this.ext hext1 fun _ _ => rfl
   ·rw [e2 hid] at ho
    have := hm.blk id g ob ho
    rw [List.getElem?_append_right (by omega)] at this ⊢
    rw [hlen]
    refine this.ext hext fun b hb => ?_
    subst hb
    exact hkeep hid ho
section
variable {P : Program} {F : Fence} {n : Nat} {Γ : Gam} {pu : List Nat}
theorem Qh6 (hG : GOk P Γ) (hm : P.follows .mixedOrders = true) {f : FuncId} {fn : Func} {c : Code} {rc : RC} {rs : List RV} (hf : P.funcs[f]? = some fn) (hb : fn.body = some c) {lo : Nat}
  (hc : comp P pu (fn.ntmps, 0) lo 1 rc c = some rc) (hr : Qix P fn.results.toList = some rs) {args : List V} (hn : args.length ≤ fn.ntmps) {hp : List Blk} (hlo : hp.length ≤ lo) (hpos : 0 < lo) {R : V → List Blk → Prop}
  (h : wpR Γ (Qb0 P) rc (endK rs fun σ => R (cutV σ.hp lo (resV σ.hp σ.fr rs)) (cutH lo σ.hp)) ⟨lkp (zipA 0 args), hp⟩) : HeapCall P f args hp R := by
 intro S w O cargs hmat hsz hrep
 have h0 : ∀ id g b, O id = some (g, some b) → b < w.heap.size := fun id g b h => (hmat.own id g b h).1
 have hl : ∀ id x, O id = some x → id < lo := fun id x h => Qe (Qhl hmat h) hlo
 refine Qfe.calls (n := 0) (callsIn_of_wp_marks hf hb trivial ?_)
 obtain ⟨h1, h2⟩ := Qr5 hsz hn hrep
 obtain ⟨M, hM⟩ : ∃ M : FrI, M = ⟨fn.ntmps, 0, fun _ => undef, fun _ => False⟩ := ⟨_, rfl⟩
 have hnm : M.nm = (fn.ntmps, 0) := by rw [hM]; rfl
 have hat : At (Ch S w O) M S w O ⟨lkp (zipA 0 args), hp⟩ { tmps := cargs ++ Array.replicate (fn.ntmps - cargs.size) undef, defers := [] } := by
  refine ⟨⟨Evol.refl _ _ _, [], rfl, Za, fun _ h => by cases h⟩, ⟨by rw [hM]; exact h1, fun t ht => by rw [hM] at ht; exact absurd ht (Nat.not_lt_zero _), h2, hmat⟩⟩
 refine Qmb hG hm (M := M) (by rw [hM]; exact fun _ h => h.elim) rc c rc _ 0 lo 1 Qfe (by rw [hnm]; exact hc) (Ch S w O) w.heap.size (Qxd rfl h0 hl hpos) _ _ _ S w O _ h hat ?_
 intro e σ' S' w' O' a' he hat'
 have fin : (rvs σ'.hp σ'.fr rs ∧ R (cutV σ'.hp lo (resV σ'.hp σ'.fr rs)) (cutH lo σ'.hp)) → LeavesInM Fence.wide 0 P fn a'.tmps (fun e w' => ∃ c S' O' r hp', e = .returned c ∧ R r hp' ∧ Evol S S' w w' O O' ∧ Mat S' w' O' hp' ∧ Rep S' w' O' r c) a'.defers .returning w' := by
  rintro ⟨k1, k2⟩
  obtain ⟨ev, Ds, e1, e2, e3⟩ := hat'.ctx
  rw [e1]
  exact Qhk hr h0 k1 (fun w2 c hev hmat hrp => ⟨c, _, _, _, _, rfl, k2, hev.cut0 lo hl, Qic hmat lo, Qh3 hmat lo _ _ hrp⟩) Ds w' e2 e3 ev hat'.sr
 cases e <;> first | exact fin he | exact he.elim
end
end Go.Fam
namespace Go.Fam
def fzV (hp : List Blk) (L : List Nat) (v : V) : V := if (rids v).any (fun id => decide (id ∈ L)) = true then vw hp 8 v else v
theorem HeapCall.frz {P : Program} {f : FuncId} {args : List V} {hp : List Blk} {R : V → List Blk → Prop} (L : List Nat) (hL : L.all (Qhq hp) = true)
  (ha : ∀ v ∈ args, (rids v).any (fun id => decide (id ∈ L)) = true → ∀ id ∈ rids v, id ∈ L) (h : HeapCall P f (args.map (fzV hp L)) (L.foldl Qg2 hp) R) : HeapCall P f args hp R := by
 intro S w O cargs hm hsz hr
 have hm2 := Qml hm hL
 have hx : Ext (Frz S O L) (Frz S O L) w w noO (frzO O L) := ⟨fun k hk => ⟨hk, rfl⟩, fun _ _ _ h => by cases h⟩
 have key : ∀ (vs : List V) (cs : List Value), (∀ v ∈ vs, v ∈ args) → RepL S w O vs cs → RepL (Frz S O L) w (frzO O L) (vs.map (fzV hp L)) cs := by
  intro vs
  induction vs with
  | nil => intro cs _ _; simp [RepL]
  | cons v vs ih =>
   intro cs hv h
   cases cs with
   | nil => simp [RepL] at h
   | cons c cs =>
    simp only [RepL] at h
    simp only [Qa, RepL]
    refine ⟨?_, ih cs (fun x hx => hv x (by simp [hx])) h.2⟩
    unfold fzV
    by_cases hi : (rids v).any (fun id => decide (id ∈ L)) = true
    ·rw [if_pos hi]
     exact Rep.ext hx _ _ (Qso hm hL 8 v c (ha v (hv v (by simp)) hi) h.1)
    ·rw [if_neg hi]
     exact Rep.ext (Qmk L) _ _ h.1
 refine (h _ w _ cargs hm2 (by simpa using hsz) (key args _ (fun _ h => h) hr)).mono ?_
 rintro e w' ⟨c, S', O', r, hp', he, hR, hev, h1, h2⟩
 exact ⟨c, S', O', r, hp', he, hR, (Qnj L).trans hev, h1, h2⟩
end Go.Fam
namespace Go.Fam
open Go.Sort
theorem Qnz {S : Nat → Prop} {w : World} {O : OInfo} : ∀ (zs : List Int) (cs : List Value), RepL S w O (zs.map V.i) cs → cs.take zs.length = zs.map (Value.int .i64)
 | [], _, _ => by simp
 | z :: zs, [], h => by simp [RepL] at h
 | z :: zs, c :: cs, h => by
  simp only [Qa, RepL, Rep] at h
  simp only [Q4, Q0, Qa]
  rw [h.1, Qnz zs cs h.2]
theorem Qnm {S : Nat → Prop} {w : World} {O : OInfo} : ∀ (zs : List Int) (cs : List Value), cs.take zs.length = zs.map (Value.int .i64) → RepL S w O (zs.map V.i) cs
 | [], _, _ => by simp [RepL]
 | z :: zs, [], h => by simp at h
 | z :: zs, c :: cs, h => by
  simp only [Q4, Q0, Qa, List.cons.injEq] at h
  simp only [Qa, RepL, Rep]
  exact ⟨h.1, Qnm zs cs h.2⟩
theorem Qll {S : Nat → Prop} {w : World} {O : OInfo} {b : Nat} {cur : Array Value} {e : TypeId} {zs : List Int} (hb : w.heap[b]? = some (.cells cur e (0, 0))) (hr : RepL S w O (zs.map V.i) cur.toList) : Holds (Value.int .i64) w b 0 zs.toArray := by
 have ht := Qnz zs _ hr
 intro j hj
 have hj' : j < zs.length := by simpa using hj
 have h1 : (cur.toList.take zs.length)[j]? = some (Value.int .i64 zs[j]) := by rw [ht]; simp [hj']
 rw [Qq, if_pos hj', Array.getElem?_toList] at h1
 refine ⟨?_, ?_⟩
 ·simp only [World.cell?, hb, Nat.zero_add, h1]
  simp [hj']
 ·simp [World.frozen?, hb]
theorem Qo3 {S : Nat → Prop} {w : World} {O : OInfo} {hp : List Blk} (hm : Mat S w O hp) {id g b : Nat} (hO : O id = some (g, some b)) {zs ys : List Int} (hid : hp[id]? = some (.cells g (zs.map V.i))) (hl : ys.length = zs.length) (n : Nat) (os : Array Obj) :
  Evol S S w (grow (putRow (Value.int .i64) (Sort.ahead w n) b 0 ys.toArray) os) O O ∧ Mat S (grow (putRow (Value.int .i64) (Sort.ahead w n) b 0 ys.toArray) os) O (hp.set id (.cells g (ys.map V.i))) := by
 obtain ⟨hbl, hbS⟩ := hm.own id g b hO
 have hblk := hm.blk id g _ hO
 rw [hid] at hblk
 simp only [Qbg] at hblk
 obtain ⟨_, cur, e, hb, hr, h1⟩ := hblk
 obtain ⟨w', hw'⟩ : ∃ w', w' = grow (putRow (Value.int .i64) (Sort.ahead w n) b 0 ys.toArray) os := ⟨_, rfl⟩
 rw [← hw']
 have hheap : w'.heap = (w.heap.modify b (onCells (putCells (Value.int .i64) 0 ys.toArray))) ++ os := by rw [hw']; rfl
 have hsz : w.heap.size ≤ w'.heap.size := by rw [hheap]; simp
 have hnew : w'.heap[b]? = some (.cells (putCells (Value.int .i64) 0 ys.toArray cur) e (0, 0)) := by
  rw [hheap, Array.getElem?_append_left (by simpa using hbl), Array.getElem?_modify, if_pos rfl, hb]; rfl
 have hoth : ∀ k, k < w.heap.size → k ≠ b → w'.heap[k]? = w.heap[k]? := fun k hk hkb => by
  rw [hheap, Array.getElem?_append_left (by simpa using hk), Array.getElem?_modify, if_neg (Ne.symm hkb)]
 have hsize : (putCells (Value.int .i64) 0 ys.toArray cur).size = cur.size := by simp [putCells]
 have hcell : ∀ k, (putCells (Value.int .i64) 0 ys.toArray cur)[k]? = if k < ys.length then (if k < cur.size then some (Value.int .i64 (ys.getD k 0)) else none) else cur[k]? := by
  intro k
  unfold putCells
  rw [Array.getElem?_mapIdx]
  by_cases hk : k < cur.size
  ·rw [Array.getElem?_eq_getElem hk]
   by_cases hy : k < ys.length
   ·simp [hk, hy]
   ·simp [hk, hy]
  ·rw [Array.getElem?_eq_none (by omega)]
   by_cases hy : k < ys.length <;> simp [hk, hy]
 have hlen : zs.length ≤ cur.size := by have := RepL.length _ _ hr; simpa using this
 have hx : Ext S S w w' O O := by
  refine ⟨fun k hk => ⟨hk, hoth k (hm.lt k hk) (by rintro rfl; exact hbS hk)⟩, fun id' g' ob h => ⟨g', ob, h, Qt _, fun _ => ⟨rfl, fun b' cur' e' hb' hh => ?_⟩⟩⟩
  subst hb'
  by_cases hbb : b' = b
  ·subst hbb
   rw [hb] at hh
   cases hh
   exact ⟨_, hnew, hsize⟩
  ·exact ⟨cur', (hoth b' (hm.own id' g' b' h).1 hbb).trans hh, rfl⟩
 refine ⟨⟨hx, by rw [hw']; rfl, by rw [hw']; rfl, by rw [hw']; rfl, hsz, fun a ha => ?_, fun k hk hno => hoth k hk (by rintro rfl; exact hno ⟨id, g, hO⟩), fun k h => .inl h, fun k h => .inl h⟩, ⟨fun k hk => Qe (hm.lt k hk) hsz, fun id' g' b' h => ⟨Qe (hm.own id' g' b' h).1 hsz, (hm.own id' g' b' h).2⟩, hm.inj, ?_⟩⟩
 ·by_cases hab : a.block = b
  ·simp only [World.frozen?, hab, hnew, hb]
  ·simp only [World.frozen?, hoth _ ha hab]
 ·intro id' g' ob h
  by_cases hii : id' = id
  ·subst hii
   rw [hO] at h
   cases h
   rw [Qy (Qan hid)]
   refine ⟨rfl, _, e, hnew, Qnm ys _ ?_, ?_⟩
   ·apply Qs
    intro k
    rw [Qq, Array.getElem?_toList, hcell]
    by_cases hk : k < ys.length
    ·have hkc : k < cur.size := by omega
     simp [hk, hkc]
    ·simp [hk]
   ·intro c hc
    obtain ⟨k, hk⟩ := List.getElem?_of_mem hc
    rw [Array.getElem?_toList, hcell] at hk
    by_cases hy : k < ys.length
    ·rw [if_pos hy] at hk
     split at hk
     ·cases hk; rfl
     ·cases hk
    ·rw [if_neg hy] at hk
     exact h1 c (Qi (by rw [Array.getElem?_toList]; exact hk))
  ·rw [List.getElem?_set_ne (Ne.symm hii)]
   refine (hm.blk id' g' ob h).ext hx fun b' hb' => ?_
   subst hb'
   exact hoth b' (hm.own id' g' b' h).1 (by rintro rfl; exact hii (hm.inj id' id g' g b' h hO))
theorem Qr4 {P : Program} {f : FuncId} (h : ∀ (blk off cap : Nat) (zs : List Int) (w : World), Holds (Value.int .i64) w blk off zs.toArray → blk < w.heap.size → zs.length < 4611686018427387904 →
   Calls P f #[.slice (some ⟨blk, off, none⟩) zs.length cap] w fun e w' => e = .returned (.tuple #[]) ∧ ∃ n os, w' = grow (putRow (Value.int .i64) (Sort.ahead w n) blk off (zs.mergeSort fun x y => decide (x ≤ y)).toArray) os)
  {hp : List Blk} {id g : Nat} {zs : List Int} (hid : hp[id]? = some (.cells g (zs.map V.i))) (hne : zs ≠ []) (hl : zs.length ≤ 1000000) :
  HeapCall P f [.rf id g 0 zs.length 1] hp fun r hp' => r = .tp [] ∧ hp' = hp.set id (.cells g ((zs.mergeSort fun x y => decide (x ≤ y)).map V.i)) := by
 intro S w O cargs hm hsz hr
 obtain ⟨c, hc⟩ : ∃ c, cargs = #[c] := by
  match cargs, hsz with
  | ⟨[c]⟩, _ => exact ⟨c, rfl⟩
 subst hc
 simp only [RepL, Rep, and_true] at hr
 obtain ⟨_, g', ob, hO, hle, hr⟩ := hr
 have hb := hm.blk id g' ob hO
 rw [hid] at hb
 simp only [Qbg] at hb
 rcases hr hb.1 with ⟨b, cap, cur, e, rfl, hh, rfl, hcap, hfit⟩ | ⟨_, h0, _⟩
 ·have hg := hb.1
  subst hg
  obtain ⟨cur', e', hh', hrl, h1⟩ := hb.2
  refine (h b 0 cap zs w (Qll hh' hrl) (hm.own id _ b hO).1 (by omega)).mono ?_
  rintro e2 w' ⟨rfl, n, os, rfl⟩
  obtain ⟨hev, hm2⟩ := Qo3 hm hO hid (ys := zs.mergeSort fun x y => decide (x ≤ y)) (List.length_mergeSort _) n os
  refine ⟨_, S, O, _, _, rfl, ⟨rfl, rfl⟩, hev, hm2, ?_⟩
  simp only [Rep]
  exact ⟨#[], rfl, rfl, by simp [RepL]⟩
 ·exact absurd (Qj h0) hne
theorem Ql8 {P : Program} {f : FuncId} (h : ∀ (blk off cap : Nat) (zs : List Int) (w : World), Holds (Value.int .i64) w blk off zs.toArray → zs.length ≤ 9223372036854775807 → zs.length ≤ cap →
   Calls P f #[.slice (some ⟨blk, off, none⟩) zs.length cap] w fun e w' => e = .returned (.slice (some ⟨blk, off, none⟩) (Lib.compact zs).length cap) ∧ ∃ q, w' = putRow (Value.int .i64) (Sort.ahead w q) blk off (Lib.compact zs ++ Qo (zs.length - (Lib.compact zs).length) 0).toArray)
  (hcl : ∀ zs : List Int, (Lib.compact zs).length ≤ zs.length)
  {hp : List Blk} {id g : Nat} {zs : List Int} (hid : hp[id]? = some (.cells g (zs.map V.i))) (hne : zs ≠ []) (hl : zs.length ≤ 1000000) :
  HeapCall P f [.rf id g 0 zs.length 1] hp fun r hp' => r = .rf id g 0 (Lib.compact zs).length 1 ∧ hp' = hp.set id (.cells g ((Lib.compact zs ++ Qo (zs.length - (Lib.compact zs).length) 0).map V.i)) := by
 intro S w O cargs hm hsz hr
 obtain ⟨c, hc⟩ : ∃ c, cargs = #[c] := by
  match cargs, hsz with
  | ⟨[c]⟩, _ => exact ⟨c, rfl⟩
 subst hc
 simp only [RepL, Rep, and_true] at hr
 obtain ⟨_, g', ob, hO, hle, hr⟩ := hr
 have hb := hm.blk id g' ob hO
 rw [hid] at hb
 simp only [Qbg] at hb
 rcases hr hb.1 with ⟨b, cap, cur, e, rfl, hh, rfl, hcap, hfit⟩ | ⟨_, h0, _⟩
 ·have hg := hb.1
  subst hg
  obtain ⟨cur', e', hh', hrl, h1⟩ := hb.2
  have hc := hcl zs
  refine (h b 0 cap zs w (Qll hh' hrl) (by omega) hcap).mono ?_
  rintro e2 w' ⟨rfl, q, rfl⟩
  obtain ⟨hev, hm2⟩ := Qo3 hm hO hid (ys := Lib.compact zs ++ Qo (zs.length - (Lib.compact zs).length) 0) (by simp; omega) q #[]
  rw [grow_empty] at hev hm2
  refine ⟨_, S, O, _, _, rfl, ⟨rfl, rfl⟩, hev, hm2, ?_⟩
  have hblk := hm2.blk id _ _ hO
  rw [Qy (Qan hid)] at hblk
  simp only [Qbg] at hblk
  obtain ⟨cur2, e2, hh2, hrl2, _⟩ := hblk.2
  simp only [Rep]
  refine ⟨rfl, _, _, hO, Qt _, fun _ => .inl ⟨b, cap, cur2, e2, rfl, hh2, rfl, by omega, ?_⟩⟩
  obtain ⟨g2, ob2, ho2, _, hs⟩ := (hev.ext.own id _ _ hO)
  rw [hO] at ho2
  cases ho2
  obtain ⟨cur3, hh3, hs3⟩ := (hs rfl).2 b cur e rfl hh
  rw [hh2] at hh3
  cases hh3
  omega
 ·exact absurd (Qj h0) hne
end Go.Fam
