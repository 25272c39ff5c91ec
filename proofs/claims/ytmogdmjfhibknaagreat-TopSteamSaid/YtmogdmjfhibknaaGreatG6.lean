import Derived.Test.YtmogdmjfhibknaaGreatG5
import Derived.Test.YtmogdmjfhibknaaGreatG4
import Derived.Test.YtmogdmjfhibknaaGreatChecked
set_option linter.all false
open List renaming getElem?_eq_getElem → Qc, contains_nil → Qd, mem_of_getElem? → Qh, contains_cons → Qj, replicate_succ → Ql, isEmpty_cons → Qn, any_cons → Qo, flatten_nil → Qp, getD_eq_getElem?_getD → Qr, getElem?_of_mem → Qt, any_eq_true → Qu, flatten_cons → Qw, mem_range → Qy, any_eq_false → Qz, all_eq_true → Q0, length_take → Q1, map_append → Q2, take_append_drop → Q3, flatten_append → Q4, getElem?_take → Q5, take_length → Q6, range → Q7
open Nat renaming le_refl → Qv, mul_one → Qx
open Bool renaming false_eq_true → Qa, true_eq_false → Qb, and_false → Qi, true_and → Qk, false_or → Qm, and_eq_true → Qq, or_eq_false_iff → Qs, xor_false → Q8
open Int renaming natCast_one → Qe, natCast_add → Qf, natCast_zero → Qg
set_option linter.all false
namespace Go.CS
open Go.Fam Go.Proofs
open Go.C06 (Span eI eIs Qbx gI gR dI Qbl Qcj fnG Qad Qab Qa6 Qa8 idxOf Qas Qaj Qal Qar Qai Qag Qac Qat Qb3 Qc5 vw_I Qay hmix eLI dLI Qca Qan)
variable {Γ : Gam}
theorem Qc9 {α : Type} {l : List α} {p : α → Bool} {i : Nat} {x : α} (hx : l[i]? = some x) (e : p x = true) (hc : ∀ j y, j < i → l[j]? = some y → p y = true) : ∀ j y, j < i + 1 → l[j]? = some y → p y = true := by
 intro j y hj hy
 by_cases hji : j < i
 ·exact hc j y hji hy
 ·have : j = i := by omega
  subst this
  rw [hx] at hy; cases hy; exact e
theorem Qeu {α : Type} {l : List α} {p : α → Bool} {i : Nat} {x : α} (hx : l[i]? = some x) (e : p x = false) : l.all p = false := by
 rw [List.all_eq_false]; exact ⟨x, Qh hx, by rw [e]; simp⟩
theorem Qdn {α : Type} {l : List α} {p : α → Bool} (hc : ∀ j y, j < l.length → l[j]? = some y → p y = true) : l.all p = true := by
 rw [Q0]
 intro x hx
 obtain ⟨j, hj⟩ := Qt hx
 exact hc j x (Qaf hj) hj
noncomputable def K4 : Gam := K3.ext 91 (fnG eWII dWII (fun a => SmallW a.1) (fun a => Qbg a.1 a.2.1 a.2.2) .b)
theorem okK4 : GOk Tryz.prog K4 := okK3.ext (f := 91) (fun a w => Tryz.call91 a w) (Qad (e := eWII) (d := dWII) (ok := fun a => SmallW a.1) (g := fun a => Qbg a.1 a.2.1 a.2.2) (eb := .b) fun a h => W91 a.1 a.2.1 a.2.2 h)
theorem h91 (w : Work) (m k : Int) : K4 91 [.ag (Qa7 w), .i m, .i k] = (SmallW w, .b (Qbg w m k)) := (show K4 91 _ = fnG eWII dWII (fun a => SmallW a.1) (fun a => Qbg a.1 a.2.1 a.2.2) .b (eWII (w, m, k)) from rfl).trans (Qab _ (Qs9 _))
theorem Qjq (n lo hi : Int)  : K4 87 [.i n, .i lo, .i hi] = (True, .b (Qa6 n lo hi)) := h87 n lo hi
theorem Zgp (s : Span)  : K4 88 [.ag (Qbx s)] = (True, .b (Qez s)) := h88 s
theorem Zgq (t : Slot)  : K4 89 [.ag (eSlot t)] = (t.secs.length ≤ 1000000, .b (okSlot t)) := h89 t
theorem Zgr (w : Work) (n : Int)  : K4 90 [.ag (Qa7 w), .i n] = (w.spares.length ≤ 1000000, .b (Qa6 n 0 (w.spares.length - 1))) := h90 w n
def okSpare (s : Spare) : Bool := Qa6 s.kind 0 9 && Qa6 s.sect 0 9 && Qez s.len
def okMake (m : List Slot) : Bool := decide ((m.length : Int) ≤ 4) && m.all okSlot
def Qb9 (w : Work) (t : Trial) : Bool := Qa6 t.spare 0 (w.spares.length - 1) && Qbg w t.make t.slot && Qa6 t.fits 0 1
def Qcy (w : Work) : Bool := decide ((w.spares.length : Int) ≤ 10) && decide ((w.makes.length : Int) ≤ 6) && Qa6 w.cut 0 99 && decide ((w.table.length : Int) ≤ 30) && w.spares.all okSpare && w.makes.all okMake && w.table.all (Qb9 w)
theorem W68 (w : Work) (hw : SmallW w) : Qa5 Tryz.prog 68 [.ag (Qa7 w)] (.b (Qcy w)) := by
 refine Qa4 okK4 hmix Tryz.func68 cf68.b cf68.c cf68.s cf68.n ?_
 have hE : Qcy w = (decide ((w.spares.length : Int) ≤ 10) && decide ((w.makes.length : Int) ≤ 6) && Qa6 w.cut 0 99 && decide ((w.table.length : Int) ≤ 30) && w.spares.all okSpare && w.makes.all okMake && w.table.all (Qb9 w)) := rfl
 generalize Qcy w = res at hE
 by_cases a1 : (10 : Int) < w.spares.length
 ·have n1 : ¬ (w.spares.length : Int) ≤ 10 := by omega
  simp only [rc68, rs68, Qjq, a1, Qa0, Qa2, Qa1, flat, ↓reduceIte, Nat.reduceEqDiff, Nat.reduceAdd, Nat.reduceLT, Nat.reduceLeDiff, rvs, zipA, V.b.injEq, Qa, Qb, forall_const, implies_true, imp_self, Qa7, BU1]; simp [hE, n1]
 have b1 : (w.spares.length : Int) ≤ 10 := by omega
 by_cases a2 : (6 : Int) < w.makes.length
 ·have n2 : ¬ (w.makes.length : Int) ≤ 6 := by omega
  simp only [rc68, rs68, Qjq, a1, a2, Qa0, Qa2, Qa1, flat, ↓reduceIte, Nat.reduceEqDiff, Nat.reduceAdd, Nat.reduceLT, Nat.reduceLeDiff, rvs, zipA, beq_self_eq_true, V.b.injEq, Qa, Qb, forall_const, implies_true, imp_self, Qa7, BU1]; simp [hE, n2]
 have b2 : (w.makes.length : Int) ≤ 6 := by omega
 cases a3 : Qa6 w.cut 0 99 with
 | false => simp only [rc68, rs68, Qjq, a1, a2, a3, Qa0, Qa2, Qa1, flat, ↓reduceIte, Nat.reduceEqDiff, Nat.reduceAdd, Nat.reduceLT, Nat.reduceLeDiff, rvs, zipA, beq_self_eq_true, V.b.injEq, Qa, Qb, forall_const, implies_true, imp_self, Qa7, BU1]; simp [hE, a3]
 | true =>
 by_cases a4 : (30 : Int) < w.table.length
 ·have n4 : ¬ (w.table.length : Int) ≤ 30 := by omega
  simp only [rc68, rs68, Qjq, a1, a2, a3, a4, Qa0, Qa2, Qa1, flat, ↓reduceIte, Nat.reduceEqDiff, Nat.reduceAdd, Nat.reduceLT, Nat.reduceLeDiff, rvs, zipA, beq_self_eq_true, V.b.injEq, Qa, forall_const, implies_true, Qa7, BU1]; simp [hE, n4]
 have b4 : (w.table.length : Int) ≤ 30 := by omega
 simp only [b1, b2, a3, b4, decide_true, Qk] at hE
 simp only [rc68, rs68, Qjq, a1, a2, a3, a4, Qa0, Qa2, Qa1, flat, ↓reduceIte, Nat.reduceEqDiff, Nat.reduceAdd, Nat.reduceLT, Nat.reduceLeDiff, zipA, beq_self_eq_true, Qa, forall_const, implies_true, Qa7, BU1]
 refine Qap w.spares.length (fun i => ⟨lkp [(1, .pa (Qa7 w)), (3, .i i)], []⟩) (fun i => ∀ j x, j < i → w.spares[j]? = some x → okSpare x = true) ?_ ?_ ?_ ?_
 ·simp only [Qg, cutV, ↓reduceIte, Nat.reduceEqDiff, Qa7, BU1]
 ·intro j x h; omega
 ·intro i hi hc
  obtain ⟨x, hx⟩ : ∃ x, w.spares[i]? = some x := ⟨_, Qc hi⟩
  have hlt : (i : Int) < w.spares.length := by omega
  have h4 : inI ((i : Int) + 1) := by unfold inI; omega
  have g := Zgp x.len
  unfold Qbx at g
  have hno : okSpare x = false → res = false := fun e => by rw [hE, Qeu hx e]; rfl
  unfold okSpare at hno
  cases s1 : Qa6 x.kind 0 9 with
  | false =>
   have q := hno (by rw [s1]; rfl)
   simp only [hx, hlt, Qjq, s1, q, Qa0, Qb7, Qah, Qa2, Qa1, flat, ↓reduceIte, Nat.reduceEqDiff, Nat.reduceAdd, Nat.reduceLT, Nat.reduceLeDiff, rvs, beq_self_eq_true, Qa, Qb, forall_const, implies_true, imp_self, eSpare, Qa7, BU1]
  | true =>
  cases s2 : Qa6 x.sect 0 9 with
  | false =>
   have q := hno (by rw [s1, s2]; rfl)
   simp only [hx, hlt, Qjq, s1, s2, q, Qa0, Qb7, Qah, Qa2, Qa1, flat, ↓reduceIte, Nat.reduceEqDiff, Nat.reduceAdd, Nat.reduceLT, Nat.reduceLeDiff, rvs, beq_self_eq_true, Qa, Qb, forall_const, implies_true, imp_self, eSpare, Qa7, BU1]
  | true =>
  cases s3 : Qez x.len with
  | false =>
   have q := hno (by rw [s1, s2, s3]; rfl)
   simp only [hx, hlt, Qjq, s1, s2, g, s3, q, Qa0, Qah, Qa2, Qa1, flat, ↓reduceIte, Nat.reduceEqDiff, Nat.reduceAdd, Nat.reduceLT, Nat.reduceLeDiff, rvs, beq_self_eq_true, Qa, forall_const, implies_true, eSpare, Qa7, BU1]
  | true =>
   simp only [hx, hlt, Qjq, s1, s2, g, s3, h4, Qf, Qe, Qbd, ↓Qam, Qa0, Qah, Qa2, Qa1, flat, cutV, ↓reduceIte, Nat.reduceEqDiff, Nat.reduceAdd, Nat.reduceLT, Nat.reduceLeDiff, beq_self_eq_true, Qa, forall_const, implies_true, eSpare, Qa7, BU1]
   exact Qc9 hx (by unfold okSpare; rw [s1, s2, s3]; rfl) hc
 intro hc
 have hlt : ¬ ((w.spares.length : Int) < w.spares.length) := by omega
 rw [Qdn hc, Qk] at hE
 simp only [hlt, Qa0, ↓reduceIte, Nat.reduceEqDiff, Nat.reduceAdd, Nat.reduceLeDiff, Qa, Qa7, BU1]
 refine Qap w.makes.length (fun i => ⟨lkp [(1, .pa (Qa7 w)), (5, .i i)], []⟩) (fun i => ∀ j x, j < i → w.makes[j]? = some x → okMake x = true) ?_ ?_ ?_ ?_
 ·simp only [Qg, ↓reduceIte, Nat.reduceEqDiff, Qa7, BU1]
 ·intro j x h; omega
 ·intro i hi hc
  obtain ⟨m, hm⟩ : ∃ m, w.makes[i]? = some m := ⟨_, Qc hi⟩
  have hlt : (i : Int) < w.makes.length := by omega
  have h4 : inI ((i : Int) + 1) := by unfold inI; omega
  have hno : okMake m = false → res = false := fun e => by rw [hE, Qeu hm e]; rfl
  by_cases c1 : (4 : Int) < m.length
  ·have n1 : ¬ (m.length : Int) ≤ 4 := by omega
   have q := hno (by unfold okMake; simp [n1])
   simp only [hm, hlt, eMake, c1, q, Qa0, ↓reduceIte, Nat.reduceEqDiff, Nat.reduceAdd, Nat.reduceLeDiff, rvs, Qa, eMake, Qa7, BU1]
  have d1 : (m.length : Int) ≤ 4 := by omega
  simp only [hm, hlt, eMake, c1, Qa0, ↓reduceIte, Nat.reduceEqDiff, Nat.reduceAdd, Nat.reduceLeDiff, Qa, eMake, Qa7, BU1]
  refine Qap m.length (fun k => ⟨lkp [(1, .pa (Qa7 w)), (5, .i i), (6, .i k)], []⟩) (fun k => ∀ j x, j < k → m[j]? = some x → okSlot x = true) ?_ ?_ ?_ ?_
  ·simp only [Qg, ↓reduceIte, Nat.reduceEqDiff, Qa7, BU1]
  ·intro j x h; omega
  ·intro k hk hk2
   obtain ⟨t, ht⟩ : ∃ t, m[k]? = some t := ⟨_, Qc hk⟩
   have hkt : (k : Int) < m.length := by omega
   have h5 : inI ((k : Int) + 1) := by unfold inI; omega
   have hs := hw.secs m (Qh hm) t (Qh ht)
   have g := Zgq t
   unfold eSlot at g
   cases s1 : okSlot t with
   | false =>
    have q := hno (by unfold okMake; rw [Qeu ht s1]; simp)
    simp only [hm, hlt, eMake, ht, hkt, g, hs, s1, q, Qa0, Qa2, Qa1, flat, ↓reduceIte, Nat.reduceEqDiff, Nat.reduceAdd, Nat.reduceLT, Nat.reduceLeDiff, rvs, Qa, implies_true, eSlot, eMake, Qa7, BU1]
   | true =>
    simp only [hm, hlt, eMake, ht, hkt, g, hs, s1, h5, Qf, Qe, Qa0, Qa2, Qa1, flat, ↓reduceIte, Nat.reduceEqDiff, Nat.reduceAdd, Nat.reduceLT, Nat.reduceLeDiff, Qa, implies_true, eSlot, eMake, Qa7, BU1]
    exact Qc9 ht s1 hk2
  ·intro hk2
   have hkt : ¬ ((m.length : Int) < m.length) := by omega
   simp only [hm, hlt, eMake, hkt, h4, Qf, Qe, Qa0, ↓reduceIte, Nat.reduceEqDiff, Nat.reduceAdd, Nat.reduceLeDiff, Qa, eMake, Qa7, BU1]
   exact Qc9 hm (by unfold okMake; rw [Qdn hk2]; simp [d1]) hc
 intro hc2
 have hlt2 : ¬ ((w.makes.length : Int) < w.makes.length) := by omega
 rw [Qdn hc2, Qk] at hE
 simp only [hlt2, Qa0, ↓reduceIte, Nat.reduceEqDiff, Nat.reduceAdd, Nat.reduceLeDiff, Qa, Qa7, BU1]
 refine Qap w.table.length (fun i => ⟨lkp [(1, .pa (Qa7 w)), (7, .i i)], []⟩) (fun i => ∀ j x, j < i → w.table[j]? = some x → Qb9 w x = true) ?_ ?_ ?_ ?_
 ·simp only [Qg, cutV, ↓reduceIte, Nat.reduceEqDiff, Qa7, BU1]
 ·intro j x h; omega
 ·intro i hi hc
  obtain ⟨x, hx⟩ : ∃ x, w.table[i]? = some x := ⟨_, Qc hi⟩
  have hlt : (i : Int) < w.table.length := by omega
  have h4 : inI ((i : Int) + 1) := by unfold inI; omega
  have g1 := Zgr w x.spare
  have g2 := h91 w x.make x.slot
  unfold Qa7 at g1 g2
  have hno : Qb9 w x = false → res = false := fun e => by rw [hE, Qeu hx e]
  unfold Qb9 at hno
  cases s1 : Qa6 x.spare 0 (w.spares.length - 1) with
  | false =>
   have q := hno (by rw [s1]; rfl)
   simp only [hx, hlt, g1, hw.spares, s1, q, Qa0, Qb7, Qah, Qa2, Qa1, flat, ↓reduceIte, Nat.reduceEqDiff, Nat.reduceAdd, Nat.reduceLT, Nat.reduceLeDiff, rvs, beq_self_eq_true, Qa, Qb, forall_const, implies_true, imp_self, eTrial, Qa7, BU1]
  | true =>
  cases s2 : Qbg w x.make x.slot with
  | false =>
   have q := hno (by rw [s1, s2]; rfl)
   simp only [hx, hlt, g1, g2, hw, hw.spares, s1, s2, q, Qa0, Qb7, Qah, Qa2, Qa1, flat, ↓reduceIte, Nat.reduceEqDiff, Nat.reduceAdd, Nat.reduceLT, Nat.reduceLeDiff, rvs, beq_self_eq_true, Qa, Qb, forall_const, implies_true, imp_self, eTrial, Qa7, BU1]
  | true =>
  cases s3 : Qa6 x.fits 0 1 with
  | false =>
   have q := hno (by rw [s1, s2, s3]; rfl)
   simp only [hx, hlt, g1, g2, hw, hw.spares, Qjq, s1, s2, s3, q, Qa0, Qah, Qa2, Qa1, flat, ↓reduceIte, Nat.reduceEqDiff, Nat.reduceAdd, Nat.reduceLT, Nat.reduceLeDiff, rvs, beq_self_eq_true, Qa, forall_const, implies_true, eTrial, Qa7, BU1]
  | true =>
   simp only [hx, hlt, g1, g2, hw, hw.spares, Qjq, s1, s2, s3, h4, Qf, Qe, Qbd, ↓Qam, Qa0, Qah, Qa2, Qa1, flat, cutV, ↓reduceIte, Nat.reduceEqDiff, Nat.reduceAdd, Nat.reduceLT, Nat.reduceLeDiff, beq_self_eq_true, Qa, forall_const, implies_true, eTrial, Qa7, BU1]
   exact Qc9 hx (by unfold Qb9; rw [s1, s2, s3]; rfl) hc
 intro hc3
 have hlt3 : ¬ ((w.table.length : Int) < w.table.length) := by omega
 rw [Qdn hc3] at hE
 simp only [hlt3, hE, Qa0, ↓reduceIte, Nat.reduceEqDiff, Nat.reduceLeDiff, rvs, Qa, Qa7, BU1]
end Go.CS
set_option linter.all false
namespace Go.CS
open Go.Fam Go.Proofs
open Go.C06 (Span eI eIs Qbx gI gR dI Qbl Qcj fnG Qad Qab Qa6 Qa8 idxOf Qas Qaj Qal Qar Qai Qag Qac Qat Qb3 Qc5 vw_I Qay hmix eLI dLI Qca Qan)
variable {Γ : Gam}
noncomputable def K5 : Gam := K4.ext 68 (fnG eW1 dW1 SmallW Qcy .b)
theorem okK5 : GOk Tryz.prog K5 := okK4.ext (f := 68) (fun a w => Tryz.call68 a w) (Qad (e := eW1) (d := dW1) (ok := SmallW) (g := Qcy) (eb := .b) fun a h => W68 a h)
theorem h68 (w : Work) : K5 68 [.ag (Qa7 w)] = (SmallW w, .b (Qcy w)) := (show K5 68 _ = fnG eW1 dW1 SmallW Qcy .b (eW1 w) from rfl).trans (Qab _ (Qnu _))
def Qe5 (a b : Trial) : Bool := decide (a.spare = b.spare) && decide (a.make = b.make) && decide (a.slot = b.slot) && !decide (a.fits = b.fits)
def conB (t : List Trial) : Bool := (Q7 t.length).any fun i => (t.take i).any fun a => Qe5 a (t.getD i ⟨0, 0, 0, 0⟩)
theorem Qj8 {t : List Trial} : conB t = true ↔ ∃ (k i : Nat) (a b : Trial), k < i ∧ t[k]? = some a ∧ t[i]? = some b ∧ Qe5 a b = true := by
 unfold conB
 rw [Qu]
 constructor
 ·rintro ⟨i, hi, h⟩
  obtain ⟨a, ha, hc⟩ := Qu.1 h
  obtain ⟨k, hk⟩ := Qt ha
  have hkl := Qaf hk
  rw [Q1] at hkl
  have hi' := Qy.1 hi
  refine ⟨k, i, a, t[i], by omega, ?_, Qc hi', ?_⟩
  ·rw [Q5, if_pos (by omega)] at hk; exact hk
  ·rw [Qr, Qc hi'] at hc; exact hc
 ·rintro ⟨k, i, a, b, hki, ha, hb, hc⟩
  refine ⟨i, Qy.2 (Qaf hb), Qu.2 ⟨a, ?_, ?_⟩⟩
  ·refine Qh (i := k) ?_
   rw [Q5, if_pos hki]; exact ha
  ·rw [Qr, hb]; exact hc
def Qcc (w : Work) : Int := if Qcy w = true then (if conB w.table = true then 71 else 0) else 70
theorem Qp4 {w : Work} (h : Qcy w = true) : w.table.length ≤ 30 := by
 unfold Qcy at h
 simp only [Qq, decide_eq_true_eq] at h
 omega
theorem W42 (w : Work) (hw : SmallW w) : Qa5 Tryz.prog 42 [.ag (Qa7 w)] (.i (Qcc w)) := by
 refine Qa4 okK5 hmix Tryz.func42 cf42.b cf42.c cf42.s cf42.n ?_
 have g := h68 w
 unfold Qa7 at g
 cases h0 : Qcy w with
 | false => simp only [rc42, rs42, g, hw, h0, Qa0, Qa2, Qa1, flat, ↓reduceIte, Nat.reduceEqDiff, Nat.reduceAdd, Nat.reduceLT, Nat.reduceLeDiff, rvs, zipA, V.i.injEq, Qa, implies_true, Qa7, BU1]; simp [Qcc, h0]
 | true =>
 have hl := Qp4 h0
 have hE : Qcc w = if conB w.table = true then 71 else 0 := by unfold Qcc; rw [h0]; rfl
 simp only [rc42, rs42, g, hw, h0, Qa0, Qa2, Qa1, flat, ↓reduceIte, Nat.reduceEqDiff, Nat.reduceAdd, Nat.reduceLT, Nat.reduceLeDiff, zipA, Qa, implies_true, Qa7, BU1]
 refine Qap w.table.length (fun i => ⟨lkp [(1, .pa (Qa7 w)), (3, .i i)], []⟩) (fun i => ∀ k j a b, k < j → j < i → w.table[k]? = some a → w.table[j]? = some b → Qe5 a b = false) ?_ ?_ ?_ ?_
 ·simp only [Qg, cutV, ↓reduceIte, Nat.reduceEqDiff, Qa7, BU1]
 ·intro k j a b _ h; omega
 ·intro i hi hc
  obtain ⟨b, hb⟩ : ∃ b, w.table[i]? = some b := ⟨_, Qc hi⟩
  have hlt : (i : Int) < w.table.length := by omega
  have h4 : inI ((i : Int) + 1) := by unfold inI; omega
  simp only [hlt, Qa0, ↓reduceIte, Nat.reduceEqDiff, Nat.reduceLeDiff, Qa, Qa7, BU1]
  refine Qap i (fun k => ⟨lkp [(1, .pa (Qa7 w)), (3, .i i), (4, .i k)], []⟩) (fun k => ∀ j a, j < k → w.table[j]? = some a → Qe5 a b = false) ?_ ?_ ?_ ?_
  ·simp only [Qg, cutV, ↓reduceIte, Nat.reduceEqDiff, Qa7, BU1]
  ·intro j x h; omega
  ·intro k hk hk2
   obtain ⟨a, ha⟩ : ∃ a, w.table[k]? = some a := ⟨_, Qc (by omega)⟩
   have hkt : (k : Int) < i := by omega
   have hkl : (k : Int) < w.table.length := by omega
   have h5 : inI ((k : Int) + 1) := by unfold inI; omega
   have hgo : Qe5 a b = false → ∀ j x, j < k + 1 → w.table[j]? = some x → Qe5 x b = false := fun e j x hj hx => by
    by_cases hji : j < k
    ·exact hk2 j x hji hx
    ·have : j = k := by omega
     subst this
     rw [ha] at hx; cases hx; exact e
   have hyes : Qe5 a b = true → Qcc w = 71 := fun e => by rw [hE, Qj8.2 ⟨k, i, a, b, hk, ha, hb, e⟩]; rfl
   by_cases e1 : a.spare = b.spare
   rotate_left
   ·simp only [ha, hb, hlt, hkt, hkl, e1, h5, Qf, Qe, Qbd, ↓Qam, Qaq, optL, Qa0, runX, fpQ, fpV, Qah, cutV, ↓reduceIte, Nat.reduceEqDiff, Nat.reduceAdd, Nat.reduceLeDiff, Nat.reduceBEq, Ql, Qn, beq_self_eq_true, Qk, Qi, Qm, Qa, forall_const, implies_true, Qo, Qj, Qd, imp_self, eTrial, Qa7, BU1]; exact hgo (by simp [Qe5, e1])
   by_cases e2 : a.make = b.make
   rotate_left
   ·simp only [ha, hb, hlt, hkt, hkl, e1, e2, h5, Qf, Qe, Qbd, ↓Qam, Qaq, optL, Qa0, runX, fpQ, fpV, Qah, cutV, ↓reduceIte, Nat.reduceEqDiff, Nat.reduceAdd, Nat.reduceLeDiff, Nat.reduceBEq, Ql, Qn, beq_self_eq_true, Qk, Qi, Qm, Qa, Qb, forall_const, implies_true, Qo, Qj, Qd, imp_self, eTrial, Qa7, BU1]; exact hgo (by simp [Qe5, e2])
   by_cases e3 : a.slot = b.slot
   rotate_left
   ·simp only [ha, hb, hlt, hkt, hkl, e1, e2, e3, h5, Qf, Qe, Qbd, ↓Qam, Qaq, optL, Qa0, runX, fpQ, fpV, Qah, cutV, ↓reduceIte, Nat.reduceEqDiff, Nat.reduceAdd, Nat.reduceLeDiff, Nat.reduceBEq, Ql, Qn, beq_self_eq_true, Qk, Qi, Qm, Qa, Qb, forall_const, implies_true, Qo, Qj, Qd, imp_self, eTrial, Qa7, BU1]; exact hgo (by simp [Qe5, e3])
   by_cases e4 : a.fits = b.fits
   ·simp only [ha, hb, hlt, hkt, hkl, e1, e2, e3, e4, h5, Qf, Qe, Qbd, ↓Qam, Qaq, optL, Qa0, runX, fpQ, fpV, Qah, cutV, ↓reduceIte, Nat.reduceEqDiff, Nat.reduceAdd, Nat.reduceLeDiff, Nat.reduceBEq, Ql, Qn, beq_self_eq_true, Qk, Qi, Qm, Qa, Qb, forall_const, implies_true, Qo, Qj, Qd, eTrial, Qa7, BU1]; exact hgo (by simp [Qe5, e4])
   ·have q := hyes (by simp [Qe5, e1, e2, e3, e4])
    simp only [ha, hb, hlt, hkt, hkl, e1, e2, e3, e4, q, Qaq, optL, Qa0, runX, fpQ, fpV, Qah, ↓reduceIte, Nat.reduceEqDiff, Nat.reduceAdd, Nat.reduceLeDiff, Nat.reduceBEq, Ql, Qn, rvs, beq_self_eq_true, Qk, Qi, Qm, Qa, Qb, forall_const, implies_true, Qo, Qj, Qd, eTrial, Qa7, BU1]
  ·intro hk2
   have hkt : ¬ ((i : Int) < i) := by omega
   simp only [hkt, h4, Qf, Qe, Qbd, ↓Qam, Qa0, cutV, ↓reduceIte, Nat.reduceEqDiff, Qa, Qa7, BU1]
   intro k j x y hkj hj hx hy
   by_cases hji : j < i
   ·exact hc k j x y hkj hji hx hy
   ·have : j = i := by omega
    subst this
    rw [hb] at hy; cases hy
    exact hk2 k x hkj hx
 ·intro hc
  have hlt : ¬ ((w.table.length : Int) < w.table.length) := by omega
  have : conB w.table = false := by
   cases h : conB w.table with
   | false => rfl
   | true =>
    obtain ⟨k, i, a, b, hki, ha, hb, e⟩ := Qj8.1 h
    rw [hc k i a b hki (Qaf hb) ha hb] at e; cases e
  have q : Qcc w = 0 := by rw [hE, this]; rfl
  simp only [hlt, q, Qa0, ↓reduceIte, Nat.reduceEqDiff, Nat.reduceLeDiff, rvs, Qa, Qa7, BU1]
end Go.CS
set_option maxRecDepth 8000
namespace Go.CS
open Go.Fam Go.Proofs
def rc159 : RC := (.seq (.reg false [(cQ 4 [] (.mv (kB false)))]) (.keep [0,1] (.seq (.seq (.reg false [(cI 5 0)]) (.keep [0,1,5] (.block 0 (.loop [0,1,5] none (.seq (.seq (.reg false [(cMv 6 5), (cMv 7 0), (cLn 8 7), (cB 9 .lss 6 8)]) (.keep [0,1,5,9] (.cond (.t 9) .skip (.exit 0)))) (.keep [0,1,5] (.seq (.block 1 (.seq (.reg false [(cMv 12 0), (cMv 13 5), (cA 14 1 12 13), (cLd 15 14 false 1), (cMv 16 1), (cB 17 .eql 15 16)]) (.keep [0,1,5,17] (.cond (.t 17) (.seq (.reg false [(cQ 4 [] (.mv (kB true)))]) .ret) .skip)))) (.keep [0,1,5] (.reg false [(cMv 10 5), (cC 11 .add 10 1), (cMv 5 11)]))))))))) (.keep [] (.seq (.reg false [(cQ 4 [] (.mv (kB false)))]) .ret)))))
def rs159 : List RV := [.t 4]
theorem Qw4 : CF Tryz.prog Tryz.f159 [] 0 1 rc159 rs159 2 := ⟨by kernel_rfl, by kernel_rfl, by kernel_rfl, by decide⟩
def rc131 : RC := (.seq (.reg false [(cX 3 0), (cQ 6 [] (.mv (kB false)))]) (.keep [1,2,3] (.seq (.seq (.reg false [(cI 7 0)]) (.keep [1,2,3,7] (.block 0 (.loop [1,2,3,7] (some 0) (.seq (.seq (.reg false [(cMv 9 7), (cFa 10 3 3), (cLd 11 10 false 1), (cLn 12 11), (cB 13 .lss 9 12)]) (.keep [1,2,3,7,13] (.cond (.t 13) .skip (.exit 0)))) (.keep [1,2,3,7] (.seq (.block 1 (.seq (.reg false [(cFa 16 3 3), (cLd 17 16 false 1), (cMv 18 7), (cA 19 4 17 18), (cLd 20 19 true 4), ⟨(some 8), none, [], none, .w (.alc [(.i 0), (.i 0), (.i 0), (.i 0)])⟩, ⟨none, none, [8,20], none, .w (.st 4 (.t 8) (.t 20))⟩]) (.keep [1,2,3,7,8] (.seq (.any true 0 [⟨(cFa 21 8 0), [], []⟩, ⟨(cLd 22 21 false 1), [], [0]⟩, ⟨(cMv 23 1), [], []⟩, ⟨(cB 24 .eql 22 23), [], [1,0,2]⟩, ⟨(cMv 25 24), [], [3,1,0,2]⟩, ⟨(gQ 26 25 true [3] (.ld true 4 (.t 3))), [], [4,3,1,0,2]⟩, ⟨(gMv 27 25 true 1), [], [4,3,1,0,2]⟩, ⟨(gMv 28 25 true 2), [], [4,3,1,0,2]⟩, ⟨(gQ 29 25 true [8] (.fad 1 (.t 8))), [], [4,3,1,0,2]⟩, ⟨(gQ 30 25 true [29] (.ld false 1 (.t 29))), [], [8,4,3,1,0,2]⟩, ⟨(gQ 31 25 true [8] (.fad 2 (.t 8))), [], [4,3,1,0,2]⟩, ⟨(gQ 32 25 true [31] (.ld false 1 (.t 31))), [], [10,4,3,1,0,2]⟩, ⟨(gQ 33 25 true [26,27,28,30,32] (.call (kF 150) [(.t 26), (.t 27), (.t 28), (.t 30), (.t 32)])), [], [5,4,3,1,0,2,6,7,9,8,11,10]⟩, ⟨(gQ 34 25 true [8] (.fad 3 (.t 8))), [], [4,3,1,0,2]⟩, ⟨(gQ 35 25 true [34] (.ld false 1 (.t 34))), [], [13,4,3,1,0,2]⟩, ⟨(gQ 36 25 true [35] (.bin .eql (.t 35) (kI 1))), [], [14,13,4,3,1,0,2]⟩, ⟨(gQ 37 25 true [33,36] (.bq true (.t 33) (.t 36))), [], [12,5,4,3,1,0,2,6,7,9,8,11,10,15,14,13]⟩, ⟨(cQ 38 [25,37] (.pick (.t 25) (.t 37) (kB false))), [], [4,3,1,0,2,16,12,5,6,7,9,8,11,10,15,14,13]⟩]) (.keep [1,2,3,7,38] (.cond (.t 38) (.seq (.reg false [(cQ 6 [] (.mv (kB false)))]) .ret) .skip)))))) (.drp 0 (.keep [1,2,3,7] (.reg false [(cMv 14 7), (cC 15 .add 14 1), (cMv 7 15)])))))))))) (.keep [1,2,3] (.seq (.any false 0 [⟨(cMv 39 2), [], []⟩, ⟨(cFa 40 3 0), [], []⟩, ⟨(cLd 41 40 false 1), [], [1]⟩, ⟨(cMv 42 1), [], []⟩, ⟨(cA 43 4 41 42), [], [2,1,3]⟩, ⟨(cFa 44 43 2), [], [4,2,1,3]⟩, ⟨(cFa 45 44 0), [], [5,4,2,1,3]⟩, ⟨(cLd 46 45 false 1), [], [6,5,4,2,1,3]⟩, ⟨(cFa 47 3 0), [], []⟩, ⟨(cLd 48 47 false 1), [], [8]⟩, ⟨(cMv 49 1), [], []⟩, ⟨(cA 50 4 48 49), [], [9,8,10]⟩, ⟨(cFa 51 50 2), [], [11,9,8,10]⟩, ⟨(cFa 52 51 1), [], [12,11,9,8,10]⟩, ⟨(cLd 53 52 false 1), [], [13,12,11,9,8,10]⟩, ⟨(cQ 54 [39,46,53] (.call (kF 87) [(.t 39), (.t 46), (.t 53)])), [], [0,7,6,5,4,2,1,3,14,13,12,11,9,8,10]⟩, ⟨(cMv 6 54), [], [15,0,7,6,5,4,2,1,3,14,13,12,11,9,8,10]⟩]) .ret)))))
def rs131 : List RV := [.t 6]
theorem Qvh : CF Tryz.prog Tryz.f131 [3] 0 1 rc131 rs131 3 := ⟨by kernel_rfl, by kernel_rfl, by kernel_rfl, by decide⟩
def rc103 : RC := (.seq (.reg false [(cX 2 0), (cQ 4 [] (.mv (.k (.z 1))))]) (.keep [1,2] (.seq (.reg false [(cQ 5 [] (.mv (.k (.z 1))))]) (.keep [1,2,5] (.seq (.seq (.reg false [(cFa 7 2 0), (cLd 8 7 false 1), (cMv 9 1), (cA 10 4 8 9), (cFa 11 10 2), (cFa 12 11 0), (cLd 13 12 false 1), (cMv 6 13)]) (.keep [1,2,5,6] (.block 0 (.own 5 1 (.loop [1,2,5,6] none (.seq (.seq (.reg false [(cMv 14 6), (cFa 15 2 0), (cLd 16 15 false 1), (cMv 17 1), (cA 18 4 16 17), (cFa 19 18 2), (cFa 20 19 1), (cLd 21 20 false 1), (cB 22 .leq 14 21)]) (.keep [1,2,5,6,22] (.cond (.t 22) .skip (.exit 0)))) (.keep [1,2,5,6] (.seq (.block 1 (.seq (.reg false [(cLd 25 2 true 4), (cMv 26 1), (cMv 27 6), (cQ 28 [25,26,27] (.call (kF 131) [(.t 25), (.t 26), (.t 27)]))]) (.keep [1,2,5,6,28] (.cond (.t 28) (.reg false [(cMv 29 5), (cMv 30 6), (cQ 31 [30] (.bsl 1 1 [(.i 0)] [(0,1, (.t 30))])), ⟨(some 32), none, [29,31], none, .w (.app 1 (.t 29) (.t 31))⟩, (cMv 5 32)]) .skip)))) (.keep [1,2,5,6] (.reg false [(cMv 23 6), (cC 24 .add 23 1), (cMv 6 24)])))))))))) (.keep [5] (.seq (.reg false [(cMv 33 5), (cMv 4 33)]) .ret)))))))
def rs103 : List RV := [.t 4]
theorem Qux : CF Tryz.prog Tryz.f103 [2,31] 0 1 rc103 rs103 2 := ⟨by kernel_rfl, by kernel_rfl, by kernel_rfl, by decide⟩
def rc76 : RC := (.seq (.reg false [(cX 2 0), (cI 4 0)]) (.keep [1,2] (.seq (.seq (.reg false [(cLd 7 2 true 4), (cQ 8 [7] (.call (kF 42) [(.t 7)])), (cMv 5 8)]) (.keep [1,2,5] (.seq (.reg false [(cMv 9 5), (cC 10 .neq 9 0)]) (.keep [1,2,5,10] (.cond (.t 10) (.seq (.reg false [(cMv 11 5), (cMv 4 11)]) .ret) .skip))))) (.keep [1,2] (.seq (.seq (.reg false [(cMv 12 1), (cN 13 12)]) (.keep [2,13] (.cond (.t 13) (.seq (.reg false [(cI 4 1)]) .ret) .skip))) (.keep [2] (.seq (.seq (.reg false [(cI 6 0)]) (.keep [2,6] (.block 0 (.loop [2,6] none (.seq (.seq (.reg false [(cMv 14 6), (cFa 15 2 0), (cLd 16 15 false 1), (cLn 17 16), (cB 18 .lss 14 17)]) (.keep [2,6,18] (.cond (.t 18) .skip (.exit 0)))) (.keep [2,6] (.seq (.block 1 (.seq (.reg false [(cLd 21 2 true 4), (cMv 22 6), (cQ 23 [21,22] (.call (kF 103) [(.t 21), (.t 22)])), (cLn 24 23), (cC 25 .eql 24 0)]) (.keep [2,6,25] (.cond (.t 25) (.seq (.reg false [(cI 4 3)]) .ret) .skip)))) (.keep [2,6] (.reg false [(cMv 19 6), (cC 20 .add 19 1), (cMv 6 20)]))))))))) (.keep [] (.seq (.reg false [(cI 4 0)]) .ret)))))))))
def rs76 : List RV := [.t 4]
theorem cf76 : CF Tryz.prog Tryz.f76 [2] 0 1 rc76 rs76 2 := ⟨by kernel_rfl, by kernel_rfl, by kernel_rfl, by decide⟩
def rc55 : RC := (.seq (.reg false [(cX 1 0), (cI 2 0)]) (.keep [1] (.seq (.reg false [(cLd 3 1 true 4), (cQ 4 [3] (.call (kF 76) [(.t 3), (kB true)])), (cMv 2 4)]) .ret)))
def rs55 : List RV := [.t 2]
theorem cf55 : CF Tryz.prog Tryz.f55 [1] 0 1 rc55 rs55 1 := ⟨by kernel_rfl, by kernel_rfl, by kernel_rfl, by decide⟩
def rc43 : RC := (.seq (.reg false [(cQ 6 [] (.mv (kB false)))]) (.keep [0,1,2] (.seq (.reg true [(cMv 7 1), (cMv 8 0), (cB 9 .leq 7 8), (cMv 10 9), (gMv 11 10 true 0), (gMv 12 10 true 2), (gQ 13 10 true [11,12] (.bin .leq (.t 11) (.t 12))), (cQ 14 [10,13] (.pick (.t 10) (.t 13) (kB false))), (cMv 6 14)]) .ret)))
def rs43 : List RV := [.t 6]
theorem cf43 : CF Tryz.prog Tryz.f43 [] 0 1 rc43 rs43 3 := ⟨by kernel_rfl, by kernel_rfl, by kernel_rfl, by decide⟩
def rc69 : RC := (.seq (.reg false [(cQ 4 [] (.mv (kB false)))]) (.keep [0,1] (.seq (.seq (.reg false [(cI 5 0)]) (.keep [0,1,5] (.block 0 (.loop [0,1,5] none (.seq (.seq (.reg false [(cMv 6 5), (cMv 7 0), (cLn 8 7), (cB 9 .lss 6 8)]) (.keep [0,1,5,9] (.cond (.t 9) .skip (.exit 0)))) (.keep [0,1,5] (.seq (.block 1 (.seq (.any true 0 [⟨(cMv 12 0), [], []⟩, ⟨(cMv 13 5), [], []⟩, ⟨(cA 14 1 12 13), [], [0,1]⟩, ⟨(cLd 15 14 false 1), [], [2,0,1]⟩, ⟨(cC 16 .lss 15 0), [], [3,2,0,1]⟩, ⟨(cMv 17 16), [], [4,3,2,0,1]⟩, ⟨(gMv 18 17 false 0), [], [5,4,3,2,0,1]⟩, ⟨(gMv 19 17 false 5), [], [5,4,3,2,0,1]⟩, ⟨(gQ 20 17 false [18,19] (.iad 1 (.t 18) (.t 19))), [], [6,5,4,3,2,0,1,7]⟩, ⟨(gQ 21 17 false [20] (.ld false 1 (.t 20))), [], [8,6,5,4,3,2,0,1,7]⟩, ⟨(gMv 22 17 false 1), [], [5,4,3,2,0,1]⟩, ⟨(gQ 23 17 false [21,22] (.bin .gtr (.t 21) (.t 22))), [], [9,8,6,5,4,3,2,0,1,7,10]⟩, ⟨(cQ 24 [17,23] (.pick (.t 17) (kB true) (.t 23))), [], [5,4,3,2,0,1,11,9,8,6,7,10]⟩, ⟨(cMv 25 24), [], [12,5,4,3,2,0,1,11,9,8,6,7,10]⟩, ⟨(gMv 26 25 false 5), [], [13,12,5,4,3,2,0,1,11,9,8,6,7,10]⟩, ⟨(gQ 27 25 false [26] (.bin .gtr (.t 26) (kI 0))), [], [14,13,12,5,4,3,2,0,1,11,9,8,6,7,10]⟩, ⟨(gMv 28 25 false 27), [], [15,14,13,12,5,4,3,2,0,1,11,9,8,6,7,10]⟩, ⟨(gMv 29 28 true 0), [], [16,15,14,13,12,5,4,3,2,0,1,11,9,8,6,7,10]⟩, ⟨(gMv 30 28 true 5), [], [16,15,14,13,12,5,4,3,2,0,1,11,9,8,6,7,10]⟩, ⟨(gQ 31 28 true [29,30] (.iad 1 (.t 29) (.t 30))), [], [17,16,15,14,13,12,5,4,3,2,0,1,11,9,8,6,7,10,18]⟩, ⟨(gQ 32 28 true [31] (.ld false 1 (.t 31))), [], [19,17,16,15,14,13,12,5,4,3,2,0,1,11,9,8,6,7,10,18]⟩, ⟨(gMv 33 28 true 0), [], [16,15,14,13,12,5,4,3,2,0,1,11,9,8,6,7,10]⟩, ⟨(gMv 34 28 true 5), [], [16,15,14,13,12,5,4,3,2,0,1,11,9,8,6,7,10]⟩, ⟨(gQ 35 28 true [34] (.bin .sub (.t 34) (kI 1))), [], [22,16,15,14,13,12,5,4,3,2,0,1,11,9,8,6,7,10]⟩, ⟨(gQ 36 28 true [33,35] (.iad 1 (.t 33) (.t 35))), [], [21,16,15,14,13,12,5,4,3,2,0,1,11,9,8,6,7,10,23,22]⟩, ⟨(gQ 37 28 true [36] (.ld false 1 (.t 36))), [], [24,21,16,15,14,13,12,5,4,3,2,0,1,11,9,8,6,7,10,23,22]⟩, ⟨(gQ 38 28 true [32,37] (.bin .leq (.t 32) (.t 37))), [], [20,19,17,16,15,14,13,12,5,4,3,2,0,1,11,9,8,6,7,10,18,25,24,21,23,22]⟩, ⟨(gQ 39 25 false [28,38] (.pick (.t 28) (.t 38) (kB false))), [], [16,15,14,13,12,5,4,3,2,0,1,11,9,8,6,7,10,26,20,19,17,18,25,24,21,23,22]⟩, ⟨(cQ 40 [25,39] (.pick (.t 25) (kB true) (.t 39))), [], [13,12,5,4,3,2,0,1,11,9,8,6,7,10,27,16,15,14,26,20,19,17,18,25,24,21,23,22]⟩]) (.keep [0,1,5,40] (.cond (.t 40) (.seq (.reg false [(cQ 4 [] (.mv (kB false)))]) .ret) .skip)))) (.keep [0,1,5] (.reg false [(cMv 10 5), (cC 11 .add 10 1), (cMv 5 11)]))))))))) (.keep [] (.seq (.reg false [(cQ 4 [] (.mv (kB true)))]) .ret)))))
def rs69 : List RV := [.t 4]
theorem cf69 : CF Tryz.prog Tryz.f69 [] 0 1 rc69 rs69 2 := ⟨by kernel_rfl, by kernel_rfl, by kernel_rfl, by decide⟩
def rc44 : RC := (.seq (.reg false [(cX 2 0), (cX 3 1), (cQ 4 [] (.mv (kB false)))]) (.keep [2,3] (.seq (.seq (.reg true [(cFa 5 3 0), (cLd 6 5 false 1), (cQ 7 [6] (.call (kF 43) [(.t 6), (kI 0), (kI 99)])), (cN 8 7), (cMv 9 8), (gQ 10 9 false [3] (.fad 1 (.t 3))), (gQ 11 9 false [10] (.ld false 1 (.t 10))), (gQ 12 9 false [11] (.call (kF 43) [(.t 11), (kI 0), (kI 99)])), (gQ 13 9 false [12] (.not (.t 12))), (cQ 14 [9,13] (.pick (.t 9) (kB true) (.t 13))), (cMv 15 14), (gQ 16 15 false [3] (.fad 2 (.t 3))), (gQ 17 15 false [16] (.ld false 1 (.t 16))), (gQ 18 15 false [17] (.call (kF 43) [(.t 17), (kI 0), (kI 99)])), (gQ 19 15 false [18] (.not (.t 18))), (cQ 20 [15,19] (.pick (.t 15) (kB true) (.t 19))), (cMv 21 20), (gQ 22 21 false [3] (.fad 3 (.t 3))), (gQ 23 21 false [22] (.ld false 1 (.t 22))), (gQ 24 21 false [2] (.fad 0 (.t 2))), (gQ 25 21 false [24] (.fad 1 (.t 24))), (gQ 26 21 false [25] (.ld false 1 (.t 25))), (gQ 27 21 false [26] (.len (.t 26))), (gQ 28 21 false [27] (.bin .sub (.t 27) (kI 1))), (gQ 29 21 false [23,28] (.call (kF 43) [(.t 23), (kI 0), (.t 28)])), (gQ 30 21 false [29] (.not (.t 29))), (cQ 31 [21,30] (.pick (.t 21) (kB true) (.t 30)))]) (.keep [2,3,31] (.cond (.t 31) (.seq (.reg false [(cQ 4 [] (.mv (kB false)))]) .ret) .skip))) (.keep [2,3] (.seq (.any false 0 [⟨(cFa 32 3 4), [], []⟩, ⟨(cLd 33 32 false 1), [], [0]⟩, ⟨(cFa 34 2 0), [], []⟩, ⟨(cFa 35 34 1), [], [2]⟩, ⟨(cLd 36 35 false 1), [], [3,2]⟩, ⟨(cFa 37 3 3), [], []⟩, ⟨(cLd 38 37 false 1), [], [5]⟩, ⟨(cA 39 1 36 38), [], [4,3,2,6,5]⟩, ⟨(cFa 40 39 0), [], [7,4,3,2,6,5]⟩, ⟨(cLd 41 40 false 1), [], [8,7,4,3,2,6,5]⟩, ⟨(cLn 42 41), [], [9,8,7,4,3,2,6,5]⟩, ⟨(cC 43 .sub 42 1), [], [10,9,8,7,4,3,2,6,5]⟩, ⟨(cQ 44 [33,43] (.call (kF 69) [(.t 33), (.t 43)])), [], [1,0,11,10,9,8,7,4,3,2,6,5]⟩, ⟨(cMv 4 44), [], [12,1,0,11,10,9,8,7,4,3,2,6,5]⟩]) .ret)))))
def rs44 : List RV := [.t 4]
theorem cf44 : CF Tryz.prog Tryz.f44 [2,3] 0 1 rc44 rs44 2 := ⟨by kernel_rfl, by kernel_rfl, by kernel_rfl, by decide⟩
def rc45 : RC := (.seq (.reg false [(cX 1 0), (cQ 2 [] (.mv (kB false)))]) (.keep [1] (.seq (.reg true [(cFa 3 1 0), (cLd 4 3 false 1), (cLn 5 4), (cQ 6 [5] (.call (kF 43) [(.t 5), (kI 1), (kI 8)])), (cMv 7 6), (gQ 8 7 true [1] (.fad 0 (.t 1))), (gQ 9 7 true [8] (.ld false 1 (.t 8))), (gQ 10 7 true [9] (.call (kF 69) [(.t 9), (kI 99)])), (cQ 11 [7,10] (.pick (.t 7) (.t 10) (kB false))), (cMv 12 11), (gQ 13 12 true [1] (.fad 1 (.t 1))), (gQ 14 12 true [13] (.fad 0 (.t 13))), (gQ 15 12 true [14] (.ld false 1 (.t 14))), (gQ 16 12 true [15] (.bin .leq (kI 0) (.t 15))), (cQ 17 [12,16] (.pick (.t 12) (.t 16) (kB false))), (cMv 18 17), (gQ 19 18 true [1] (.fad 1 (.t 1))), (gQ 20 18 true [19] (.fad 0 (.t 19))), (gQ 21 18 true [20] (.ld false 1 (.t 20))), (gQ 22 18 true [1] (.fad 1 (.t 1))), (gQ 23 18 true [22] (.fad 1 (.t 22))), (gQ 24 18 true [23] (.ld false 1 (.t 23))), (gQ 25 18 true [21,24] (.bin .leq (.t 21) (.t 24))), (cQ 26 [18,25] (.pick (.t 18) (.t 25) (kB false))), (cMv 27 26), (gQ 28 27 true [1] (.fad 1 (.t 1))), (gQ 29 27 true [28] (.fad 1 (.t 28))), (gQ 30 27 true [29] (.ld false 1 (.t 29))), (gQ 31 27 true [30] (.bin .leq (.t 30) (kI 99))), (cQ 32 [27,31] (.pick (.t 27) (.t 31) (kB false))), (cMv 33 32), (gQ 34 33 true [1] (.fad 3 (.t 1))), (gQ 35 33 true [34] (.ld false 1 (.t 34))), (gQ 36 33 true [35] (.call (kF 43) [(.t 35), (kI 0), (kI 99)])), (cQ 37 [33,36] (.pick (.t 33) (.t 36) (kB false))), (cMv 38 37), (gQ 39 38 true [1] (.fad 4 (.t 1))), (gQ 40 38 true [39] (.ld false 1 (.t 39))), (gQ 41 38 true [40] (.call (kF 43) [(.t 40), (kI 0), (kI 99)])), (cQ 42 [38,41] (.pick (.t 38) (.t 41) (kB false))), (cMv 43 42), (gQ 44 43 true [1] (.fad 5 (.t 1))), (gQ 45 43 true [44] (.ld false 1 (.t 44))), (gQ 46 43 true [45] (.call (kF 43) [(.t 45), (kI 0), (kI 100000)])), (cQ 47 [43,46] (.pick (.t 43) (.t 46) (kB false))), (cMv 2 47)]) .ret)))
def rs45 : List RV := [.t 2]
theorem cf45 : CF Tryz.prog Tryz.f45 [1] 0 1 rc45 rs45 1 := ⟨by kernel_rfl, by kernel_rfl, by kernel_rfl, by decide⟩
def rc19 : RC := (.seq (.reg false [(cX 1 0), (cI 2 0)]) (.keep [1] (.seq (.seq (.reg false [(cFa 9 1 0), (cLd 10 9 true 4), (cQ 11 [10] (.call (kF 42) [(.t 10)])), (cMv 3 11)]) (.keep [1,3] (.seq (.reg false [(cMv 12 3), (cC 13 .neq 12 0)]) (.keep [1,3,13] (.cond (.t 13) (.seq (.reg false [(cMv 14 3), (cMv 2 14)]) .ret) .skip))))) (.keep [1] (.seq (.seq (.reg true [(cFa 15 1 4), (cLd 16 15 false 1), (cLn 17 16), (cFa 18 1 0), (cFa 19 18 0), (cLd 20 19 false 1), (cLn 21 20), (cB 22 .neq 17 21), (cMv 23 22), (gQ 24 23 false [1] (.fad 5 (.t 1))), (gQ 25 23 false [24] (.ld false 1 (.t 24))), (gQ 26 23 false [25] (.len (.t 25))), (gQ 27 23 false [26] (.bin .gtr (.t 26) (kI 8))), (cQ 28 [23,27] (.pick (.t 23) (kB true) (.t 27))), (cMv 29 28), (gQ 30 29 false [1] (.fad 6 (.t 1))), (gQ 31 29 false [30] (.ld false 1 (.t 30))), (gQ 32 29 false [31] (.len (.t 31))), (gQ 33 29 false [32] (.bin .gtr (.t 32) (kI 6))), (cQ 34 [29,33] (.pick (.t 29) (kB true) (.t 33))), (cMv 35 34), (gQ 36 35 false [1] (.fad 7 (.t 1))), (gQ 37 35 false [36] (.ld false 1 (.t 36))), (gQ 38 35 false [37] (.len (.t 37))), (gQ 39 35 false [38] (.bin .gtr (.t 38) (kI 8))), (cQ 40 [35,39] (.pick (.t 35) (kB true) (.t 39))), (cMv 41 40), (gQ 42 41 false [1] (.fad 8 (.t 1))), (gQ 43 41 false [42] (.ld false 1 (.t 42))), (gQ 44 41 false [43] (.call (kF 43) [(.t 43), (kI 0), (kI 99)])), (gQ 45 41 false [44] (.not (.t 44))), (cQ 46 [41,45] (.pick (.t 41) (kB true) (.t 45)))]) (.keep [1,46] (.cond (.t 46) (.seq (.reg false [(cI 2 80)]) .ret) .skip))) (.keep [1] (.seq (.seq (.reg false [(cI 4 0)]) (.keep [1,4] (.block 0 (.loop [1,4] none (.seq (.seq (.reg false [(cMv 47 4), (cFa 48 1 4), (cLd 49 48 false 1), (cLn 50 49), (cB 51 .lss 47 50)]) (.keep [1,4,51] (.cond (.t 51) .skip (.exit 0)))) (.keep [1,4] (.seq (.block 1 (.seq (.reg false [(cFa 54 1 4), (cLd 55 54 false 1), (cMv 56 4), (cA 57 1 55 56), (cLd 58 57 false 1), (cQ 59 [58] (.call (kF 43) [(.t 58), (kI 0), (kI 10)])), (cN 60 59)]) (.keep [1,4,60] (.cond (.t 60) (.seq (.reg false [(cI 2 80)]) .ret) .skip)))) (.keep [1,4] (.reg false [(cMv 52 4), (cC 53 .add 52 1), (cMv 4 53)]))))))))) (.keep [1] (.seq (.seq (.reg false [(cI 5 0)]) (.keep [1,5] (.block 2 (.loop [1,5] none (.seq (.seq (.reg false [(cMv 61 5), (cFa 62 1 5), (cLd 63 62 false 1), (cLn 64 63), (cB 65 .lss 61 64)]) (.keep [1,5,65] (.cond (.t 65) .skip (.exit 2)))) (.keep [1,5] (.seq (.block 3 (.seq (.any false 0 [⟨(cLd 68 1 true 9), [], []⟩, ⟨(cFa 69 1 5), [], []⟩, ⟨(cLd 70 69 false 1), [], [1]⟩, ⟨(cMv 71 5), [], []⟩, ⟨(cA 72 5 70 71), [], [2,1,3]⟩, ⟨(cLd 73 72 true 5), [], [4,2,1,3]⟩, ⟨(cQ 74 [68,73] (.call (kF 44) [(.t 68), (.t 73)])), [], [0,5,4,2,1,3]⟩, ⟨(cN 75 74), [], [6,0,5,4,2,1,3]⟩]) (.keep [1,5,75] (.cond (.t 75) (.seq (.reg false [(cI 2 80)]) .ret) .skip)))) (.keep [1,5] (.reg false [(cMv 66 5), (cC 67 .add 66 1), (cMv 5 67)]))))))))) (.keep [1] (.seq (.seq (.reg false [(cI 6 0)]) (.keep [1,6] (.block 4 (.loop [1,6] none (.seq (.seq (.reg false [(cMv 76 6), (cFa 77 1 6), (cLd 78 77 false 1), (cLn 79 78), (cB 80 .lss 76 79)]) (.keep [1,6,80] (.cond (.t 80) .skip (.exit 4)))) (.keep [1,6] (.seq (.block 5 (.seq (.reg false [(cFa 83 1 6), (cLd 84 83 false 1), (cMv 85 6), (cA 86 6 84 85), (cLd 87 86 true 6), (cQ 88 [87] (.call (kF 45) [(.t 87)])), (cN 89 88)]) (.keep [1,6,89] (.cond (.t 89) (.seq (.reg false [(cI 2 80)]) .ret) .skip)))) (.keep [1,6] (.reg false [(cMv 81 6), (cC 82 .add 81 1), (cMv 6 82)]))))))))) (.keep [1] (.seq (.seq (.reg false [(cI 7 0)]) (.keep [1,7] (.block 6 (.loop [1,7] (some 0) (.seq (.seq (.reg false [(cMv 90 7), (cFa 91 1 7), (cLd 92 91 false 1), (cLn 93 92), (cB 94 .lss 90 93)]) (.keep [1,7,94] (.cond (.t 94) .skip (.exit 6)))) (.keep [1,7] (.seq (.block 7 (.seq (.reg false [(cFa 97 1 7), (cLd 98 97 false 1), (cMv 99 7), (cA 100 3 98 99), (cLd 101 100 true 3), ⟨(some 8), none, [], none, .w (.alc [(.i 0), (.i 0), (.i 0)])⟩, ⟨none, none, [8,101], none, .w (.st 3 (.t 8) (.t 101))⟩]) (.keep [1,7,8] (.seq (.reg true [(cFa 102 8 0), (cLd 103 102 false 1), (cQ 104 [103] (.call (kF 43) [(.t 103), (kI 0), (kI 99)])), (cN 105 104), (cMv 106 105), (gQ 107 106 false [8] (.fad 1 (.t 8))), (gQ 108 106 false [107] (.ld false 1 (.t 107))), (gQ 109 106 false [1] (.fad 0 (.t 1))), (gQ 110 106 false [109] (.fad 0 (.t 109))), (gQ 111 106 false [110] (.ld false 1 (.t 110))), (gQ 112 106 false [111] (.len (.t 111))), (gQ 113 106 false [112] (.bin .sub (.t 112) (kI 1))), (gQ 114 106 false [108,113] (.call (kF 43) [(.t 108), (kI 0), (.t 113)])), (gQ 115 106 false [114] (.not (.t 114))), (cQ 116 [106,115] (.pick (.t 106) (kB true) (.t 115))), (cMv 117 116), (gQ 118 117 false [8] (.fad 2 (.t 8))), (gQ 119 117 false [118] (.ld false 1 (.t 118))), (gQ 120 117 false [119] (.call (kF 43) [(.t 119), (kI 1), (kI 10)])), (gQ 121 117 false [120] (.not (.t 120))), (cQ 122 [117,121] (.pick (.t 117) (kB true) (.t 121)))]) (.keep [1,7,122] (.cond (.t 122) (.seq (.reg false [(cI 2 80)]) .ret) .skip)))))) (.drp 0 (.keep [1,7] (.reg false [(cMv 95 7), (cC 96 .add 95 1), (cMv 7 96)])))))))))) (.keep [] (.seq (.reg false [(cI 2 0)]) .ret)))))))))))))))
def rs19 : List RV := [.t 2]
theorem cf19 : CF Tryz.prog Tryz.f19 [1] 0 1 rc19 rs19 1 := ⟨by kernel_rfl, by kernel_rfl, by kernel_rfl, by decide⟩
def rc32 : RC := (.seq (.reg false [(cX 2 0), (cI 4 0)]) (.keep [1,2] (.seq (.seq (.reg false [(cLd 6 2 true 9), (cQ 7 [6] (.call (kF 19) [(.t 6)])), (cMv 5 7)]) (.keep [1,2,5] (.seq (.reg false [(cMv 8 5), (cC 9 .neq 8 0)]) (.keep [1,2,5,9] (.cond (.t 9) (.seq (.reg false [(cMv 10 5), (cMv 4 10)]) .ret) .skip))))) (.keep [1,2] (.seq (.seq (.reg false [(cMv 11 1), (cN 12 11)]) (.keep [2,12] (.cond (.t 12) (.seq (.reg false [(cI 4 1)]) .ret) .skip))) (.keep [2] (.seq (.reg false [(cFa 13 2 0), (cLd 14 13 true 4), (cQ 15 [14] (.call (kF 55) [(.t 14)])), (cMv 4 15)]) .ret)))))))
def rs32 : List RV := [.t 4]
theorem cf32 : CF Tryz.prog Tryz.f32 [2] 0 1 rc32 rs32 2 := ⟨by kernel_rfl, by kernel_rfl, by kernel_rfl, by decide⟩
def rc13 : RC := (.seq (.reg false [(cX 1 0), (cI 2 0)]) (.keep [1] (.seq (.reg false [(cLd 3 1 true 9), (cQ 4 [3] (.call (kF 32) [(.t 3), (kB true)])), (cMv 2 4)]) .ret)))
def rs13 : List RV := [.t 2]
theorem cf13 : CF Tryz.prog Tryz.f13 [1] 0 1 rc13 rs13 1 := ⟨by kernel_rfl, by kernel_rfl, by kernel_rfl, by decide⟩
end Go.CS
set_option linter.all false
namespace Go.CS
open Go.Fam Go.Proofs
open Go.C06 (Span eI eIs Qbx gI gR dI Qbl Qcj fnG Qad Qab Qa6 Qa8 idxOf Qas Qaj Qal Qar Qai Qag Qac Qat Qb3 Qc5 vw_I Qay hmix eLI dLI Qca Qan Qa3 Qaa)
variable {Γ : Gam}
theorem W159 (l : List Int) (n : Int) (hl : l.length ≤ 1000000) : Qa5 Tryz.prog 159 [.sl 1 (l.map eI), .i n] (.b (decide (n ∈ l))) := by
 refine Qa4 okK5 hmix Tryz.func159 Qw4.b Qw4.c Qw4.s Qw4.n ?_
 simp only [rc159, rs159, Qa0, ↓reduceIte, Nat.reduceEqDiff, zipA, reduceCtorEq, BU1]
 refine Qap l.length (fun k => ⟨lkp [(0, .sl 1 (l.map eI)), (1, .i n), (5, .i k)], []⟩) (fun k => ∀ j x, j < k → l[j]? = some x → x ≠ n) ?_ ?_ ?_ ?_
 ·simp only [Qg, ↓reduceIte, Nat.reduceEqDiff, reduceCtorEq, BU1]
 ·intro j x h; omega
 ·intro k hk hc
  obtain ⟨x, hx⟩ : ∃ x, l[k]? = some x := ⟨_, Qc hk⟩
  have hlt : (k : Int) < l.length := by omega
  have h4 : inI ((k : Int) + 1) := by unfold inI; omega
  by_cases e : x = n
  ·have : n ∈ l := e ▸ Qh hx
   simp only [hx, hlt, e, this, Qa0, ↓reduceIte, Nat.reduceEqDiff, Nat.reduceLeDiff, rvs, Qa, reduceCtorEq, ne_eq, eI, BU1]
  ·simp only [hx, hlt, e, h4, Qf, Qe, Qa0, ↓reduceIte, Nat.reduceEqDiff, Nat.reduceLeDiff, Qa, reduceCtorEq, ne_eq, eI, BU1]
   intro j y hj hy
   by_cases hjk : j < k
   ·exact hc j y hjk hy
   ·have : j = k := by omega
    subst this
    rw [hx] at hy; cases hy; exact e
 ·intro hc
  have hlt : ¬ ((l.length : Int) < l.length) := by omega
  have : n ∉ l := fun hm => by
   obtain ⟨j, hj⟩ := Qt hm
   exact hc j n (Qaf hj) hj rfl
  simp only [hlt, this, Qa0, ↓reduceIte, Nat.reduceEqDiff, rvs, Qa, reduceCtorEq, BU1]
noncomputable def K6 : Gam := (K5.ext 159 (fnG eLI dLI (fun a => a.1.length ≤ 1000000) (fun a => decide (a.2 ∈ a.1)) .b)).ext 42 (fnG eW1 dW1 SmallW Qcc .i)
theorem okK6 : GOk Tryz.prog K6 := (okK5.ext (f := 159) (fun a w => Tryz.call159 a w) (Qad (e := eLI) (d := dLI) (ok := fun a => a.1.length ≤ 1000000) (g := fun a => decide (a.2 ∈ a.1)) (eb := .b) fun a h => W159 a.1 a.2 h)).ext (f := 42) (fun a w => Tryz.call42 a w) (Qad (e := eW1) (d := dW1) (ok := SmallW) (g := Qcc) (eb := .i) fun a h => W42 a h)
theorem h159 (l : List Int) (n : Int) : K6 159 [.sl 1 (l.map eI), .i n] = (l.length ≤ 1000000, .b (decide (n ∈ l))) := (show K6 159 _ = fnG eLI dLI (fun a => a.1.length ≤ 1000000) (fun a => decide (a.2 ∈ a.1)) .b (eLI (l, n)) from rfl).trans (Qab _ (Qca _))
theorem h42 (w : Work) : K6 42 [.ag (Qa7 w)] = (SmallW w, .i (Qcc w)) := (show K6 42 _ = fnG eW1 dW1 SmallW Qcc .i (eW1 w) from rfl).trans (Qab _ (Qnu _))
theorem Zbq (n lo hi : Int)  : K6 87 [.i n, .i lo, .i hi] = (True, .b (Qa6 n lo hi)) := h87 n lo hi
def Qc0 (w : Work) (i : Int) : Spare := w.spares.getD i.toNat ⟨0, 0, ⟨0, 0⟩⟩
def Qfm (w : Work) (m k : Int) : Slot := (Qbm w m).getD k.toNat ⟨0, [], ⟨0, 0⟩⟩
def Qcv (w : Work) (i n m k : Int) : Bool := decide ((Qc0 w i).kind = (Qfm w m k).kind) && decide ((Qc0 w i).sect ∈ (Qfm w m k).secs) && Qa6 n (Qfm w m k).len.low ((Qfm w m k).len.high + w.cut)
structure OkW (w : Work) : Prop where
 nsp : w.spares.length ≤ 10
 nmk : w.makes.length ≤ 6
 cut : 0 ≤ w.cut ∧ w.cut ≤ 99
 ntb : w.table.length ≤ 30
 spare : ∀ s ∈ w.spares, okSpare s = true
 make : ∀ m ∈ w.makes, m.length ≤ 4 ∧ ∀ t ∈ m, okSlot t = true
 trial : ∀ t ∈ w.table, Qb9 w t = true
theorem Qav {n a b : Int} : Qa6 n a b = true ↔ a ≤ n ∧ n ≤ b := by simp [Qa6]
theorem Qm1 {w : Work} (h : Qcy w = true) : OkW w := by
 unfold Qcy at h
 simp only [Qq, decide_eq_true_eq, Q0, Qav] at h
 obtain ⟨⟨⟨⟨⟨⟨h1, h2⟩, h3⟩, h4⟩, h5⟩, h6⟩, h7⟩ := h
 refine ⟨by omega, by omega, h3, by omega, h5, fun m hm => ?_, h7⟩
 have := h6 m hm
 unfold okMake at this
 simp only [Qq, decide_eq_true_eq, Q0] at this
 exact ⟨by omega, this.2⟩
theorem Qon {s : Span} : Qez s = true ↔ 0 ≤ s.low ∧ s.low ≤ s.high ∧ s.high ≤ 999 := by
 simp [Qez, Qa6, and_assoc]
theorem Qfd {s : Spare} (h : okSpare s = true) : 0 ≤ s.len.low ∧ s.len.low ≤ s.len.high ∧ s.len.high ≤ 999 := by
 unfold okSpare at h
 simp only [Qq] at h
 exact Qon.1 h.2
theorem Qkm {t : Slot} (h : okSlot t = true) : t.secs.length ≤ 4 ∧ 0 ≤ t.len.low ∧ t.len.low ≤ t.len.high ∧ t.len.high ≤ 999 := by
 unfold okSlot at h
 simp only [Qq, decide_eq_true_eq] at h
 have := Qon.1 h.2
 exact ⟨by omega, this⟩
theorem OkW.small {w : Work} (h : OkW w) : SmallW w :=
 ⟨by have := h.nsp; omega, by have := h.nmk; omega, fun m hm => by have := (h.make m hm).1; omega, fun m hm t ht => by have := (Qkm ((h.make m hm).2 t ht)).1; omega, by have := h.ntb; omega⟩
theorem Qf4 {w : Work} {i : Int} (h : 0 ≤ i ∧ i < w.spares.length) : w.spares[i.toNat]? = some (Qc0 w i) := by
 unfold Qc0
 rw [Qr, Qc (by omega)]; rfl
theorem Qqx {w : Work} {m k : Int} (h : Qbg w m k = true) : (0 ≤ m ∧ m < w.makes.length) ∧ w.makes[m.toNat]? = some (Qbm w m) ∧ (0 ≤ k ∧ k < (Qbm w m).length) ∧ (Qbm w m)[k.toNat]? = some (Qfm w m k) := by
 unfold Qbg at h
 rw [Qq] at h
 obtain ⟨h1, h2, h3⟩ := Qe9 h.1
 have h4 := Qav.1 h.2
 refine ⟨⟨h1, h2⟩, h3, ⟨h4.1, by omega⟩, ?_⟩
 unfold Qfm
 rw [Qr, Qc (by omega)]; rfl
structure OkF (w : Work) (i m k : Int) : Prop where
 ok : OkW w
 sp : 0 ≤ i ∧ i < w.spares.length
 sl : Qbg w m k = true
theorem W150 (w : Work) (i n m k : Int) (h : OkF w i m k) : Qa5 Tryz.prog 150 [.ag (Qa7 w), .i i, .i n, .i m, .i k] (.b (Qcv w i n m k)) := by
 refine Qa4 okK6 hmix Tryz.func150 Qvw.b Qvw.c Qvw.s Qvw.n ?_
 obtain ⟨hw, hsp, hsl⟩ := h
 have hs := Qf4 hsp
 obtain ⟨hm1, hm2, hk1, hk2⟩ := Qqx hsl
 have hS := hw.spare _ (Qh hs)
 have hT := Qkm ((hw.make _ (Qh hm2)).2 _ (Qh hk2))
 have hc := hw.cut
 have hl : (Qfm w m k).secs.length ≤ 1000000 := by omega
 have hi : inI ((Qfm w m k).len.high + w.cut) := by unfold inI; omega
 unfold Qcv
 generalize Qc0 w i = s at *
 generalize Qfm w m k = t at *
 generalize Qbm w m = mk at *
 by_cases e1 : s.kind = t.kind
 ·by_cases e2 : s.sect ∈ t.secs
  ·simp only [rc150, rs150, hs, hsp, hm1, hm2, hk1, hk2, eMake, e1, h159, hl, e2, Zbq, hi, Qaq, optL, Qa0, runX, fpQ, fpV, Qah, Qa2, Qa1, flat, ↓reduceIte, Nat.reduceEqDiff, Nat.reduceAdd, Nat.reduceLT, Nat.reduceLeDiff, Nat.reduceBEq, Ql, Qn, rvs, zipA, beq_self_eq_true, Qk, Qi, Qm, Qa, Qb, forall_const, implies_true, reduceCtorEq, Qo, Qj, Qd, eSpare, eSlot, eMake, Qa7, BU1]
  ·simp only [rc150, rs150, hs, hsp, hm1, hm2, hk1, hk2, eMake, e1, h159, hl, e2, Zbq, hi, Qaq, optL, Qa0, runX, fpQ, fpV, Qah, Qa2, Qa1, flat, ↓reduceIte, Nat.reduceEqDiff, Nat.reduceAdd, Nat.reduceLT, Nat.reduceLeDiff, Nat.reduceBEq, Ql, Qn, rvs, zipA, beq_self_eq_true, Qk, Qi, Qm, Qa, Qb, forall_const, implies_true, reduceCtorEq, Qo, Qj, Qd, imp_self, eSpare, eSlot, eMake, Qa7, BU1]
 ·simp only [rc150, rs150, hs, hsp, hm1, hm2, hk1, hk2, eMake, e1, Qaq, optL, Qa0, runX, fpQ, fpV, Qbh, Qah, Qa2, Qa1, ↓reduceIte, Nat.reduceEqDiff, Nat.reduceAdd, Nat.reduceLT, Nat.reduceLeDiff, Nat.reduceBEq, Ql, Qn, rvs, zipA, beq_self_eq_true, Qk, Qi, Qm, Qa, forall_const, implies_true, reduceCtorEq, Qo, Qj, Qd, imp_self, eSpare, eSlot, eMake, Qa7, BU1]
def eWF (a : Work × Int × Int × Int × Int) : List V := [.ag (Qa7 a.1), .i a.2.1, .i a.2.2.1, .i a.2.2.2.1, .i a.2.2.2.2]
def dWF : List V → Work × Int × Int × Int × Int | [.ag s, .i a, .i b, .i c, .i d] => (Qct s, a, b, c, d) | _ => (Qct [], 0, 0, 0, 0)
theorem Zd7 (a : Work × Int × Int × Int × Int) : dWF (eWF a) = a := by obtain ⟨w, n, m, k, l⟩ := a; simp [dWF, eWF, Qcu]
noncomputable def K7 : Gam := K6.ext 150 (fnG eWF dWF (fun a => OkF a.1 a.2.1 a.2.2.2.1 a.2.2.2.2) (fun a => Qcv a.1 a.2.1 a.2.2.1 a.2.2.2.1 a.2.2.2.2) .b)
theorem okK7 : GOk Tryz.prog K7 := okK6.ext (f := 150) (fun a w => Tryz.call150 a w) (Qad (e := eWF) (d := dWF) (ok := fun a => OkF a.1 a.2.1 a.2.2.2.1 a.2.2.2.2) (g := fun a => Qcv a.1 a.2.1 a.2.2.1 a.2.2.2.1 a.2.2.2.2) (eb := .b) fun a h => W150 a.1 a.2.1 a.2.2.1 a.2.2.2.1 a.2.2.2.2 h)
theorem h150 (w : Work) (i n m k : Int) : K7 150 [.ag (Qa7 w), .i i, .i n, .i m, .i k] = (OkF w i m k, .b (Qcv w i n m k)) := (show K7 150 _ = fnG eWF dWF (fun a => OkF a.1 a.2.1 a.2.2.2.1 a.2.2.2.2) (fun a => Qcv a.1 a.2.1 a.2.2.1 a.2.2.2.1 a.2.2.2.2) .b (eWF (w, i, n, m, k)) from rfl).trans (Qab _ (Zd7 _))
theorem Zgs (n lo hi : Int)  : K7 87 [.i n, .i lo, .i hi] = (True, .b (Qa6 n lo hi)) := h87 n lo hi
def soB (w : Work) (i n : Int) (t : Trial) : Bool := !(decide (t.spare = i)) || (Qcv w i n t.make t.slot == decide (t.fits = 1))
def canB (w : Work) (i n : Int) : Bool := w.table.all (soB w i n) && Qa6 n (Qc0 w i).len.low (Qc0 w i).len.high
structure OkI (w : Work) (i : Int) : Prop where
 ok : OkW w
 sp : 0 ≤ i ∧ i < w.spares.length
theorem OkI.fits {w : Work} {t : Trial} {i : Int} (h : OkI w i) (ht : t ∈ w.table) : OkF w i t.make t.slot := by
 have := h.ok.trial t ht
 unfold Qb9 at this
 simp only [Qq] at this
 exact ⟨h.ok, h.sp, this.1.2⟩
theorem W131 (w : Work) (i n : Int) (h : OkI w i) : Qa5 Tryz.prog 131 [.ag (Qa7 w), .i i, .i n] (.b (canB w i n)) := by
 refine Qa4 okK7 hmix Tryz.func131 Qvh.b Qvh.c Qvh.s Qvh.n ?_
 have hs := Qf4 h.sp
 have hsp := h.sp
 have hT := h.ok.ntb
 simp only [rc131, rs131, Qa0, Qa2, Qa1, ↓reduceIte, Nat.reduceEqDiff, Nat.reduceAdd, zipA, reduceCtorEq, Qa7, BU1]
 refine Qap w.table.length (fun k => ⟨lkp [(1, .i i), (2, .i n), (3, .pa (Qa7 w)), (7, .i k)], []⟩) (fun k => ∀ j x, j < k → w.table[j]? = some x → soB w i n x = true) ?_ ?_ ?_ ?_
 ·simp only [Qg, cutV, ↓reduceIte, Nat.reduceEqDiff, Qa7, BU1]
 ·intro j x h; omega
 ·intro k hk hc
  obtain ⟨x, hx⟩ : ∃ x, w.table[k]? = some x := ⟨_, Qc hk⟩
  have hlt : (k : Int) < w.table.length := by omega
  have h4 : inI ((k : Int) + 1) := by unfold inI; omega
  have hF := h.fits (Qh hx)
  have hno : soB w i n x = false → canB w i n = false := fun e => by unfold canB; rw [Qeu hx e]; rfl
  by_cases e1 : x.spare = i
  ·have g := h150 w i n x.make x.slot
   unfold Qa7 at g
   by_cases e2 : x.fits = 1
   ·cases e3 : Qcv w i n x.make x.slot with
    | false =>
     have q := hno (by simp [soB, e1, e2, e3])
     simp only [hx, hlt, e1, e2, g, hF, e3, q, Q8, Qaq, Qa0, runX, fpQ, fpV, Qah, Qa2, Qa1, flat, ↓reduceIte, Nat.reduceEqDiff, Nat.reduceAdd, Nat.reduceLT, Nat.reduceLeDiff, rvs, beq_self_eq_true, Qa, Qb, forall_const, implies_true, Qj, Qd, eTrial, Qa7, BU1]
    | true =>
     simp only [hx, hlt, e1, e2, g, hF, e3, h4, Qf, Qe, Qbd, ↓Qam, Qaq, Qa0, runX, fpQ, fpV, Qah, Qa2, Qa1, flat, cutV, ↓reduceIte, Nat.reduceEqDiff, Nat.reduceAdd, Nat.reduceLT, Nat.reduceLeDiff, beq_self_eq_true, Qa, Qb, forall_const, implies_true, Qj, Qd, Bool.xor_self, eTrial, Qa7, BU1]
     exact Qc9 hx (by simp [soB, e2, e3]) hc
   ·cases e3 : Qcv w i n x.make x.slot with
    | true =>
     have q := hno (by simp [soB, e1, e2, e3])
     simp only [hx, hlt, e1, e2, g, hF, e3, q, Q8, Qaq, Qa0, runX, fpQ, fpV, Qah, Qa2, Qa1, flat, ↓reduceIte, Nat.reduceEqDiff, Nat.reduceAdd, Nat.reduceLT, Nat.reduceLeDiff, rvs, beq_self_eq_true, Qa, Qb, forall_const, implies_true, Qj, Qd, eTrial, Qa7, BU1]
    | false =>
     simp only [hx, hlt, e1, e2, g, hF, e3, h4, Qf, Qe, Qbd, ↓Qam, Qaq, Qa0, runX, fpQ, fpV, Qah, Qa2, Qa1, flat, cutV, ↓reduceIte, Nat.reduceEqDiff, Nat.reduceAdd, Nat.reduceLT, Nat.reduceLeDiff, beq_self_eq_true, Qa, Qb, forall_const, implies_true, Qj, Qd, Bool.xor_self, eTrial, Qa7, BU1]
     exact Qc9 hx (by simp [soB, e2, e3]) hc
  ·simp only [hx, hlt, e1, h4, Qf, Qe, Qbd, ↓Qam, Qaq, Qa0, runX, fpQ, fpV, Qbh, Qah, Qa2, Qa1, cutV, ↓reduceIte, Nat.reduceEqDiff, Nat.reduceAdd, Nat.reduceLT, Nat.reduceLeDiff, beq_self_eq_true, Qa, forall_const, implies_true, Qj, Qd, imp_self, eTrial, Qa7, BU1]
   exact Qc9 hx (by simp [soB, e1]) hc
 ·intro hc
  have hlt : ¬ ((w.table.length : Int) < w.table.length) := by omega
  simp only [hlt, hs, hsp, Zgs, Qaq, Qa0, runX, fpQ, fpV, Qa2, Qa1, flat, ↓reduceIte, Nat.reduceEqDiff, Nat.reduceAdd, Nat.reduceLT, Nat.reduceLeDiff, rvs, V.b.injEq, Qa, implies_true, Qd, eSpare, Qa7, BU1]
  unfold canB
  rw [Qdn hc, Qk]
noncomputable def K8 : Gam := K7.ext 131 (fnG eWII dWII (fun a => OkI a.1 a.2.1) (fun a => canB a.1 a.2.1 a.2.2) .b)
theorem okK8 : GOk Tryz.prog K8 := okK7.ext (f := 131) (fun a w => Tryz.call131 a w) (Qad (e := eWII) (d := dWII) (ok := fun a => OkI a.1 a.2.1) (g := fun a => canB a.1 a.2.1 a.2.2) (eb := .b) fun a h => W131 a.1 a.2.1 a.2.2 h)
theorem h131 (w : Work) (i n : Int) : K8 131 [.ag (Qa7 w), .i i, .i n] = (OkI w i, .b (canB w i n)) := (show K8 131 _ = fnG eWII dWII (fun a => OkI a.1 a.2.1) (fun a => canB a.1 a.2.1 a.2.2) .b (eWII (w, i, n)) from rfl).trans (Qab _ (Qs9 _))
def Qij (w : Work) (i : Int) (k : Nat) : List Int := ((Q7 k).map fun (j : Nat) => (Qc0 w i).len.low + (j : Int)).filter (canB w i)
def Qde (w : Work) (i : Int) : List Int := Qij w i ((Qc0 w i).len.high + 1 - (Qc0 w i).len.low).toNat
theorem Qok (w : Work) (i : Int) (k : Nat) : Qij w i (k + 1) = if canB w i ((Qc0 w i).len.low + k) = true then Qij w i k ++ [(Qc0 w i).len.low + (k : Int)] else Qij w i k := by
 unfold Qij
 rw [List.range_succ, Q2, List.filter_append]
 by_cases h : canB w i ((Qc0 w i).len.low + k) = true
 ·rw [if_pos h]; simp [h]
 ·rw [if_neg h]; simp [h]
theorem Qmt (w : Work) (i : Int) (k : Nat) : (Qij w i k).length ≤ k := by
 unfold Qij
 refine Nat.le_trans (List.length_filter_le _ _) ?_
 simp
theorem W103 (w : Work) (i : Int) (h : OkI w i) : Qa5 Tryz.prog 103 [.ag (Qa7 w), .i i] (.sl 1 ((Qde w i).map eI)) := by
 refine Qa4 okK8 hmix Tryz.func103 Qux.b Qux.c Qux.s Qux.n ?_
 have hs := Qf4 h.sp
 have hsp := h.sp
 have hS := Qfd (h.ok.spare _ (Qh hs))
 have hN : Qde w i = Qij w i ((Qc0 w i).len.high + 1 - (Qc0 w i).len.low).toNat := rfl
 have g := fun n => h131 w i n
 unfold Qa7 at g
 have hst := Qok w i
 have hle := Qmt w i
 have e0 : Qij w i 0 = [] := rfl
 generalize Qde w i = res at *
 generalize Qij w i = L at *
 generalize Qc0 w i = s at *
 simp only [rc103, rs103, hs, hsp, Qow, Qa0, Qa2, Qa1, ↓reduceIte, Nat.reduceEqDiff, Nat.reduceAdd, Nat.reduceLeDiff, zipA, Qa, reduceCtorEq, eSpare, Qa7, BU1]
 refine Qb5 (s.len.high + 1 - s.len.low).toNat (fun k => ⟨lkp [(1, .i i), (2, .pa (Qa7 w)), (5, .rf 0 (L k).length 0 (L k).length 1), (6, .i (s.len.low + (k : Int)))], [.cells (L k).length ((L k).map eI).flatten]⟩) ?_ ?_ ?_
 ·simp only [Qg, e0, Qp, Int.add_zero, ↓reduceIte, Nat.reduceEqDiff, Qa7, BU1]
 ·intro k hk
  have hlt : s.len.low + (k : Int) ≤ s.len.high := by omega
  have h3 : inI (s.len.low + (k : Int) + 1) ∧ inI (s.len.low + ((k : Int) + 1)) := by unfold inI; omega
  have hll := hle k
  have hfl : Qao ((L k).length + 1) := by unfold Qao; omega
  have hsk := hst k
  cases ha : canB w i (s.len.low + (k : Int)) with
  | false =>
   rw [ha] at hsk
   simp only [Qa, if_false] at hsk
   simp only [hs, hsp, hlt, g, h, ha, hsk, h3, Qf, Qe, Int.add_assoc, Qa0, Qa2, Qa1, flat, ↓reduceIte, Nat.reduceEqDiff, Nat.reduceAdd, Nat.reduceLT, Nat.reduceLeDiff, Qa, implies_true, eSpare, Qa7, BU1]
  | true =>
   rw [ha] at hsk
   simp only [if_true] at hsk
   have hnx : Qa1 (((L k).map eI).flatten ++ [V.i (s.len.low + (k : Int))]) = false := by rw [Qaa, Qay]; rfl
   simp only [hs, hsp, hlt, g, h, ha, hsk, h3, Qc5, Qx, hfl, List.length_append, Q2, Q4, Qw, Qp, Qf, Qe, Int.add_assoc, Qck, Qa0, Qbt, Qak, Qaw, Qb2, Qah, Qa2, Qa1, flat, ↓reduceIte, Nat.reduceEqDiff, Nat.reduceAdd, Nat.reduceLT, Nat.reduceLeDiff, Ql, Qa, implies_true, reduceCtorEq, not_false_eq_true, ne_eq, eI, eSpare, Qa7, BU1]
 ·have hlt : ¬ (s.len.low + (((s.len.high + 1 - s.len.low).toNat : Nat) : Int) ≤ s.len.high) := by omega
  simp only [hs, hsp, hlt, ← hN, Qc5, Qx, Qv, Qb3, vw_I, Qa0, ↓reduceIte, Nat.reduceEqDiff, Nat.reduceAdd, Nat.reduceLeDiff, rvs, Qdk, Qa, eSpare, Qa7, BU1]
end Go.CS
set_option linter.all false
namespace Go.CS
open Go.Fam Go.Proofs
open Go.C06 (Span eI eIs Qbx gI gR dI Qbl Qcj fnG Qad Qab Qa6 Qa8 idxOf Qas Qaj Qal Qar Qai Qag Qac Qat Qb3 Qc5 vw_I Qay hmix eLI dLI Qca Qan Qa3 Qaa)
variable {Γ : Gam}
theorem W43 (n lo hi : Int) : Qa5 Tryz.prog 43 [.i n, .i lo, .i hi] (.b (Qa6 n lo hi)) := by
 refine Qa4 okK8 hmix Tryz.func43 cf43.b cf43.c cf43.s cf43.n ?_
 simp only [rc43, rs43, Qa0, ↓reduceIte, Nat.reduceEqDiff, Nat.reduceAdd, rvs, zipA, V.b.injEq, decide_eq_true_eq, decide_eq_false_iff_not, implies_true, reduceCtorEq, Qmq, imp_self, BU1]
 by_cases h : lo ≤ n <;> simp [h, Qa6]
noncomputable def K9 : Gam := (K8.ext 103 (fnG eWI dWI (fun a => OkI a.1 a.2) (fun a => Qde a.1 a.2) fun l => .sl 1 (l.map eI))).ext 43 sWi
theorem okK9 : GOk Tryz.prog K9 := (okK8.ext (f := 103) (fun a w => Tryz.call103 a w) (Qad (e := eWI) (d := dWI) (ok := fun a => OkI a.1 a.2) (g := fun a => Qde a.1 a.2) (eb := fun l => .sl 1 (l.map eI)) fun a h => W103 a.1 a.2 h)).ext (f := 43) (r := sWi) (fun a w => Tryz.call43 a w) (Qqw W43)
theorem h103 (w : Work) (i : Int) : K9 103 [.ag (Qa7 w), .i i] = (OkI w i, .sl 1 ((Qde w i).map eI)) := (show K9 103 _ = fnG eWI dWI (fun a => OkI a.1 a.2) (fun a => Qde a.1 a.2) (fun l => .sl 1 (l.map eI)) (eWI (w, i)) from rfl).trans (Qab _ (Qsa _))
theorem h43 (n lo hi : Int) : K9 43 [.i n, .i lo, .i hi] = (True, .b (Qa6 n lo hi)) := rfl
theorem Zgt (w : Work)  : K9 42 [.ag (Qa7 w)] = (SmallW w, .i (Qcc w)) := h42 w
def Qd4 (w : Work) : Bool := (Q7 w.spares.length).any fun i => (Qde w (i : Int)).isEmpty
def Qbs (w : Work) (is : Bool) : Int := if Qcc w ≠ 0 then Qcc w else if is = false then 1 else if Qd4 w = true then 3 else 0
theorem Qit {w : Work} (h : Qcc w = 0) : Qcy w = true := by
 unfold Qcc at h
 split at h
 ·assumption
 ·omega
def eWB (a : Work × Bool) : List V := [.ag (Qa7 a.1), .b a.2]
def dWB : List V → Work × Bool | [.ag s, .b n] => (Qct s, n) | _ => (Qct [], false)
theorem Zd4 (a : Work × Bool) : dWB (eWB a) = a := by obtain ⟨w, n⟩ := a; simp [dWB, eWB, Qcu]
theorem W76 (w : Work) (is : Bool) (hw : SmallW w) : Qa5 Tryz.prog 76 [.ag (Qa7 w), .b is] (.i (Qbs w is)) := by
 refine Qa4 okK9 hmix Tryz.func76 cf76.b cf76.c cf76.s cf76.n ?_
 have g := Zgt w
 unfold Qa7 at g
 by_cases h0 : Qcc w = 0
 rotate_left
 ·simp only [rc76, rs76, g, hw, h0, Qa0, Qa2, Qa1, flat, ↓reduceIte, Nat.reduceEqDiff, Nat.reduceAdd, Nat.reduceLT, Nat.reduceLeDiff, rvs, zipA, V.i.injEq, Qa, implies_true, reduceCtorEq, Qa7, BU1]; simp [Qbs, h0]
 cases is with
 | false => simp only [rc76, rs76, g, hw, h0, Qa0, Qa2, Qa1, flat, ↓reduceIte, Nat.reduceEqDiff, Nat.reduceAdd, Nat.reduceLT, Nat.reduceLeDiff, rvs, zipA, V.i.injEq, Qa, implies_true, reduceCtorEq, Qa7, BU1]; simp [Qbs, h0]
 | true =>
 have hO := Qm1 (Qit h0)
 have hn := hO.nsp
 have hE : Qbs w true = if Qd4 w = true then 3 else 0 := by simp [Qbs, h0]
 simp only [rc76, rs76, g, hw, h0, Qa0, Qa2, Qa1, flat, ↓reduceIte, Nat.reduceEqDiff, Nat.reduceAdd, Nat.reduceLT, Nat.reduceLeDiff, zipA, Qa, implies_true, reduceCtorEq, Qa7, BU1]
 refine Qap w.spares.length (fun k => ⟨lkp [(2, .pa (Qa7 w)), (6, .i k)], []⟩) (fun k => ∀ j : Nat, j < k → (Qde w (j : Int)).isEmpty = false) ?_ ?_ ?_ ?_
 ·simp only [Qg, ↓reduceIte, Nat.reduceEqDiff, Qa7, BU1]
 ·intro j h; omega
 ·intro k hk hc
  have hlt : (k : Int) < w.spares.length := by omega
  have h4 : inI ((k : Int) + 1) := by unfold inI; omega
  have hI : OkI w k := ⟨hO, by omega⟩
  have g2 := h103 w k
  unfold Qa7 at g2
  cases hl : (Qde w (k : Int)) with
  | nil =>
   have hb : Qd4 w = true := Qu.2 ⟨k, Qy.2 hk, by rw [hl]; rfl⟩
   rw [hb] at hE
   simp only [if_true] at hE
   rw [hl] at g2
   simp only [List.map_nil] at g2
   simp only [hlt, g2, hI, hE, Qg, Qa0, Qa2, Qa1, flat, ↓reduceIte, Nat.reduceEqDiff, Nat.reduceAdd, Nat.reduceLT, Nat.reduceLeDiff, rvs, Qa, imp_self, Qa7, BU1]
  | cons a l =>
   rw [hl] at g2
   have hne : ¬ ((((a :: l).map eI).length : Nat) : Int) = 0 := by simp; omega
   rw [List.length_map] at hne
   obtain ⟨q, hq⟩ : ∃ q, q = a :: l := ⟨_, rfl⟩
   rw [← hq] at g2 hne
   simp only [hlt, g2, hI, hne, h4, Qf, Qe, Qa0, Qa2, Qa1, flat, ↓reduceIte, Nat.reduceEqDiff, Nat.reduceAdd, Nat.reduceLT, Nat.reduceLeDiff, Qa, imp_self, Qa7, BU1]
   intro j hj
   by_cases hjk : j < k
   ·exact hc j hjk
   ·have : j = k := by omega
    subst this
    rw [hl]; rfl
 ·intro hc
  have hlt : ¬ ((w.spares.length : Int) < w.spares.length) := by omega
  have hb : Qd4 w = false := by
   unfold Qd4
   rw [Qz]
   intro i hi
   rw [hc i (Qy.1 hi)]; simp
  rw [hb] at hE
  simp only [Qa, if_false] at hE
  simp only [hlt, hE, Qa0, ↓reduceIte, Nat.reduceEqDiff, Nat.reduceAdd, Nat.reduceLeDiff, rvs, Qa, Qa7, BU1]
noncomputable def K10 : Gam := K9.ext 76 (fnG eWB dWB (fun a => SmallW a.1) (fun a => Qbs a.1 a.2) .i)
theorem Zae : GOk Tryz.prog K10 := okK9.ext (f := 76) (fun a w => Tryz.call76 a w) (Qad (e := eWB) (d := dWB) (ok := fun a => SmallW a.1) (g := fun a => Qbs a.1 a.2) (eb := .i) fun a h => W76 a.1 a.2 h)
theorem h76 (w : Work) (is : Bool) : K10 76 [.ag (Qa7 w), .b is] = (SmallW w, .i (Qbs w is)) := (show K10 76 _ = fnG eWB dWB (fun a => SmallW a.1) (fun a => Qbs a.1 a.2) .i (eWB (w, is)) from rfl).trans (Qab _ (Zd4 _))
theorem W55 (w : Work) (hw : SmallW w) : Qa5 Tryz.prog 55 [.ag (Qa7 w)] (.i (Qbs w true)) := by
 refine Qa4 Zae hmix Tryz.func55 cf55.b cf55.c cf55.s cf55.n ?_
 have g := h76 w true
 unfold Qa7 at g
 simp only [rc55, rs55, g, hw, Qa0, Qa2, Qa1, flat, ↓reduceIte, Nat.reduceEqDiff, Nat.reduceAdd, Nat.reduceLT, Nat.reduceLeDiff, rvs, zipA, Qa, implies_true, Qa7, BU1]
def risB (l : List Int) (most : Int) : Bool := (l.all fun x => Qa6 x 0 most) && ascB l
theorem W69 (l : List Int) (m : Int) (hl : l.length ≤ 1000000) : Qa5 Tryz.prog 69 [.sl 1 (l.map eI), .i m] (.b (risB l m)) := by
 refine Qa4 Zae hmix Tryz.func69 cf69.b cf69.c cf69.s cf69.n ?_
 simp only [rc69, rs69, Qa0, ↓reduceIte, Nat.reduceEqDiff, zipA, reduceCtorEq, BU1]
 refine Qap l.length (fun k => ⟨lkp [(0, .sl 1 (l.map eI)), (1, .i m), (5, .i k)], []⟩) (fun k => (∀ j x, j < k → l[j]? = some x → Qa6 x 0 m = true) ∧ ∀ j x y, j + 1 < k → l[j]? = some x → l[j + 1]? = some y → x < y) ?_ ?_ ?_ ?_
 ·simp only [Qg, ↓reduceIte, Nat.reduceEqDiff, reduceCtorEq, BU1]
 ·exact ⟨fun j x h => by omega, fun j x y h => by omega⟩
 ·rintro k hk ⟨hc, hd⟩
  obtain ⟨x, hx⟩ : ∃ x, l[k]? = some x := ⟨_, Qc hk⟩
  have hlt : (k : Int) < l.length := by omega
  have h4 : inI ((k : Int) + 1) := by unfold inI; omega
  have hno : Qa6 x 0 m = false → risB l m = false := fun e => by unfold risB; rw [Qeu hx e]; rfl
  by_cases e1 : x < 0
  ·have q := hno (by simp [Qa6]; omega)
   simp only [hx, hlt, e1, q, Qaq, Qa0, runX, fpQ, fpV, Qb7, binW, ↓reduceIte, Nat.reduceEqDiff, Nat.reduceLeDiff, rvs, Qa, Qb, decide_eq_true_eq, decide_eq_false_iff_not, forall_const, implies_true, reduceCtorEq, Qd, imp_self, eI, BU1]
  by_cases e2 : m < x
  ·have q := hno (by simp [Qa6]; omega)
   simp only [hx, hlt, e1, e2, q, Qaq, Qa0, runX, fpQ, fpV, Qb7, binW, ↓reduceIte, Nat.reduceEqDiff, Nat.reduceLeDiff, rvs, beq_self_eq_true, Qa, Qb, decide_eq_true_eq, decide_eq_false_iff_not, forall_const, implies_true, reduceCtorEq, Qd, imp_self, eI, BU1]
  have hin : Qa6 x 0 m = true := by simp [Qa6]; omega
  cases k with
  | zero =>
   have hz : (0 : Int) < l.length := by omega
   have h5 : inI 1 := by unfold inI; omega
   simp only [hx, hz, e1, e2, h5, Qe, Qg, Qaq, Qa0, runX, fpQ, fpV, ↓reduceIte, Nat.reduceEqDiff, Nat.reduceLeDiff, Int.reduceNeg, Int.reduceToNat, Int.toNat_zero, Int.reduceLE, Int.reduceAdd, Int.reduceSub, Int.lt_irrefl, beq_self_eq_true, Qi, Qa, and_false, forall_const, implies_true, reduceCtorEq, Qd, imp_self, eI, BU1]
   exact ⟨Qc9 hx hin hc, fun j x y h => by omega⟩
  | succ k =>
   obtain ⟨y, hy⟩ : ∃ y, l[k]? = some y := ⟨_, Qc (by omega)⟩
   have i1 : (0 : Int) < ((k + 1 : Nat) : Int) := by omega
   have i2 : ((k + 1 : Nat) : Int) - 1 = (k : Int) := by omega
   have i3 : inI (k : Int) ∧ (k : Int) < l.length := by unfold inI; omega
   have i4 : ((k + 1 : Nat) : Int) + 1 = ((k + 1 + 1 : Nat) : Int) := by omega
   rw [i4] at h4
   by_cases e3 : x ≤ y
   ·have q : risB l m = false := by
     cases h : risB l m with
     | false => rfl
     | true =>
      unfold risB at h
      rw [Qq] at h
      have := (Qdt l).1 h.2 k y x hy hx
      omega
    simp only [hx, hy, hlt, e1, e2, i1, i2, i3, e3, q, Qaq, Qa0, runX, fpQ, fpV, ↓reduceIte, Nat.reduceEqDiff, Nat.reduceLeDiff, rvs, beq_self_eq_true, Qa, Qb, forall_const, implies_true, reduceCtorEq, Qd, eI, BU1]
   ·simp only [hx, hy, hlt, e1, e2, i1, i2, i3, e3, i4, h4, Qaq, Qa0, runX, fpQ, fpV, ↓reduceIte, Nat.reduceEqDiff, Nat.reduceLeDiff, beq_self_eq_true, Qa, Qb, forall_const, implies_true, reduceCtorEq, Qd, eI, BU1]
    refine ⟨Qc9 hx hin hc, fun j a b hj ha hb => ?_⟩
    by_cases hjk : j + 1 < k + 1
    ·exact hd j a b hjk ha hb
    ·have : j = k := by omega
     subst this
     rw [hy] at ha; rw [hx] at hb; cases ha; cases hb; omega
 ·rintro ⟨hc, hd⟩
  have hlt : ¬ ((l.length : Int) < l.length) := by omega
  have q : risB l m = true := by
   unfold risB
   rw [Qdn hc, Qk]
   exact (Qdt l).2 fun j x y hx hy => hd j x y (Qaf hy) hx hy
  simp only [hlt, q, Qa0, ↓reduceIte, Nat.reduceEqDiff, rvs, Qa, reduceCtorEq, BU1]
noncomputable def K11 : Gam := (K10.ext 69 (fnG eLI dLI (fun a => a.1.length ≤ 1000000) (fun a => risB a.1 a.2) .b)).ext 55 (fnG eW1 dW1 SmallW (fun w => Qbs w true) .i)
theorem Zaf : GOk Tryz.prog K11 := (Zae.ext (f := 69) (fun a w => Tryz.call69 a w) (Qad (e := eLI) (d := dLI) (ok := fun a => a.1.length ≤ 1000000) (g := fun a => risB a.1 a.2) (eb := .b) fun a h => W69 a.1 a.2 h)).ext (f := 55) (fun a w => Tryz.call55 a w) (Qad (e := eW1) (d := dW1) (ok := SmallW) (g := fun w => Qbs w true) (eb := .i) fun a h => W55 a h)
theorem h69 (l : List Int) (m : Int) : K11 69 [.sl 1 (l.map eI), .i m] = (l.length ≤ 1000000, .b (risB l m)) := (show K11 69 _ = fnG eLI dLI (fun a => a.1.length ≤ 1000000) (fun a => risB a.1 a.2) .b (eLI (l, m)) from rfl).trans (Qab _ (Qca _))
theorem h55 (w : Work) : K11 55 [.ag (Qa7 w)] = (SmallW w, .i (Qbs w true)) := (show K11 55 _ = fnG eW1 dW1 SmallW (fun w => Qbs w true) .i (eW1 w) from rfl).trans (Qab _ (Qnu _))
end Go.CS
set_option linter.all false
namespace Go.CS
open Go.Fam Go.Proofs
open Go.C06 (Span eI eIs Qbx gI gR dI Qbl Qcj fnG Qad Qab Qa6 Qa8 idxOf Qas Qaj Qal Qar Qai Qag Qac Qat Qb3 Qc5 vw_I Qay hmix eLI dLI Qca Qan Qa3 Qaa)
variable {Γ : Gam}
theorem Qet (n lo hi : Int)  : K11 43 [.i n, .i lo, .i hi] = (True, .b (Qa6 n lo hi)) := h43 n lo hi
def Qci (s : Shop) (p : Piece) : Bool := Qa6 p.color 0 99 && Qa6 p.size 0 99 && Qa6 p.letter 0 99 && Qa6 p.make 0 (s.work.makes.length - 1) && risB p.broken ((Qbm s.work p.make).length - 1)
def okWish (x : Wish) : Bool := Qa6 x.colors.length 1 8 && risB x.colors 99 && decide (0 ≤ x.size.low) && decide (x.size.low ≤ x.size.high) && decide (x.size.high ≤ 99) && Qa6 x.letter 0 99 && Qa6 x.due 0 99 && Qa6 x.price 0 100000
def Qg0 (s : Shop) (d : Del) : Bool := Qa6 d.day 0 99 && Qa6 d.spare 0 (s.work.spares.length - 1) && Qa6 d.many 1 10
def Qe7 (s : Shop) : Bool := decide (s.stock.length = s.work.spares.length) && decide ((s.pieces.length : Int) ≤ 8) && decide ((s.wishes.length : Int) ≤ 6) && decide ((s.dels.length : Int) ≤ 8) && Qa6 s.carve 0 99 && (s.stock.all fun n => Qa6 n 0 10) && s.pieces.all (Qci s) && s.wishes.all okWish && s.dels.all (Qg0 s)
def Qd0 (s : Shop) : Int := if Qcc s.work ≠ 0 then Qcc s.work else if Qe7 s = true then 0 else 80
def eHP (a : Shop × Piece) : List V := [.ag (Qae a.1), .ag (ePiece a.2)]
def dHP : List V → Shop × Piece | [.ag s, .ag n] => (Qj4 s, Qev n) | _ => (Qj4 [], Qev [])
theorem Zha (a : Shop × Piece) : dHP (eHP a) = a := by obtain ⟨w, n⟩ := a; simp [dHP, eHP, Qjx, Qf8]
def eX1 (s : Wish) : List V := [.ag (eWish s)]
def dX1 : List V → Wish | [.ag s] => Qnv s | _ => Qnv []
theorem Qmg (s : Wish) : dX1 (eX1 s) = s := by simp [dX1, eX1, Qmf]
def OkP (s : Shop) (p : Piece) : Prop := SmallW s.work ∧ p.broken.length ≤ 1000000
theorem W44 (s : Shop) (p : Piece) (h : OkP s p) : Qa5 Tryz.prog 44 [.ag (Qae s), .ag (ePiece p)] (.b (Qci s p)) := by
 refine Qa4 Zaf hmix Tryz.func44 cf44.b cf44.c cf44.s cf44.n ?_
 obtain ⟨hw, hb⟩ := h
 have hm := hw.makes
 have i1 : inI ((s.work.makes.length : Int) - 1) := by unfold inI; omega
 unfold Qci
 cases e1 : Qa6 p.color 0 99 with
 | false => simp only [rc44, rs44, Qet, e1, Qa0, Qa2, Qa1, flat, ↓reduceIte, Nat.reduceEqDiff, Nat.reduceAdd, Nat.reduceLT, Nat.reduceLeDiff, rvs, zipA, Qa, Qb, forall_const, implies_true, reduceCtorEq, imp_self, ePiece, Qae, BU1]
 | true =>
 cases e2 : Qa6 p.size 0 99 with
 | false => simp only [rc44, rs44, Qet, e1, e2, Qa0, Qa2, Qa1, flat, ↓reduceIte, Nat.reduceEqDiff, Nat.reduceAdd, Nat.reduceLT, Nat.reduceLeDiff, rvs, zipA, beq_self_eq_true, Qi, Qa, Qb, forall_const, implies_true, reduceCtorEq, imp_self, ePiece, Qae, BU1]
 | true =>
 cases e3 : Qa6 p.letter 0 99 with
 | false => simp only [rc44, rs44, Qet, e1, e2, e3, Qa0, Qa2, Qa1, flat, ↓reduceIte, Nat.reduceEqDiff, Nat.reduceAdd, Nat.reduceLT, Nat.reduceLeDiff, rvs, zipA, beq_self_eq_true, Qi, Qa, Qb, forall_const, implies_true, reduceCtorEq, imp_self, ePiece, Qae, BU1]
 | true =>
 cases e4 : Qa6 p.make 0 (s.work.makes.length - 1) with
 | false => simp only [rc44, rs44, Qet, e1, e2, e3, e4, i1, Qa0, Qa2, Qa1, flat, ↓reduceIte, Nat.reduceEqDiff, Nat.reduceAdd, Nat.reduceLT, Nat.reduceLeDiff, rvs, zipA, beq_self_eq_true, Qi, Qa, forall_const, implies_true, reduceCtorEq, ePiece, Qae, BU1]
 | true =>
  obtain ⟨h1, h2, h3⟩ := Qe9 e4
  have h4 := hw.slots _ (Qh h3)
  have i2 : inI (((Qbm s.work p.make).length : Int) - 1) := by unfold inI; omega
  simp only [rc44, rs44, Qet, e1, e2, e3, e4, i1, h1, h2, h3, eMake, i2, h69, hb, Qaq, Qa0, runX, fpQ, fpV, Qa2, Qa1, flat, ↓reduceIte, Nat.reduceEqDiff, Nat.reduceAdd, Nat.reduceLT, Nat.reduceLeDiff, rvs, zipA, beq_self_eq_true, Qk, Qa, forall_const, implies_true, reduceCtorEq, Qd, eMake, ePiece, Qae, BU1]
theorem W45 (x : Wish) (h : x.colors.length ≤ 1000000) : Qa5 Tryz.prog 45 [.ag (eWish x)] (.b (okWish x)) := by
 refine Qa4 Zaf hmix Tryz.func45 cf45.b cf45.c cf45.s cf45.n ?_
 unfold okWish
 cases e1 : Qa6 x.colors.length 1 8 with
 | false => simp only [rc45, rs45, Qet, e1, Qa0, Qbh, Qa2, Qa1, flat, ↓reduceIte, Nat.reduceEqDiff, Nat.reduceAdd, Nat.reduceLT, Nat.reduceLeDiff, rvs, zipA, Qa, forall_const, implies_true, imp_self, eWish, BU1]
 | true =>
 cases e2 : risB x.colors 99 with
 | false => simp only [rc45, rs45, Qet, e1, h69, h, e2, Qa0, Qa2, Qa1, flat, ↓reduceIte, Nat.reduceEqDiff, Nat.reduceAdd, Nat.reduceLT, Nat.reduceLeDiff, rvs, zipA, beq_self_eq_true, Qi, Qa, Qb, forall_const, implies_true, imp_self, eWish, BU1]
 | true =>
 by_cases e3 : 0 ≤ x.size.low
 rotate_left
 ·simp only [rc45, rs45, Qet, e1, h69, h, e2, e3, Qa0, Qa2, Qa1, flat, ↓reduceIte, Nat.reduceEqDiff, Nat.reduceAdd, Nat.reduceLT, Nat.reduceLeDiff, rvs, zipA, beq_self_eq_true, Qi, Qa, Qb, forall_const, implies_true, imp_self, eWish, BU1]
 by_cases e4 : x.size.low ≤ x.size.high
 rotate_left
 ·simp only [rc45, rs45, Qet, e1, h69, h, e2, e3, e4, Qa0, Qa2, Qa1, flat, ↓reduceIte, Nat.reduceEqDiff, Nat.reduceAdd, Nat.reduceLT, Nat.reduceLeDiff, rvs, zipA, beq_self_eq_true, Qi, Qa, Qb, forall_const, implies_true, imp_self, eWish, BU1]
 by_cases e5 : x.size.high ≤ 99
 rotate_left
 ·simp only [rc45, rs45, Qet, e1, h69, h, e2, e3, e4, e5, Qa0, Qa2, Qa1, flat, ↓reduceIte, Nat.reduceEqDiff, Nat.reduceAdd, Nat.reduceLT, Nat.reduceLeDiff, rvs, zipA, beq_self_eq_true, Qi, Qa, Qb, forall_const, implies_true, imp_self, eWish, BU1]
 cases e6 : Qa6 x.letter 0 99 with
 | false => simp only [rc45, rs45, Qet, e1, h69, h, e2, e3, e4, e5, e6, Qa0, Qa2, Qa1, flat, ↓reduceIte, Nat.reduceEqDiff, Nat.reduceAdd, Nat.reduceLT, Nat.reduceLeDiff, rvs, zipA, beq_self_eq_true, Qi, Qa, Qb, forall_const, implies_true, imp_self, eWish, BU1]
 | true =>
 cases e7 : Qa6 x.due 0 99 with
 | false => simp only [rc45, rs45, Qet, e1, h69, h, e2, e3, e4, e5, e6, e7, Qa0, Qa2, Qa1, flat, ↓reduceIte, Nat.reduceEqDiff, Nat.reduceAdd, Nat.reduceLT, Nat.reduceLeDiff, rvs, zipA, beq_self_eq_true, Qi, Qa, Qb, forall_const, implies_true, imp_self, eWish, BU1]
 | true => simp only [rc45, rs45, Qet, e1, h69, h, e2, e3, e4, e5, e6, e7, Qa0, Qa2, Qa1, flat, ↓reduceIte, Nat.reduceEqDiff, Nat.reduceAdd, Nat.reduceLT, Nat.reduceLeDiff, rvs, zipA, beq_self_eq_true, Qk, Qa, Qb, forall_const, implies_true, eWish, BU1]
noncomputable def K12 : Gam := (K11.ext 44 (fnG eHP dHP (fun a => OkP a.1 a.2) (fun a => Qci a.1 a.2) .b)).ext 45 (fnG eX1 dX1 (fun x => x.colors.length ≤ 1000000) okWish .b)
theorem Zea : GOk Tryz.prog K12 := (Zaf.ext (f := 44) (fun a w => Tryz.call44 a w) (Qad (e := eHP) (d := dHP) (ok := fun a => OkP a.1 a.2) (g := fun a => Qci a.1 a.2) (eb := .b) fun a h => W44 a.1 a.2 h)).ext (f := 45) (fun a w => Tryz.call45 a w) (Qad (e := eX1) (d := dX1) (ok := fun x => x.colors.length ≤ 1000000) (g := okWish) (eb := .b) fun a h => W45 a h)
theorem h44 (s : Shop) (p : Piece) : K12 44 [.ag (Qae s), .ag (ePiece p)] = (OkP s p, .b (Qci s p)) := (show K12 44 _ = fnG eHP dHP (fun a => OkP a.1 a.2) (fun a => Qci a.1 a.2) .b (eHP (s, p)) from rfl).trans (Qab _ (Zha _))
theorem h45 (x : Wish) : K12 45 [.ag (eWish x)] = (x.colors.length ≤ 1000000, .b (okWish x)) := (show K12 45 _ = fnG eX1 dX1 (fun x => x.colors.length ≤ 1000000) okWish .b (eX1 x) from rfl).trans (Qab _ (Qmg _))
theorem Qiw (n lo hi : Int)  : K12 43 [.i n, .i lo, .i hi] = (True, .b (Qa6 n lo hi)) := h43 n lo hi
theorem Zbk (w : Work)  : K12 42 [.ag (Qa7 w)] = (SmallW w, .i (Qcc w)) := h42 w
structure SmallS (s : Shop) : Prop where
 work : SmallW s.work
 broken : ∀ p ∈ s.pieces, p.broken.length ≤ 1000000
 colors : ∀ x ∈ s.wishes, x.colors.length ≤ 1000000
theorem W19 (s : Shop) (hs : SmallS s) : Qa5 Tryz.prog 19 [.ag (Qae s)] (.i (Qd0 s)) := by
 refine Qa4 Zea hmix Tryz.func19 cf19.b cf19.c cf19.s cf19.n ?_
 have g := Zbk s.work
 unfold Qa7 at g
 have hw := hs.work
 by_cases h0 : Qcc s.work = 0
 rotate_left
 ·simp only [rc19, rs19, g, hw, h0, Qa0, Qa2, Qa1, flat, ↓reduceIte, Nat.reduceEqDiff, Nat.reduceAdd, Nat.reduceLT, Nat.reduceLeDiff, rvs, zipA, V.i.injEq, Qa, implies_true, Qae, BU1]; simp [Qd0, h0]
 have hO := Qm1 (Qit h0)
 have hn := hO.nsp
 have hE : Qd0 s = if Qe7 s = true then 0 else 80 := by simp [Qd0, h0]
 have hR : Qe7 s = (decide (s.stock.length = s.work.spares.length) && decide ((s.pieces.length : Int) ≤ 8) && decide ((s.wishes.length : Int) ≤ 6) && decide ((s.dels.length : Int) ≤ 8) && Qa6 s.carve 0 99 && (s.stock.all fun n => Qa6 n 0 10) && s.pieces.all (Qci s) && s.wishes.all okWish && s.dels.all (Qg0 s)) := rfl
 have no : Qe7 s = false → Qd0 s = 80 := fun e => by rw [hE, e]; rfl
 have yes : Qe7 s = true → Qd0 s = 0 := fun e => by rw [hE, e]; rfl
 generalize Qd0 s = res at *
 generalize Qe7 s = ok at *
 by_cases a1 : s.stock.length = s.work.spares.length
 rotate_left
 ·have n1 : ¬ (s.stock.length : Int) = s.work.spares.length := by omega
  have q := no (by rw [hR]; simp [a1])
  simp only [rc19, rs19, g, hw, h0, n1, q, Qa0, Qb7, Qa2, Qa1, flat, ↓reduceIte, Nat.reduceEqDiff, Nat.reduceAdd, Nat.reduceLT, Nat.reduceLeDiff, rvs, zipA, Qa, Qb, forall_const, implies_true, imp_self, Qae, BU1]
 have b1 : (s.stock.length : Int) = s.work.spares.length := by omega
 by_cases a2 : (8 : Int) < s.pieces.length
 ·have n2 : ¬ (s.pieces.length : Int) ≤ 8 := by omega
  have q := no (by rw [hR]; simp [n2])
  simp only [rc19, rs19, g, hw, h0, b1, a2, q, Qa0, Qb7, Qa2, Qa1, flat, ↓reduceIte, Nat.reduceEqDiff, Nat.reduceAdd, Nat.reduceLT, Nat.reduceLeDiff, rvs, zipA, beq_self_eq_true, Qa, Qb, forall_const, implies_true, imp_self, Qae, BU1]
 have b2 : (s.pieces.length : Int) ≤ 8 := by omega
 by_cases a3 : (6 : Int) < s.wishes.length
 ·have n3 : ¬ (s.wishes.length : Int) ≤ 6 := by omega
  have q := no (by rw [hR]; simp [n3])
  simp only [rc19, rs19, g, hw, h0, b1, a2, a3, q, Qa0, Qb7, Qa2, Qa1, flat, ↓reduceIte, Nat.reduceEqDiff, Nat.reduceAdd, Nat.reduceLT, Nat.reduceLeDiff, rvs, zipA, beq_self_eq_true, Qa, Qb, forall_const, implies_true, imp_self, Qae, BU1]
 have b3 : (s.wishes.length : Int) ≤ 6 := by omega
 by_cases a4 : (8 : Int) < s.dels.length
 ·have n4 : ¬ (s.dels.length : Int) ≤ 8 := by omega
  have q := no (by rw [hR]; simp [n4])
  simp only [rc19, rs19, g, hw, h0, b1, a2, a3, a4, q, Qa0, Qb7, Qa2, Qa1, flat, ↓reduceIte, Nat.reduceEqDiff, Nat.reduceAdd, Nat.reduceLT, Nat.reduceLeDiff, rvs, zipA, beq_self_eq_true, Qa, Qb, forall_const, implies_true, imp_self, Qae, BU1]
 have b4 : (s.dels.length : Int) ≤ 8 := by omega
 cases a5 : Qa6 s.carve 0 99 with
 | false =>
  have q := no (by rw [hR]; simp [a5])
  simp only [rc19, rs19, g, hw, h0, b1, a2, a3, a4, Qiw, a5, q, Qa0, Qa2, Qa1, flat, ↓reduceIte, Nat.reduceEqDiff, Nat.reduceAdd, Nat.reduceLT, Nat.reduceLeDiff, rvs, zipA, beq_self_eq_true, Qa, forall_const, implies_true, Qae, BU1]
 | true =>
 simp only [a1, b2, b3, b4, a5, decide_true, Qk] at hR
 simp only [rc19, rs19, g, hw, h0, b1, a2, a3, a4, Qiw, a5, Qa0, Qa2, Qa1, flat, ↓reduceIte, Nat.reduceEqDiff, Nat.reduceAdd, Nat.reduceLT, Nat.reduceLeDiff, zipA, beq_self_eq_true, Qa, forall_const, implies_true, Qae, BU1]
 refine Qap s.stock.length (fun i => ⟨lkp [(1, .pa (Qae s)), (4, .i i)], []⟩) (fun i => ∀ j x, j < i → s.stock[j]? = some x → Qa6 x 0 10 = true) ?_ ?_ ?_ ?_
 ·simp only [Qg, ↓reduceIte, Nat.reduceEqDiff, Qae, BU1]
 ·intro j x h; omega
 ·intro i hi hc
  obtain ⟨x, hx⟩ : ∃ x, s.stock[i]? = some x := ⟨_, Qc hi⟩
  have hlt : (i : Int) < s.stock.length := by omega
  rw [b1] at hlt
  have h4 : inI ((i : Int) + 1) := by unfold inI; omega
  cases e : Qa6 x 0 10 with
  | false =>
   have q := no (by rw [hR, Qeu (p := fun n => Qa6 n 0 10) hx e]; rfl)
   simp only [hx, b1, hlt, Qiw, e, q, Qa0, Qa2, Qa1, flat, ↓reduceIte, Nat.reduceEqDiff, Nat.reduceAdd, Nat.reduceLT, Nat.reduceLeDiff, rvs, Qa, implies_true, eI, Qae, BU1]
  | true =>
   simp only [hx, b1, hlt, Qiw, e, h4, Qf, Qe, Qa0, Qa2, Qa1, flat, ↓reduceIte, Nat.reduceEqDiff, Nat.reduceAdd, Nat.reduceLT, Nat.reduceLeDiff, Qa, implies_true, eI, Qae, BU1]
   exact Qc9 (p := fun n => Qa6 n 0 10) hx e hc
 intro hc
 have hlt : ¬ ((s.stock.length : Int) < s.stock.length) := by omega
 rw [Qdn (p := fun n => Qa6 n 0 10) hc, Qk] at hR
 simp only [hlt, Qa0, ↓reduceIte, Nat.reduceEqDiff, Nat.reduceAdd, Nat.reduceLeDiff, Qa, Qae, BU1]
 refine Qap s.pieces.length (fun i => ⟨lkp [(1, .pa (Qae s)), (5, .i i)], []⟩) (fun i => ∀ j x, j < i → s.pieces[j]? = some x → Qci s x = true) ?_ ?_ ?_ ?_
 ·simp only [Qg, ↓reduceIte, Nat.reduceEqDiff, Qae, BU1]
 ·intro j x h; omega
 ·intro i hi hc
  obtain ⟨x, hx⟩ : ∃ x, s.pieces[i]? = some x := ⟨_, Qc hi⟩
  have hlt : (i : Int) < s.pieces.length := by omega
  have h4 : inI ((i : Int) + 1) := by unfold inI; omega
  have g1 := h44 s x
  simp only [Qae, ePiece] at g1
  have hP : OkP s x := ⟨hw, hs.broken x (Qh hx)⟩
  cases e : Qci s x with
  | false =>
   have q := no (by rw [hR, Qeu hx e]; rfl)
   simp only [hx, hlt, g1, hP, e, q, Qaq, Qa0, runX, fpQ, fpV, Qa2, Qa1, flat, ↓reduceIte, Nat.reduceEqDiff, Nat.reduceAdd, Nat.reduceLT, Nat.reduceLeDiff, rvs, Qa, implies_true, Qd, ePiece, Qae, BU1]
  | true =>
   simp only [hx, hlt, g1, hP, e, h4, Qf, Qe, Qaq, Qa0, runX, fpQ, fpV, Qa2, Qa1, flat, ↓reduceIte, Nat.reduceEqDiff, Nat.reduceAdd, Nat.reduceLT, Nat.reduceLeDiff, Qa, implies_true, Qd, ePiece, Qae, BU1]
   exact Qc9 hx e hc
 intro hc2
 have hlt2 : ¬ ((s.pieces.length : Int) < s.pieces.length) := by omega
 rw [Qdn hc2, Qk] at hR
 simp only [hlt2, Qa0, ↓reduceIte, Nat.reduceEqDiff, Nat.reduceAdd, Nat.reduceLeDiff, Qa, Qae, BU1]
 refine Qap s.wishes.length (fun i => ⟨lkp [(1, .pa (Qae s)), (6, .i i)], []⟩) (fun i => ∀ j x, j < i → s.wishes[j]? = some x → okWish x = true) ?_ ?_ ?_ ?_
 ·simp only [Qg, ↓reduceIte, Nat.reduceEqDiff, Qae, BU1]
 ·intro j x h; omega
 ·intro i hi hc
  obtain ⟨x, hx⟩ : ∃ x, s.wishes[i]? = some x := ⟨_, Qc hi⟩
  have hlt : (i : Int) < s.wishes.length := by omega
  have h4 : inI ((i : Int) + 1) := by unfold inI; omega
  have g1 := h45 x
  unfold eWish at g1
  have hP := hs.colors x (Qh hx)
  cases e : okWish x with
  | false =>
   have q := no (by rw [hR, Qeu hx e]; rfl)
   simp only [hx, hlt, g1, hP, e, q, Qa0, Qa2, Qa1, flat, ↓reduceIte, Nat.reduceEqDiff, Nat.reduceAdd, Nat.reduceLT, Nat.reduceLeDiff, rvs, Qa, implies_true, eWish, Qae, BU1]
  | true =>
   simp only [hx, hlt, g1, hP, e, h4, Qf, Qe, Qa0, Qa2, Qa1, flat, ↓reduceIte, Nat.reduceEqDiff, Nat.reduceAdd, Nat.reduceLT, Nat.reduceLeDiff, Qa, implies_true, eWish, Qae, BU1]
   exact Qc9 hx e hc
 intro hc3
 have hlt3 : ¬ ((s.wishes.length : Int) < s.wishes.length) := by omega
 rw [Qdn hc3, Qk] at hR
 simp only [hlt3, Qa0, ↓reduceIte, Nat.reduceEqDiff, Nat.reduceAdd, Nat.reduceLeDiff, Qa, Qae, BU1]
 refine Qap s.dels.length (fun i => ⟨lkp [(1, .pa (Qae s)), (7, .i i)], []⟩) (fun i => ∀ j x, j < i → s.dels[j]? = some x → Qg0 s x = true) ?_ ?_ ?_ ?_
 ·simp only [Qg, cutV, ↓reduceIte, Nat.reduceEqDiff, Qae, BU1]
 ·intro j x h; omega
 ·intro i hi hc
  obtain ⟨x, hx⟩ : ∃ x, s.dels[i]? = some x := ⟨_, Qc hi⟩
  have hlt : (i : Int) < s.dels.length := by omega
  have h4 : inI ((i : Int) + 1) := by unfold inI; omega
  have i1 : inI ((s.work.spares.length : Int) - 1) := by unfold inI; omega
  have hno : Qg0 s x = false → res = 80 := fun e => no (by rw [hR, Qeu hx e])
  unfold Qg0 at hno
  cases s1 : Qa6 x.day 0 99 with
  | false =>
   have q := hno (by rw [s1]; rfl)
   simp only [hx, hlt, Qiw, s1, q, Qa0, Qah, Qa2, Qa1, flat, ↓reduceIte, Nat.reduceEqDiff, Nat.reduceAdd, Nat.reduceLT, Nat.reduceLeDiff, rvs, beq_self_eq_true, Qa, Qb, forall_const, implies_true, imp_self, eDel, Qae, BU1]
  | true =>
  cases s2 : Qa6 x.spare 0 (s.work.spares.length - 1) with
  | false =>
   have q := hno (by rw [s1, s2]; rfl)
   simp only [hx, hlt, Qiw, s1, s2, i1, q, Qa0, Qah, Qa2, Qa1, flat, ↓reduceIte, Nat.reduceEqDiff, Nat.reduceAdd, Nat.reduceLT, Nat.reduceLeDiff, rvs, beq_self_eq_true, Qa, Qb, forall_const, implies_true, imp_self, eDel, Qae, BU1]
  | true =>
  cases s3 : Qa6 x.many 1 10 with
  | false =>
   have q := hno (by rw [s1, s2, s3]; rfl)
   simp only [hx, hlt, Qiw, s1, s2, s3, i1, q, Qa0, Qah, Qa2, Qa1, flat, ↓reduceIte, Nat.reduceEqDiff, Nat.reduceAdd, Nat.reduceLT, Nat.reduceLeDiff, rvs, beq_self_eq_true, Qa, forall_const, implies_true, eDel, Qae, BU1]
  | true =>
   simp only [hx, hlt, Qiw, s1, s2, s3, i1, h4, Qf, Qe, Qbd, ↓Qam, Qa0, Qah, Qa2, Qa1, flat, cutV, ↓reduceIte, Nat.reduceEqDiff, Nat.reduceAdd, Nat.reduceLT, Nat.reduceLeDiff, beq_self_eq_true, Qa, forall_const, implies_true, eDel, Qae, BU1]
   exact Qc9 hx (by unfold Qg0; rw [s1, s2, s3]; rfl) hc
 intro hc4
 have hlt4 : ¬ ((s.dels.length : Int) < s.dels.length) := by omega
 rw [Qdn hc4] at hR
 have q := yes hR
 simp only [hlt4, q, Qa0, ↓reduceIte, Nat.reduceEqDiff, Nat.reduceAdd, Nat.reduceLeDiff, rvs, Qa, Qae, BU1]
end Go.CS
set_option maxRecDepth 8000
namespace Go.CS
open Go.Fam Go.Proofs
def rc18 : RC := (.seq (.reg false [(cX 1 0), (cQ 2 [] (.mv (kB false)))]) (.keep [1] (.seq (.seq (.reg true [(cFa 6 1 0), (cLd 7 6 false 1), (cLn 8 7), (cC 9 .gtr 8 40), (cMv 10 9), (gQ 11 10 false [1] (.fad 1 (.t 1))), (gQ 12 10 false [11] (.ld false 1 (.t 11))), (gQ 13 10 false [12] (.len (.t 12))), (gQ 14 10 false [13] (.bin .gtr (.t 13) (kI 40))), (cQ 15 [10,14] (.pick (.t 10) (kB true) (.t 14))), (cMv 16 15), (gQ 17 16 false [1] (.fad 3 (.t 1))), (gQ 18 16 false [17] (.ld false 1 (.t 17))), (gQ 19 16 false [18] (.len (.t 18))), (gQ 20 16 false [19] (.bin .gtr (.t 19) (kI 60))), (cQ 21 [16,20] (.pick (.t 16) (kB true) (.t 20)))]) (.keep [1,21] (.cond (.t 21) (.seq (.reg false [(cQ 2 [] (.mv (kB true)))]) .ret) .skip))) (.keep [1] (.seq (.seq (.reg false [(cI 3 0)]) (.keep [1,3] (.block 0 (.loop [1,3] none (.seq (.seq (.reg false [(cMv 22 3), (cFa 23 1 1), (cLd 24 23 false 1), (cLn 25 24), (cB 26 .lss 22 25)]) (.keep [1,3,26] (.cond (.t 26) .skip (.exit 0)))) (.keep [1,3] (.seq (.block 1 (.seq (.seq (.reg false [(cFa 29 1 1), (cLd 30 29 false 1), (cMv 31 3), (cA 32 1 30 31), (cFa 33 32 0), (cLd 34 33 false 1), (cLn 35 34), (cC 36 .gtr 35 20)]) (.keep [1,3,36] (.cond (.t 36) (.seq (.reg false [(cQ 2 [] (.mv (kB true)))]) .ret) .skip))) (.keep [1,3] (.seq (.reg false [(cI 4 0)]) (.keep [1,3,4] (.block 2 (.loop [1,3,4] none (.seq (.seq (.reg false [(cMv 37 4), (cFa 38 1 1), (cLd 39 38 false 1), (cMv 40 3), (cA 41 1 39 40), (cFa 42 41 0), (cLd 43 42 false 1), (cLn 44 43), (cB 45 .lss 37 44)]) (.keep [1,3,4,45] (.cond (.t 45) .skip (.exit 2)))) (.keep [1,3,4] (.seq (.block 3 (.seq (.reg false [(cFa 48 1 1), (cLd 49 48 false 1), (cMv 50 3), (cA 51 1 49 50), (cFa 52 51 0), (cLd 53 52 false 1), (cMv 54 4), (cA 55 4 53 54), (cFa 56 55 1), (cLd 57 56 false 1), (cLn 58 57), (cC 59 .gtr 58 20)]) (.keep [1,3,4,59] (.cond (.t 59) (.seq (.reg false [(cQ 2 [] (.mv (kB true)))]) .ret) .skip)))) (.keep [1,3,4] (.reg false [(cMv 46 4), (cC 47 .add 46 1), (cMv 4 47)])))))))))))) (.keep [1,3] (.reg false [(cMv 27 3), (cC 28 .add 27 1), (cMv 3 28)]))))))))) (.keep [1] (.seq (.seq (.reg false [(cLd 60 1 true 4), (cQ 61 [60] (.call (kF 42) [(.t 60)])), (cC 62 .neq 61 0)]) (.keep [1,62] (.cond (.t 62) (.seq (.reg false [(cQ 2 [] (.mv (kB false)))]) .ret) .skip))) (.keep [1] (.seq (.seq (.reg false [(cI 5 0)]) (.keep [1,5] (.block 4 (.loop [1,5] none (.seq (.seq (.reg false [(cMv 63 5), (cFa 64 1 0), (cLd 65 64 false 1), (cLn 66 65), (cB 67 .lss 63 66)]) (.keep [1,5,67] (.cond (.t 67) .skip (.exit 4)))) (.keep [1,5] (.seq (.block 5 (.seq (.any false 0 [⟨(cFa 70 1 0), [], []⟩, ⟨(cLd 71 70 false 1), [], [0]⟩, ⟨(cMv 72 5), [], []⟩, ⟨(cA 73 4 71 72), [], [1,0,2]⟩, ⟨(cFa 74 73 2), [], [3,1,0,2]⟩, ⟨(cFa 75 74 1), [], [4,3,1,0,2]⟩, ⟨(cLd 76 75 false 1), [], [5,4,3,1,0,2]⟩, ⟨(cFa 77 1 0), [], []⟩, ⟨(cLd 78 77 false 1), [], [7]⟩, ⟨(cMv 79 5), [], []⟩, ⟨(cA 80 4 78 79), [], [8,7,9]⟩, ⟨(cFa 81 80 2), [], [10,8,7,9]⟩, ⟨(cFa 82 81 0), [], [11,10,8,7,9]⟩, ⟨(cLd 83 82 false 1), [], [12,11,10,8,7,9]⟩, ⟨(cB 84 .sub 76 83), [], [6,5,4,3,1,0,2,13,12,11,10,8,7,9]⟩, ⟨(cC 85 .geq 84 50), [], [14,6,5,4,3,1,0,2,13,12,11,10,8,7,9]⟩]) (.keep [1,5,85] (.cond (.t 85) (.seq (.reg false [(cQ 2 [] (.mv (kB true)))]) .ret) .skip)))) (.keep [1,5] (.reg false [(cMv 68 5), (cC 69 .add 68 1), (cMv 5 69)]))))))))) (.keep [1] (.seq (.reg true [(cFa 86 1 0), (cLd 87 86 false 1), (cLn 88 87), (cC 89 .gtr 88 6), (cMv 90 89), (gQ 91 90 false [1] (.fad 1 (.t 1))), (gQ 92 90 false [91] (.ld false 1 (.t 91))), (gQ 93 90 false [92] (.len (.t 92))), (gQ 94 90 false [93] (.bin .gtr (.t 93) (kI 4))), (cQ 95 [90,94] (.pick (.t 90) (kB true) (.t 94))), (cMv 96 95), (gQ 97 96 false [1] (.fad 3 (.t 1))), (gQ 98 96 false [97] (.ld false 1 (.t 97))), (gQ 99 96 false [98] (.len (.t 98))), (gQ 100 96 false [99] (.bin .gtr (.t 99) (kI 10))), (cQ 101 [96,100] (.pick (.t 96) (kB true) (.t 100))), (cMv 2 101)]) .ret)))))))))))
def rs18 : List RV := [.t 2]
theorem cf18 : CF Tryz.prog Tryz.f18 [1] 0 1 rc18 rs18 1 := ⟨by kernel_rfl, by kernel_rfl, by kernel_rfl, by decide⟩
def rc4 : RC := (.seq (.reg false [(cX 1 0), (cQ 2 [] (.mv (kB false)))]) (.keep [1] (.seq (.seq (.reg true [(cFa 7 1 0), (cLd 8 7 true 4), (cQ 9 [8] (.call (kF 18) [(.t 8)])), (cMv 10 9), (gQ 11 10 false [1] (.fad 4 (.t 1))), (gQ 12 10 false [11] (.ld false 1 (.t 11))), (gQ 13 10 false [12] (.len (.t 12))), (gQ 14 10 false [13] (.bin .gtr (.t 13) (kI 40))), (cQ 15 [10,14] (.pick (.t 10) (kB true) (.t 14))), (cMv 16 15), (gQ 17 16 false [1] (.fad 5 (.t 1))), (gQ 18 16 false [17] (.ld false 1 (.t 17))), (gQ 19 16 false [18] (.len (.t 18))), (gQ 20 16 false [19] (.bin .gtr (.t 19) (kI 40))), (cQ 21 [16,20] (.pick (.t 16) (kB true) (.t 20))), (cMv 22 21), (gQ 23 22 false [1] (.fad 6 (.t 1))), (gQ 24 22 false [23] (.ld false 1 (.t 23))), (gQ 25 22 false [24] (.len (.t 24))), (gQ 26 22 false [25] (.bin .gtr (.t 25) (kI 40))), (cQ 27 [22,26] (.pick (.t 22) (kB true) (.t 26))), (cMv 28 27), (gQ 29 28 false [1] (.fad 7 (.t 1))), (gQ 30 28 false [29] (.ld false 1 (.t 29))), (gQ 31 28 false [30] (.len (.t 30))), (gQ 32 28 false [31] (.bin .gtr (.t 31) (kI 40))), (cQ 33 [28,32] (.pick (.t 28) (kB true) (.t 32)))]) (.keep [1,33] (.cond (.t 33) (.seq (.reg false [(cQ 2 [] (.mv (kB true)))]) .ret) .skip))) (.keep [1] (.seq (.seq (.reg false [(cI 3 0)]) (.keep [1,3] (.block 0 (.loop [1,3] none (.seq (.seq (.reg false [(cMv 34 3), (cFa 35 1 5), (cLd 36 35 false 1), (cLn 37 36), (cB 38 .lss 34 37)]) (.keep [1,3,38] (.cond (.t 38) .skip (.exit 0)))) (.keep [1,3] (.seq (.block 1 (.seq (.reg false [(cFa 41 1 5), (cLd 42 41 false 1), (cMv 43 3), (cA 44 5 42 43), (cFa 45 44 4), (cLd 46 45 false 1), (cLn 47 46), (cC 48 .gtr 47 40)]) (.keep [1,3,48] (.cond (.t 48) (.seq (.reg false [(cQ 2 [] (.mv (kB true)))]) .ret) .skip)))) (.keep [1,3] (.reg false [(cMv 39 3), (cC 40 .add 39 1), (cMv 3 40)]))))))))) (.keep [1] (.seq (.seq (.reg false [(cI 4 0)]) (.keep [1,4] (.block 2 (.loop [1,4] none (.seq (.seq (.reg false [(cMv 49 4), (cFa 50 1 6), (cLd 51 50 false 1), (cLn 52 51), (cB 53 .lss 49 52)]) (.keep [1,4,53] (.cond (.t 53) .skip (.exit 2)))) (.keep [1,4] (.seq (.block 3 (.seq (.reg false [(cFa 56 1 6), (cLd 57 56 false 1), (cMv 58 4), (cA 59 6 57 58), (cFa 60 59 0), (cLd 61 60 false 1), (cLn 62 61), (cC 63 .gtr 62 40)]) (.keep [1,4,63] (.cond (.t 63) (.seq (.reg false [(cQ 2 [] (.mv (kB true)))]) .ret) .skip)))) (.keep [1,4] (.reg false [(cMv 54 4), (cC 55 .add 54 1), (cMv 4 55)]))))))))) (.keep [1] (.seq (.seq (.reg false [(cLd 64 1 true 9), (cQ 65 [64] (.call (kF 19) [(.t 64)])), (cC 66 .neq 65 0)]) (.keep [1,66] (.cond (.t 66) (.seq (.reg false [(cQ 2 [] (.mv (kB false)))]) .ret) .skip))) (.keep [1] (.seq (.reg false [(cI 5 0)]) (.keep [1,5] (.seq (.seq (.reg false [(cI 6 0)]) (.keep [1,5,6] (.block 4 (.loop [1,5,6] none (.seq (.seq (.reg false [(cMv 67 6), (cFa 68 1 5), (cLd 69 68 false 1), (cLn 70 69), (cB 71 .lss 67 70)]) (.keep [1,5,6,71] (.cond (.t 71) .skip (.exit 4)))) (.keep [1,5,6] (.seq (.block 5 (.reg false [(cMv 74 5), (cFa 75 1 5), (cLd 76 75 false 1), (cMv 77 6), (cA 78 5 76 77), (cFa 79 78 4), (cLd 80 79 false 1), (cLn 81 80), (cB 82 .add 74 81), (cMv 5 82)])) (.keep [1,5,6] (.reg false [(cMv 72 6), (cC 73 .add 72 1), (cMv 6 73)]))))))))) (.keep [1,5] (.seq (.reg true [(cFa 83 1 6), (cLd 84 83 false 1), (cLn 85 84), (cC 86 .gtr 85 3), (cMv 87 86), (gQ 88 87 false [1] (.fad 5 (.t 1))), (gQ 89 87 false [88] (.ld false 1 (.t 88))), (gQ 90 87 false [89] (.len (.t 89))), (gQ 91 87 false [90] (.bin .gtr (.t 90) (kI 4))), (cQ 92 [87,91] (.pick (.t 87) (kB true) (.t 91))), (cMv 93 92), (gQ 94 93 false [1] (.fad 7 (.t 1))), (gQ 95 93 false [94] (.ld false 1 (.t 94))), (gQ 96 93 false [95] (.len (.t 95))), (gQ 97 93 false [96] (.bin .gtr (.t 96) (kI 3))), (cQ 98 [93,97] (.pick (.t 93) (kB true) (.t 97))), (cMv 99 98), (gMv 100 99 false 5), (gQ 101 99 false [100] (.bin .gtr (.t 100) (kI 4))), (cQ 102 [99,101] (.pick (.t 99) (kB true) (.t 101))), (cMv 2 102)]) .ret)))))))))))))))
def rs4 : List RV := [.t 2]
theorem cf4 : CF Tryz.prog Tryz.f4 [1] 0 1 rc4 rs4 1 := ⟨by kernel_rfl, by kernel_rfl, by kernel_rfl, by decide⟩
end Go.CS
set_option linter.all false
namespace Go.CS
open Go.Fam Go.Proofs
open Go.C06 (Span eI eIs Qbx gI gR dI Qbl Qcj fnG Qad Qab Qa6 Qa8 idxOf Qas Qaj Qal Qar Qai Qag Qac Qat Qb3 Qc5 vw_I Qay hmix eLI dLI Qca Qan Qa3 Qaa)
variable {Γ : Gam}
noncomputable def K13 : Gam := K12.ext 19 (fnG eH1 dH1 SmallS Qd0 .i)
theorem Zeb : GOk Tryz.prog K13 := Zea.ext (f := 19) (fun a w => Tryz.call19 a w) (Qad (e := eH1) (d := dH1) (ok := SmallS) (g := Qd0) (eb := .i) fun a h => W19 a h)
theorem h19 (s : Shop) : K13 19 [.ag (Qae s)] = (SmallS s, .i (Qd0 s)) := (show K13 19 _ = fnG eH1 dH1 SmallS Qd0 .i (eH1 s) from rfl).trans (Qab _ (Qnt _))
theorem Zbl (w : Work)  : K13 55 [.ag (Qa7 w)] = (SmallW w, .i (Qbs w true)) := h55 w
def Qbj (s : Shop) (is : Bool) : Int := if Qd0 s ≠ 0 then Qd0 s else if is = false then 1 else Qbs s.work true
def eHB (a : Shop × Bool) : List V := [.ag (Qae a.1), .b a.2]
def dHB : List V → Shop × Bool | [.ag s, .b n] => (Qj4 s, n) | _ => (Qj4 [], false)
theorem Qzn (a : Shop × Bool) : dHB (eHB a) = a := by obtain ⟨w, n⟩ := a; simp [dHB, eHB, Qjx]
theorem W32 (s : Shop) (is : Bool) (hs : SmallS s) : Qa5 Tryz.prog 32 [.ag (Qae s), .b is] (.i (Qbj s is)) := by
 refine Qa4 Zeb hmix Tryz.func32 cf32.b cf32.c cf32.s cf32.n ?_
 have g := h19 s
 have g2 := Zbl s.work
 simp only [Qae, Qa7] at g g2
 have hw := hs.work
 by_cases h0 : Qd0 s = 0
 rotate_left
 ·simp only [rc32, rs32, g, hs, h0, Qa0, Qa2, Qa1, flat, ↓reduceIte, Nat.reduceEqDiff, Nat.reduceAdd, Nat.reduceLT, Nat.reduceLeDiff, rvs, zipA, V.i.injEq, Qa, implies_true, reduceCtorEq, Qae, BU1]; simp [Qbj, h0]
 cases is with
 | false => simp only [rc32, rs32, g, hs, h0, Qa0, Qa2, Qa1, flat, ↓reduceIte, Nat.reduceEqDiff, Nat.reduceAdd, Nat.reduceLT, Nat.reduceLeDiff, rvs, zipA, V.i.injEq, Qa, implies_true, reduceCtorEq, Qae, BU1]; simp [Qbj, h0]
 | true => simp only [rc32, rs32, g, g2, hs, hw, h0, Qa0, Qa2, Qa1, flat, ↓reduceIte, Nat.reduceEqDiff, Nat.reduceAdd, Nat.reduceLT, Nat.reduceLeDiff, rvs, zipA, V.i.injEq, Qa, implies_true, reduceCtorEq, Qae, BU1]; simp [Qbj, h0]
noncomputable def K14 : Gam := K13.ext 32 (fnG eHB dHB (fun a => SmallS a.1) (fun a => Qbj a.1 a.2) .i)
theorem Zec : GOk Tryz.prog K14 := Zeb.ext (f := 32) (fun a w => Tryz.call32 a w) (Qad (e := eHB) (d := dHB) (ok := fun a => SmallS a.1) (g := fun a => Qbj a.1 a.2) (eb := .i) fun a h => W32 a.1 a.2 h)
theorem h32 (s : Shop) (is : Bool) : K14 32 [.ag (Qae s), .b is] = (SmallS s, .i (Qbj s is)) := (show K14 32 _ = fnG eHB dHB (fun a => SmallS a.1) (fun a => Qbj a.1 a.2) .i (eHB (s, is)) from rfl).trans (Qab _ (Qzn _))
theorem W13 (s : Shop) (hs : SmallS s) : Qa5 Tryz.prog 13 [.ag (Qae s)] (.i (Qbj s true)) := by
 refine Qa4 Zec hmix Tryz.func13 cf13.b cf13.c cf13.s cf13.n ?_
 have g := h32 s true
 simp only [Qae] at g
 simp only [rc13, rs13, g, hs, Qa0, Qa2, Qa1, flat, ↓reduceIte, Nat.reduceEqDiff, Nat.reduceAdd, Nat.reduceLT, Nat.reduceLeDiff, rvs, zipA, Qa, implies_true, Qae, BU1]
noncomputable def K15 : Gam := K14.ext 13 (fnG eH1 dH1 SmallS (fun s => Qbj s true) .i)
theorem Zed : GOk Tryz.prog K15 := Zec.ext (f := 13) (fun a w => Tryz.call13 a w) (Qad (e := eH1) (d := dH1) (ok := SmallS) (g := fun s => Qbj s true) (eb := .i) fun a h => W13 a h)
theorem h13 (s : Shop) : K15 13 [.ag (Qae s)] = (SmallS s, .i (Qbj s true)) := (show K15 13 _ = fnG eH1 dH1 SmallS (fun s => Qbj s true) .i (eH1 s) from rfl).trans (Qab _ (Qnt _))
theorem Zbm (w : Work)  : K15 42 [.ag (Qa7 w)] = (SmallW w, .i (Qcc w)) := h42 w
theorem Qc1 {α : Type} {l : List α} {p : α → Bool} {i : Nat} {x : α} (hx : l[i]? = some x) (e : p x = false) (hc : ∀ j y, j < i → l[j]? = some y → p y = false) : ∀ j y, j < i + 1 → l[j]? = some y → p y = false := by
 intro j y hj hy
 by_cases hji : j < i
 ·exact hc j y hji hy
 ·have : j = i := by omega
  subst this
  rw [hx] at hy; cases hy; exact e
theorem Qlf {α : Type} {l : List α} {p : α → Bool} {i : Nat} {x : α} (hx : l[i]? = some x) (e : p x = true) : l.any p = true := Qu.2 ⟨x, Qh hx, e⟩
theorem Qjs {α : Type} {l : List α} {p : α → Bool} (hc : ∀ j y, j < l.length → l[j]? = some y → p y = false) : l.any p = false := by
 rw [Qz]
 intro x hx
 obtain ⟨j, hj⟩ := Qt hx
 rw [hc j x (Qaf hj) hj]; simp
theorem Qmb {α : Type} {l : List α} {p : α → Bool} (h : l.any p = false) {x : α} (hx : x ∈ l) : p x = false := by
 have := Qz.1 h x hx
 simpa using this
def bigT (t : Slot) : Bool := decide ((20 : Int) < t.secs.length)
def bigM (m : List Slot) : Bool := decide ((20 : Int) < m.length) || m.any bigT
def bigW (w : Work) : Bool := decide ((40 : Int) < w.spares.length) || decide ((40 : Int) < w.makes.length) || decide ((60 : Int) < w.table.length) || w.makes.any bigM
theorem Qqy {w : Work} (h : bigW w = false) : SmallW w := by
 unfold bigW at h
 simp only [Qs, decide_eq_false_iff_not] at h
 obtain ⟨⟨⟨h1, h2⟩, h3⟩, h4⟩ := h
 have hm : ∀ m ∈ w.makes, m.length ≤ 20 ∧ ∀ t ∈ m, t.secs.length ≤ 20 := fun m hm => by
  have := Qmb h4 hm
  unfold bigM at this
  simp only [Qs, decide_eq_false_iff_not] at this
  refine ⟨by omega, fun t ht => ?_⟩
  have := Qmb this.2 ht
  unfold bigT at this
  simp only [decide_eq_false_iff_not] at this
  omega
 exact ⟨by omega, by omega, fun m h => by have := (hm m h).1; omega, fun m h t ht => by have := (hm m h).2 t ht; omega, by omega⟩
def Qun (s : Spare) : Bool := decide ((50 : Int) ≤ s.len.high - s.len.low)
def Za3 (w : Work) : Bool := w.spares.any Qun || (decide ((6 : Int) < w.spares.length) || decide ((4 : Int) < w.makes.length) || decide ((10 : Int) < w.table.length))
def farW (w : Work) : Bool := bigW w || (decide (Qcc w = 0) && Za3 w)
theorem W18 (w : Work) : Qa5 Tryz.prog 18 [.ag (Qa7 w)] (.b (farW w)) := by
 refine Qa4 Zed hmix Tryz.func18 cf18.b cf18.c cf18.s cf18.n ?_
 have yes : bigW w = true → farW w = true := fun e => by unfold farW; rw [e]; rfl
 have hB : bigW w = (decide ((40 : Int) < w.spares.length) || decide ((40 : Int) < w.makes.length) || decide ((60 : Int) < w.table.length) || w.makes.any bigM) := rfl
 by_cases a1 : (40 : Int) < w.spares.length
 ·have q := yes (by rw [hB]; simp [a1])
  simp only [rc18, rs18, a1, q, Qa0, Qa2, Qa1, ↓reduceIte, Nat.reduceEqDiff, Nat.reduceAdd, Nat.reduceLeDiff, rvs, zipA, Qa, Qb, forall_const, implies_true, imp_self, Qa7, BU1]
 by_cases a2 : (40 : Int) < w.makes.length
 ·have q := yes (by rw [hB]; simp [a2])
  simp only [rc18, rs18, a1, a2, q, Qa0, Qa2, Qa1, ↓reduceIte, Nat.reduceEqDiff, Nat.reduceAdd, Nat.reduceLeDiff, rvs, zipA, beq_self_eq_true, Qa, Qb, forall_const, implies_true, imp_self, Qa7, BU1]
 by_cases a3 : (60 : Int) < w.table.length
 ·have q := yes (by rw [hB]; simp [a3])
  simp only [rc18, rs18, a1, a2, a3, q, Qa0, Qa2, Qa1, ↓reduceIte, Nat.reduceEqDiff, Nat.reduceAdd, Nat.reduceLeDiff, rvs, zipA, beq_self_eq_true, Qa, forall_const, implies_true, Qa7, BU1]
 simp only [a1, a2, a3, decide_false, Qm] at hB
 simp only [rc18, rs18, a1, a2, a3, Qa0, Qa2, Qa1, ↓reduceIte, Nat.reduceEqDiff, Nat.reduceAdd, Nat.reduceLeDiff, zipA, beq_self_eq_true, Qa, forall_const, implies_true, Qa7, BU1]
 refine Qap w.makes.length (fun i => ⟨lkp [(1, .pa (Qa7 w)), (3, .i i)], []⟩) (fun i => ∀ j x, j < i → w.makes[j]? = some x → bigM x = false) ?_ ?_ ?_ ?_
 ·simp only [Qg, ↓reduceIte, Nat.reduceEqDiff, Qa7, BU1]
 ·intro j x h; omega
 ·intro i hi hc
  obtain ⟨m, hm⟩ : ∃ m, w.makes[i]? = some m := ⟨_, Qc hi⟩
  have hlt : (i : Int) < w.makes.length := by omega
  have h4 : inI ((i : Int) + 1) := by unfold inI; omega
  by_cases c1 : (20 : Int) < m.length
  ·have q := yes (by rw [hB]; exact Qlf hm (by simp [bigM, c1]))
   simp only [hm, hlt, eMake, c1, q, Qa0, ↓reduceIte, Nat.reduceEqDiff, Nat.reduceAdd, Nat.reduceLeDiff, rvs, Qa, eMake, Qa7, BU1]
  simp only [hm, hlt, eMake, c1, Qa0, ↓reduceIte, Nat.reduceEqDiff, Nat.reduceAdd, Nat.reduceLeDiff, Qa, eMake, Qa7, BU1]
  refine Qap m.length (fun k => ⟨lkp [(1, .pa (Qa7 w)), (3, .i i), (4, .i k)], []⟩) (fun k => ∀ j x, j < k → m[j]? = some x → bigT x = false) ?_ ?_ ?_ ?_
  ·simp only [Qg, ↓reduceIte, Nat.reduceEqDiff, Qa7, BU1]
  ·intro j x h; omega
  ·intro k hk hk2
   obtain ⟨t, ht⟩ : ∃ t, m[k]? = some t := ⟨_, Qc hk⟩
   have hkt : (k : Int) < m.length := by omega
   have h5 : inI ((k : Int) + 1) := by unfold inI; omega
   by_cases d1 : (20 : Int) < t.secs.length
   ·have hb : m.any bigT = true := Qlf ht (by simp [bigT, d1])
    have q := yes (by rw [hB]; exact Qlf hm (by simp [bigM, hb]))
    simp only [hm, hlt, eMake, ht, hkt, d1, q, Qa0, ↓reduceIte, Nat.reduceEqDiff, Nat.reduceAdd, Nat.reduceLeDiff, rvs, Qa, eSlot, eMake, Qa7, BU1]
   ·simp only [hm, hlt, eMake, ht, hkt, d1, h5, Qf, Qe, Qa0, ↓reduceIte, Nat.reduceEqDiff, Nat.reduceAdd, Nat.reduceLeDiff, Qa, eSlot, eMake, Qa7, BU1]
    exact Qc1 ht (by simp [bigT, d1]) hk2
  ·intro hk2
   have hkt : ¬ ((m.length : Int) < m.length) := by omega
   simp only [hm, hlt, eMake, hkt, h4, Qf, Qe, Qa0, ↓reduceIte, Nat.reduceEqDiff, Nat.reduceAdd, Nat.reduceLeDiff, Qa, eMake, Qa7, BU1]
   exact Qc1 hm (by unfold bigM; rw [Qjs hk2]; simp [c1]) hc
 intro hc
 have hlt : ¬ ((w.makes.length : Int) < w.makes.length) := by omega
 rw [Qjs hc] at hB
 have hw := Qqy hB
 have g := Zbm w
 unfold Qa7 at g
 have hF : farW w = (decide (Qcc w = 0) && Za3 w) := by unfold farW; rw [hB]; rfl
 by_cases h0 : Qcc w = 0
 rotate_left
 ·have q : farW w = false := by rw [hF]; simp [h0]
  simp only [hlt, g, hw, h0, q, Qa0, Qa2, Qa1, flat, ↓reduceIte, Nat.reduceEqDiff, Nat.reduceAdd, Nat.reduceLT, Nat.reduceLeDiff, rvs, Qa, implies_true, Qa7, BU1]
 have hO := Qm1 (Qit h0)
 have hF2 : farW w = (w.spares.any Qun || (decide ((6 : Int) < w.spares.length) || decide ((4 : Int) < w.makes.length) || decide ((10 : Int) < w.table.length))) := by rw [hF, h0]; simp [Za3]
 simp only [hlt, g, hw, h0, Qa0, Qa2, Qa1, flat, ↓reduceIte, Nat.reduceEqDiff, Nat.reduceAdd, Nat.reduceLT, Nat.reduceLeDiff, Qa, implies_true, Qa7, BU1]
 refine Qap w.spares.length (fun i => ⟨lkp [(1, .pa (Qa7 w)), (5, .i i)], []⟩) (fun i => ∀ j x, j < i → w.spares[j]? = some x → Qun x = false) ?_ ?_ ?_ ?_
 ·simp only [Qg, ↓reduceIte, Nat.reduceEqDiff, Qa7, BU1]
 ·intro j x h; omega
 ·intro i hi hc2
  obtain ⟨x, hx⟩ : ∃ x, w.spares[i]? = some x := ⟨_, Qc hi⟩
  have hlt : (i : Int) < w.spares.length := by omega
  have hS := Qfd (hO.spare _ (Qh hx))
  have h4 : inI ((i : Int) + 1) ∧ inI (x.len.high - x.len.low) := by unfold inI; omega
  by_cases d1 : (50 : Int) ≤ x.len.high - x.len.low
  ·have q : farW w = true := by rw [hF2, Qlf hx (by simp [Qun, d1])]; rfl
   simp only [hx, hlt, h4, d1, q, Qaq, Qa0, runX, fpQ, fpV, ↓reduceIte, Nat.reduceEqDiff, Nat.reduceAdd, Nat.reduceLeDiff, rvs, Qa, Qd, eSpare, Qa7, BU1]
  ·simp only [hx, hlt, h4, d1, Qf, Qe, Qaq, Qa0, runX, fpQ, fpV, ↓reduceIte, Nat.reduceEqDiff, Nat.reduceAdd, Nat.reduceLeDiff, Qa, Qd, eSpare, Qa7, BU1]
   exact Qc1 hx (by simp [Qun, d1]) hc2
 ·intro hc2
  have hlt : ¬ ((w.spares.length : Int) < w.spares.length) := by omega
  rw [Qjs hc2, Qm] at hF2
  by_cases d1 : (6 : Int) < w.spares.length
  ·simp [d1] at hF2
   simp only [hlt, d1, hF2, Qa0, ↓reduceIte, Nat.reduceEqDiff, Nat.reduceAdd, Nat.reduceLeDiff, rvs, Qa, Qb, forall_const, implies_true, imp_self, Qa7, BU1]
  by_cases d2 : (4 : Int) < w.makes.length
  ·simp [d1, d2] at hF2
   simp only [hlt, d1, d2, hF2, Qa0, ↓reduceIte, Nat.reduceEqDiff, Nat.reduceAdd, Nat.reduceLeDiff, rvs, beq_self_eq_true, Qa, Qb, forall_const, implies_true, imp_self, Qa7, BU1]
  simp only [d1, d2, decide_false, Qm] at hF2
  simp only [hlt, d1, d2, hF2, Qa0, ↓reduceIte, Nat.reduceEqDiff, Nat.reduceAdd, Nat.reduceLeDiff, rvs, beq_self_eq_true, Qa, forall_const, implies_true, Qa7, BU1]
end Go.CS
set_option linter.all false
namespace Go.CS
open Go.Fam Go.Proofs
open Go.C06 (Span eI eIs Qbx gI gR dI Qbl Qcj fnG Qad Qab Qa6 Qa8 idxOf Qas Qaj Qal Qar Qai Qag Qac Qat Qb3 Qc5 vw_I Qay hmix eLI dLI Qca Qan Qa3 Qaa)
variable {Γ : Gam}
noncomputable def K16 : Gam := K15.ext 18 (fnG eW1 dW1 (fun _ => True) farW .b)
theorem Zag : GOk Tryz.prog K16 := Zed.ext (f := 18) (fun a w => Tryz.call18 a w) (Qad (e := eW1) (d := dW1) (ok := fun _ => True) (g := farW) (eb := .b) fun a _ => W18 a)
theorem h18 (w : Work) : K16 18 [.ag (Qa7 w)] = (True, .b (farW w)) := (show K16 18 _ = fnG eW1 dW1 (fun _ => True) farW .b (eW1 w) from rfl).trans (Qab _ (Qnu _))
theorem Zbn (s : Shop)  : K16 19 [.ag (Qae s)] = (SmallS s, .i (Qd0 s)) := h19 s
def bigP (p : Piece) : Bool := decide ((40 : Int) < p.broken.length)
def bigX (x : Wish) : Bool := decide ((40 : Int) < x.colors.length)
def bigS (s : Shop) : Bool := farW s.work || decide ((40 : Int) < s.stock.length) || decide ((40 : Int) < s.pieces.length) || decide ((40 : Int) < s.wishes.length) || decide ((40 : Int) < s.dels.length) || (s.pieces.any bigP || s.wishes.any bigX)
def Qd5 (l : List Piece) : Int := (l.map fun p => (p.broken.length : Int)).sum
def Za2 (s : Shop) : Bool := decide ((3 : Int) < s.wishes.length) || decide ((4 : Int) < s.pieces.length) || decide ((3 : Int) < s.dels.length) || decide (4 < Qd5 s.pieces)
def farS (s : Shop) : Bool := bigS s || (decide (Qd0 s = 0) && Za2 s)
theorem Qhy {s : Shop} (h : bigS s = false) : SmallS s ∧ s.stock.length ≤ 40 ∧ s.pieces.length ≤ 40 ∧ s.wishes.length ≤ 40 ∧ s.dels.length ≤ 40 ∧ (∀ p ∈ s.pieces, p.broken.length ≤ 40) ∧ ∀ x ∈ s.wishes, x.colors.length ≤ 40 := by
 unfold bigS at h
 simp only [Qs, decide_eq_false_iff_not] at h
 obtain ⟨⟨⟨⟨⟨h1, h2⟩, h3⟩, h4⟩, h5⟩, h6, h7⟩ := h
 have hw : bigW s.work = false := by
  unfold farW at h1
  rw [Qs] at h1
  exact h1.1
 have hb : ∀ p ∈ s.pieces, p.broken.length ≤ 40 := fun p hp => by
  have := Qmb h6 hp
  unfold bigP at this
  simp only [decide_eq_false_iff_not] at this
  omega
 have hx : ∀ x ∈ s.wishes, x.colors.length ≤ 40 := fun p hp => by
  have := Qmb h7 hp
  unfold bigX at this
  simp only [decide_eq_false_iff_not] at this
  omega
 exact ⟨⟨Qqy hw, fun p hp => by have := hb p hp; omega, fun p hp => by have := hx p hp; omega⟩, by omega, by omega, by omega, by omega, hb, hx⟩
theorem Qpa {l : List Piece} {i : Nat} {x : Piece} (h : l[i]? = some x) : Qd5 (l.take (i + 1)) = Qd5 (l.take i) + x.broken.length := by
 rw [Qa8 h]; simp [Qd5]
theorem Qs0 {l : List Piece} (h : ∀ p ∈ l, p.broken.length ≤ 40) : 0 ≤ Qd5 l ∧ Qd5 l ≤ 40 * l.length := by
 induction l with
 | nil => simp [Qd5]
 | cons a l ih =>
  have := ih fun p hp => h p (by simp [hp])
  have h2 := h a (by simp)
  have e : Qd5 (a :: l) = a.broken.length + Qd5 l := by simp [Qd5]
  rw [e]; simp only [List.length_cons]; omega
theorem W4 (s : Shop) : Qa5 Tryz.prog 4 [.ag (Qae s)] (.b (farS s)) := by
 refine Qa4 Zag hmix Tryz.func4 cf4.b cf4.c cf4.s cf4.n ?_
 have g1 := h18 s.work
 simp only [Qa7] at g1
 have yes : bigS s = true → farS s = true := fun e => by unfold farS; rw [e]; rfl
 have hB : bigS s = (farW s.work || decide ((40 : Int) < s.stock.length) || decide ((40 : Int) < s.pieces.length) || decide ((40 : Int) < s.wishes.length) || decide ((40 : Int) < s.dels.length) || (s.pieces.any bigP || s.wishes.any bigX)) := rfl
 cases a0 : farW s.work with
 | true =>
  have q := yes (by rw [hB]; simp [a0])
  simp only [rc4, rs4, g1, a0, q, Qa0, Qa2, Qa1, flat, ↓reduceIte, Nat.reduceEqDiff, Nat.reduceAdd, Nat.reduceLT, Nat.reduceLeDiff, rvs, zipA, Qa, Qb, forall_const, implies_true, imp_self, Qae, BU1]
 | false =>
 by_cases a1 : (40 : Int) < s.stock.length
 ·have q := yes (by rw [hB]; simp [a1])
  simp only [rc4, rs4, g1, a0, a1, q, Qa0, Qa2, Qa1, flat, ↓reduceIte, Nat.reduceEqDiff, Nat.reduceAdd, Nat.reduceLT, Nat.reduceLeDiff, rvs, zipA, beq_self_eq_true, Qa, Qb, forall_const, implies_true, imp_self, Qae, BU1]
 by_cases a2 : (40 : Int) < s.pieces.length
 ·have q := yes (by rw [hB]; simp [a2])
  simp only [rc4, rs4, g1, a0, a1, a2, q, Qa0, Qa2, Qa1, flat, ↓reduceIte, Nat.reduceEqDiff, Nat.reduceAdd, Nat.reduceLT, Nat.reduceLeDiff, rvs, zipA, beq_self_eq_true, Qa, Qb, forall_const, implies_true, imp_self, Qae, BU1]
 by_cases a3 : (40 : Int) < s.wishes.length
 ·have q := yes (by rw [hB]; simp [a3])
  simp only [rc4, rs4, g1, a0, a1, a2, a3, q, Qa0, Qa2, Qa1, flat, ↓reduceIte, Nat.reduceEqDiff, Nat.reduceAdd, Nat.reduceLT, Nat.reduceLeDiff, rvs, zipA, beq_self_eq_true, Qa, Qb, forall_const, implies_true, imp_self, Qae, BU1]
 by_cases a4 : (40 : Int) < s.dels.length
 ·have q := yes (by rw [hB]; simp [a4])
  simp only [rc4, rs4, g1, a0, a1, a2, a3, a4, q, Qa0, Qa2, Qa1, flat, ↓reduceIte, Nat.reduceEqDiff, Nat.reduceAdd, Nat.reduceLT, Nat.reduceLeDiff, rvs, zipA, beq_self_eq_true, Qa, forall_const, implies_true, Qae, BU1]
 simp only [a0, a1, a2, a3, a4, decide_false, Qm] at hB
 simp only [rc4, rs4, g1, a0, a1, a2, a3, a4, Qa0, Qa2, Qa1, flat, ↓reduceIte, Nat.reduceEqDiff, Nat.reduceAdd, Nat.reduceLT, Nat.reduceLeDiff, zipA, beq_self_eq_true, Qa, forall_const, implies_true, Qae, BU1]
 refine Qap s.pieces.length (fun i => ⟨lkp [(1, .pa (Qae s)), (3, .i i)], []⟩) (fun i => ∀ j x, j < i → s.pieces[j]? = some x → bigP x = false) ?_ ?_ ?_ ?_
 ·simp only [Qg, ↓reduceIte, Nat.reduceEqDiff, Qae, BU1]
 ·intro j x h; omega
 ·intro i hi hc
  obtain ⟨x, hx⟩ : ∃ x, s.pieces[i]? = some x := ⟨_, Qc hi⟩
  have hlt : (i : Int) < s.pieces.length := by omega
  have h4 : inI ((i : Int) + 1) := by unfold inI; omega
  by_cases d1 : (40 : Int) < x.broken.length
  ·have q := yes (by rw [hB, Qlf hx (by simp [bigP, d1])]; rfl)
   simp only [hx, hlt, d1, q, Qa0, ↓reduceIte, Nat.reduceEqDiff, Nat.reduceAdd, Nat.reduceLeDiff, rvs, Qa, ePiece, Qae, BU1]
  ·simp only [hx, hlt, d1, h4, Qf, Qe, Qa0, ↓reduceIte, Nat.reduceEqDiff, Nat.reduceAdd, Nat.reduceLeDiff, Qa, ePiece, Qae, BU1]
   exact Qc1 hx (by simp [bigP, d1]) hc
 intro hc
 have hlt : ¬ ((s.pieces.length : Int) < s.pieces.length) := by omega
 rw [Qjs hc, Qm] at hB
 simp only [hlt, Qa0, ↓reduceIte, Nat.reduceEqDiff, Nat.reduceAdd, Nat.reduceLeDiff, Qa, Qae, BU1]
 refine Qap s.wishes.length (fun i => ⟨lkp [(1, .pa (Qae s)), (4, .i i)], []⟩) (fun i => ∀ j x, j < i → s.wishes[j]? = some x → bigX x = false) ?_ ?_ ?_ ?_
 ·simp only [Qg, ↓reduceIte, Nat.reduceEqDiff, Qae, BU1]
 ·intro j x h; omega
 ·intro i hi hc
  obtain ⟨x, hx⟩ : ∃ x, s.wishes[i]? = some x := ⟨_, Qc hi⟩
  have hlt : (i : Int) < s.wishes.length := by omega
  have h4 : inI ((i : Int) + 1) := by unfold inI; omega
  by_cases d1 : (40 : Int) < x.colors.length
  ·have q := yes (by rw [hB, Qlf hx (by simp [bigX, d1])])
   simp only [hx, hlt, d1, q, Qa0, ↓reduceIte, Nat.reduceEqDiff, Nat.reduceAdd, Nat.reduceLeDiff, rvs, Qa, eWish, Qae, BU1]
  ·simp only [hx, hlt, d1, h4, Qf, Qe, Qa0, ↓reduceIte, Nat.reduceEqDiff, Nat.reduceAdd, Nat.reduceLeDiff, Qa, eWish, Qae, BU1]
   exact Qc1 hx (by simp [bigX, d1]) hc
 intro hc2
 have hlt2 : ¬ ((s.wishes.length : Int) < s.wishes.length) := by omega
 rw [Qjs hc2] at hB
 obtain ⟨hs, _, hpl, _, _, hbr, _⟩ := Qhy hB
 have g2 := Zbn s
 simp only [Qae] at g2
 have hF : farS s = (decide (Qd0 s = 0) && Za2 s) := by unfold farS; rw [hB]; rfl
 by_cases h0 : Qd0 s = 0
 rotate_left
 ·have q : farS s = false := by rw [hF]; simp [h0]
  simp only [hlt2, g2, hs, h0, q, Qa0, Qa2, Qa1, flat, ↓reduceIte, Nat.reduceEqDiff, Nat.reduceAdd, Nat.reduceLT, Nat.reduceLeDiff, rvs, Qa, implies_true, Qae, BU1]
 have hF2 : farS s = (decide ((3 : Int) < s.wishes.length) || decide ((4 : Int) < s.pieces.length) || decide ((3 : Int) < s.dels.length) || decide (4 < Qd5 s.pieces)) := by rw [hF, h0]; simp [Za2]
 simp only [hlt2, g2, hs, h0, Qa0, Qa2, Qa1, flat, ↓reduceIte, Nat.reduceEqDiff, Nat.reduceAdd, Nat.reduceLT, Nat.reduceLeDiff, Qa, implies_true, Qae, BU1]
 refine Qb5 s.pieces.length (fun i => ⟨lkp [(1, .pa (Qae s)), (5, .i (Qd5 (s.pieces.take i))), (6, .i i)], []⟩) ?_ ?_ ?_
 ·have e0 : Qd5 [] = 0 := rfl
  simp only [Qg, e0, ↓reduceIte, Nat.reduceEqDiff, Qae, BU1]
 ·intro i hi
  obtain ⟨x, hx⟩ : ∃ x, s.pieces[i]? = some x := ⟨_, Qc hi⟩
  have hlt : (i : Int) < s.pieces.length := by omega
  have hst := Qpa hx
  have hb := Qs0 (l := s.pieces.take (i + 1)) fun p hp => hbr p (List.mem_of_mem_take hp)
  rw [Q1] at hb
  rw [hst] at hb
  have h4 : inI ((i : Int) + 1) ∧ inI (Qd5 (s.pieces.take i) + x.broken.length) := by unfold inI; omega
  generalize Qd5 (s.pieces.take i) = B at *
  simp only [hx, hlt, h4, hst, Qf, Qe, Qa0, ↓reduceIte, Nat.reduceEqDiff, Nat.reduceAdd, Nat.reduceLeDiff, Qa, ePiece, Qae, BU1]
 ·have hlt : ¬ ((s.pieces.length : Int) < s.pieces.length) := by omega
  rw [Q6]
  by_cases d1 : (3 : Int) < s.wishes.length
  ·simp [d1] at hF2
   simp only [hlt, d1, hF2, Qa0, ↓reduceIte, Nat.reduceEqDiff, Nat.reduceAdd, Nat.reduceLeDiff, rvs, Qa, Qb, forall_const, implies_true, imp_self, Qae, BU1]
  by_cases d2 : (4 : Int) < s.pieces.length
  ·simp [d1, d2] at hF2
   simp only [hlt, d1, d2, hF2, Qa0, ↓reduceIte, Nat.reduceEqDiff, Nat.reduceAdd, Nat.reduceLeDiff, rvs, beq_self_eq_true, Qa, Qb, forall_const, implies_true, imp_self, Qae, BU1]
  by_cases d3 : (3 : Int) < s.dels.length
  ·simp [d1, d2, d3] at hF2
   simp only [hlt, d1, d2, d3, hF2, Qa0, ↓reduceIte, Nat.reduceEqDiff, Nat.reduceAdd, Nat.reduceLeDiff, rvs, beq_self_eq_true, Qa, Qb, forall_const, implies_true, imp_self, Qae, BU1]
  simp only [d1, d2, d3, decide_false, Qm] at hF2
  simp only [hlt, d1, d2, d3, hF2, Qa0, ↓reduceIte, Nat.reduceEqDiff, Nat.reduceAdd, Nat.reduceLeDiff, rvs, beq_self_eq_true, Qa, forall_const, implies_true, Qae, BU1]
end Go.CS
set_option maxRecDepth 8000
namespace Go.CS
open Go.Fam Go.Proofs
def rc31 : RC := (.seq (.reg false [(cX 1 0), ⟨(some 2), none, [], none, .w (.alc [(.z 4), (.z 1), (.i 0), (.z 4)])⟩]) (.keep [1,2] (.seq (.reg false [(cLd 7 1 true 4), ⟨(some 3), none, [], none, .w (.alc [(.z 4), (.z 1), (.i 0), (.z 4)])⟩, ⟨none, none, [3,7], none, .w (.st 4 (.t 3) (.t 7))⟩]) (.keep [1,2,3] (.seq (.any false 4 [⟨⟨(some 8), none, [], (some 0), .w (.bso 4 0 [(.i 0), (.i 0), (.i 0), (.i 0)] [])⟩, [], []⟩, ⟨(cFa 9 1 0), [0], []⟩, ⟨(cLd 10 9 false 1), [0], [1]⟩, ⟨⟨(some 11), none, [8,10], (some 1), .w (.app 4 (.t 8) (.t 10))⟩, [], [0,2,1]⟩, ⟨⟨(some 12), none, [], (some 2), .w (.bso 4 0 [(.i 0), (.i 0), (.i 0), (.i 0)] [])⟩, [0,1,2,3], []⟩, ⟨(cFa 13 1 3), [0,3,4], []⟩, ⟨(cLd 14 13 false 1), [0,3,4], [5]⟩, ⟨⟨(some 15), none, [12,14], (some 3), .w (.app 4 (.t 12) (.t 14))⟩, [], [4,6,5,3,0,2,1]⟩, ⟨(cFa 16 3 0), [4,7], [0,1,2,3]⟩, ⟨⟨none, none, [16,11], none, .w (.st 1 (.t 16) (.t 11))⟩, [], [8,0,1,2,3,7,4,6,5]⟩, ⟨(cFa 17 3 3), [], [0,1,2,3,4,5,6,7,8,9]⟩, ⟨⟨none, none, [17,15], none, .w (.st 1 (.t 17) (.t 15))⟩, [], [10,0,1,2,3,4,5,6,7,8,9]⟩]) (.keep [1,2,3] (.seq (.reg false [(cFa 18 3 1), ⟨none, none, [18], none, .w (.st 1 (.t 18) (.k (.z 1)))⟩]) (.keep [1,2,3] (.seq (.seq (.reg false [(cI 4 0)]) (.keep [1,2,3,4] (.block 0 (.ownc 3 1 1 (.loop [1,2,3,4] (some 7) (.seq (.seq (.reg false [(cMv 19 4), (cFa 20 1 1), (cLd 21 20 false 1), (cLn 22 21), (cB 23 .lss 19 22)]) (.keep [1,2,3,4,23] (.cond (.t 23) .skip (.exit 0)))) (.keep [1,2,3,4] (.seq (.block 1 (.seq (.reg false [⟨(some 26), none, [], none, .w (.bso 4 0 [(.i 0), (.z 1), (.i 0), (.i 0)] [])⟩, (cFa 27 1 1), (cLd 28 27 false 1), (cMv 29 4), (cA 30 1 28 29), (cFa 31 30 0), (cLd 32 31 false 1), ⟨(some 33), none, [26,32], none, .w (.app 4 (.t 26) (.t 32))⟩, (cQ 34 [33] (.bld [(.z 4)] [(0,1, (.t 33))])), ⟨(some 5), none, [], none, .w (.alc [(.z 4)])⟩, ⟨none, none, [5,34], none, .w (.st 1 (.t 5) (.t 34))⟩]) (.keep [1,2,3,4,5] (.seq (.seq (.reg false [(cI 6 0)]) (.keep [1,2,3,4,5,6] (.block 2 (.loop [1,2,3,4,5,6] (some 9) (.seq (.seq (.reg false [(cMv 35 6), (cFa 36 5 0), (cLd 37 36 false 1), (cLn 38 37), (cB 39 .lss 35 38)]) (.keep [1,2,3,4,5,6,39] (.cond (.t 39) .skip (.exit 2)))) (.keep [1,2,3,4,5,6] (.seq (.block 3 (.any false 2 [⟨(cFa 42 5 0), [], []⟩, ⟨(cLd 43 42 false 1), [], [0]⟩, ⟨(cMv 44 6), [], []⟩, ⟨⟨(some 45), none, [], (some 0), .w (.bso 1 0 [(.i 0)] [])⟩, [0,1,2], []⟩, ⟨(cFa 46 5 0), [3], []⟩, ⟨(cLd 47 46 false 1), [3], [4]⟩, ⟨(cMv 48 6), [3], []⟩, ⟨(cA 49 4 47 48), [3], [5,4,6]⟩, ⟨(cFa 50 49 1), [3], [7,5,4,6]⟩, ⟨(cLd 51 50 false 1), [3], [8,7,5,4,6]⟩, ⟨⟨(some 52), none, [45,51], (some 1), .w (.app 1 (.t 45) (.t 51))⟩, [0,1,2], [3,9,8,7,5,4,6]⟩, ⟨(cA 53 4 43 44), [], [1,0,2,3,4,5,6,7,8,9,10]⟩, ⟨(cFa 54 53 1), [], [11,1,0,2,3,4,5,6,7,8,9,10]⟩, ⟨⟨none, none, [54,52], none, .w (.st 1 (.t 54) (.t 52))⟩, [], [12,11,1,0,2,3,4,5,6,7,8,9,10]⟩])) (.drp 9 (.keep [1,2,3,4,5,6] (.reg false [(cMv 40 6), (cC 41 .add 40 1), (cMv 6 41)])))))))))) (.keep [1,2,3,4,5] (.drp 7 (.reg false [(cFa 55 3 1), (cLd 56 55 false 1), (cLd 57 5 true 1), (cQ 58 [57] (.bsl 1 1 [(.z 4)] [(0,1, (.t 57))])), ⟨(some 59), none, [56,58], none, .w (.app 1 (.t 56) (.t 58))⟩, (cFa 60 3 1), ⟨none, none, [60,59], none, .w (.st 1 (.t 60) (.t 59))⟩]))))))) (.drp 7 (.keep [1,2,3,4] (.reg false [(cMv 24 4), (cC 25 .add 24 1), (cMv 4 25)]))))))))))) (.keep [2,3] (.seq (.reg false [(cLd 61 3 true 4), ⟨none, none, [2,61], none, .w (.st 4 (.t 2) (.t 61))⟩]) .ret)))))))))))
def rs31 : List RV := [.c 2 true 4]
theorem cf31 : CF Tryz.prog Tryz.f31 [1,58] 0 1 rc31 rs31 1 := ⟨by kernel_rfl, by kernel_rfl, by kernel_rfl, by decide⟩
def rc11 : RC := (.seq (.reg false [(cX 1 0), ⟨(some 2), none, [], none, .w (.alc [(.z 4), (.z 1), (.i 0), (.z 4), (.z 1), (.z 5), (.z 6), (.z 3), (.i 0)])⟩]) (.keep [1,2] (.seq (.reg false [(cLd 6 1 true 9), ⟨(some 3), none, [], none, .w (.alc [(.z 4), (.z 1), (.i 0), (.z 4), (.z 1), (.z 5), (.z 6), (.z 3), (.i 0)])⟩, ⟨none, none, [3,6], none, .w (.st 9 (.t 3) (.t 6))⟩]) (.keep [1,2,3] (.seq (.reg false [(cFa 7 1 0), (cLd 8 7 true 4), (cQ 9 [8] (.call (kF 31) [(.t 8)])), (cFa 10 3 0), ⟨none, none, [10,9], none, .w (.st 4 (.t 10) (.t 9))⟩]) (.keep [1,2,3] (.seq (.reg false [⟨(some 11), none, [], none, .w (.bso 1 0 [(.i 0)] [])⟩, (cFa 12 1 4), (cLd 13 12 false 1), ⟨(some 14), none, [11,13], none, .w (.app 1 (.t 11) (.t 13))⟩, (cFa 15 3 4), ⟨none, none, [15,14], none, .w (.st 1 (.t 15) (.t 14))⟩]) (.keep [1,2,3] (.seq (.any false 6 [⟨⟨(some 16), none, [], (some 0), .w (.bso 5 0 [(.i 0), (.i 0), (.i 0), (.i 0), (.z 1)] [])⟩, [], []⟩, ⟨(cFa 17 1 5), [0], []⟩, ⟨(cLd 18 17 false 1), [0], [1]⟩, ⟨⟨(some 19), none, [16,18], (some 1), .w (.app 5 (.t 16) (.t 18))⟩, [], [0,2,1]⟩, ⟨⟨(some 20), none, [], (some 2), .w (.bso 6 0 [(.z 1), (.i 0), (.i 0), (.i 0), (.i 0), (.i 0)] [])⟩, [0,1,2,3], []⟩, ⟨(cFa 21 1 6), [0,3,4], []⟩, ⟨(cLd 22 21 false 1), [0,3,4], [5]⟩, ⟨⟨(some 23), none, [20,22], (some 3), .w (.app 6 (.t 20) (.t 22))⟩, [], [4,6,5,3,0,2,1]⟩, ⟨⟨(some 24), none, [], (some 4), .w (.bso 3 0 [(.i 0), (.i 0), (.i 0)] [])⟩, [0,1,2,3,4,5,6,7], []⟩, ⟨(cFa 25 1 7), [0,3,4,7,8], []⟩, ⟨(cLd 26 25 false 1), [0,3,4,7,8], [9]⟩, ⟨⟨(some 27), none, [24,26], (some 5), .w (.app 3 (.t 24) (.t 26))⟩, [], [8,10,9,7,4,6,5,3,0,2,1]⟩, ⟨(cFa 28 3 5), [4,7,8,11], [0,1,2,3]⟩, ⟨⟨none, none, [28,19], none, .w (.st 1 (.t 28) (.t 19))⟩, [], [12,0,1,2,3,11,8,10,9,7,4,6,5]⟩, ⟨(cFa 29 3 6), [], [0,1,2,3,4,5,6,7,12,13,11,8,10,9]⟩, ⟨⟨none, none, [29,23], none, .w (.st 1 (.t 29) (.t 23))⟩, [], [14,0,1,2,3,4,5,6,7,12,13,11,8,10,9]⟩, ⟨(cFa 30 3 7), [], [0,1,2,3,4,5,6,7,8,9,10,11,12,13,14,15]⟩, ⟨⟨none, none, [30,27], none, .w (.st 1 (.t 30) (.t 27))⟩, [], [16,0,1,2,3,4,5,6,7,8,9,10,11,12,13,14,15]⟩]) (.keep [1,2,3] (.seq (.seq (.reg false [(cI 4 0)]) (.keep [1,2,3,4] (.block 0 (.loop [1,2,3,4] (some 9) (.seq (.seq (.reg false [(cMv 31 4), (cFa 32 3 5), (cLd 33 32 false 1), (cLn 34 33), (cB 35 .lss 31 34)]) (.keep [1,2,3,4,35] (.cond (.t 35) .skip (.exit 0)))) (.keep [1,2,3,4] (.seq (.block 1 (.any false 2 [⟨(cFa 38 3 5), [], []⟩, ⟨(cLd 39 38 false 1), [], [0]⟩, ⟨(cMv 40 4), [], []⟩, ⟨⟨(some 41), none, [], (some 0), .w (.bso 1 0 [(.i 0)] [])⟩, [0,1,2], []⟩, ⟨(cFa 42 1 5), [3], []⟩, ⟨(cLd 43 42 false 1), [3], [4]⟩, ⟨(cMv 44 4), [3], []⟩, ⟨(cA 45 5 43 44), [3], [5,4,6]⟩, ⟨(cFa 46 45 4), [3], [7,5,4,6]⟩, ⟨(cLd 47 46 false 1), [3], [8,7,5,4,6]⟩, ⟨⟨(some 48), none, [41,47], (some 1), .w (.app 1 (.t 41) (.t 47))⟩, [0,1,2], [3,9,8,7,5,4,6]⟩, ⟨(cA 49 5 39 40), [], [1,0,2,3,4,5,6,7,8,9,10]⟩, ⟨(cFa 50 49 4), [], [11,1,0,2,3,4,5,6,7,8,9,10]⟩, ⟨⟨none, none, [50,48], none, .w (.st 1 (.t 50) (.t 48))⟩, [], [12,11,1,0,2,3,4,5,6,7,8,9,10]⟩])) (.drp 9 (.keep [1,2,3,4] (.reg false [(cMv 36 4), (cC 37 .add 36 1), (cMv 4 37)])))))))))) (.keep [1,2,3] (.seq (.seq (.reg false [(cI 5 0)]) (.keep [1,2,3,5] (.block 2 (.loop [1,2,3,5] (some 9) (.seq (.seq (.reg false [(cMv 51 5), (cFa 52 3 6), (cLd 53 52 false 1), (cLn 54 53), (cB 55 .lss 51 54)]) (.keep [1,2,3,5,55] (.cond (.t 55) .skip (.exit 2)))) (.keep [1,2,3,5] (.seq (.block 3 (.any false 2 [⟨(cFa 58 3 6), [], []⟩, ⟨(cLd 59 58 false 1), [], [0]⟩, ⟨(cMv 60 5), [], []⟩, ⟨⟨(some 61), none, [], (some 0), .w (.bso 1 0 [(.i 0)] [])⟩, [0,1,2], []⟩, ⟨(cFa 62 1 6), [3], []⟩, ⟨(cLd 63 62 false 1), [3], [4]⟩, ⟨(cMv 64 5), [3], []⟩, ⟨(cA 65 6 63 64), [3], [5,4,6]⟩, ⟨(cFa 66 65 0), [3], [7,5,4,6]⟩, ⟨(cLd 67 66 false 1), [3], [8,7,5,4,6]⟩, ⟨⟨(some 68), none, [61,67], (some 1), .w (.app 1 (.t 61) (.t 67))⟩, [0,1,2], [3,9,8,7,5,4,6]⟩, ⟨(cA 69 6 59 60), [], [1,0,2,3,4,5,6,7,8,9,10]⟩, ⟨(cFa 70 69 0), [], [11,1,0,2,3,4,5,6,7,8,9,10]⟩, ⟨⟨none, none, [70,68], none, .w (.st 1 (.t 70) (.t 68))⟩, [], [12,11,1,0,2,3,4,5,6,7,8,9,10]⟩])) (.drp 9 (.keep [1,2,3,5] (.reg false [(cMv 56 5), (cC 57 .add 56 1), (cMv 5 57)])))))))))) (.keep [2,3] (.seq (.reg false [(cLd 71 3 true 9), ⟨none, none, [2,71], none, .w (.st 9 (.t 2) (.t 71))⟩]) .ret)))))))))))))))
def rs11 : List RV := [.c 2 true 9]
theorem cf11 : CF Tryz.prog Tryz.f11 [1] 0 1 rc11 rs11 1 := ⟨by kernel_rfl, by kernel_rfl, by kernel_rfl, by decide⟩
end Go.CS
set_option linter.all false
namespace Go.CS
open Go.Fam Go.Proofs
open Go.C06 (Span eI eIs Qbx gI gR dI Qbl Qcj fnG Qad Qab Qa6 Qa8 idxOf Qas Qaj Qal Qar Qai Qag Qac Qat Qb3 Qc5 vw_I Qay hmix eLI dLI Qca Qan Qa3 Qaa Qau)
variable {Γ : Gam}
theorem Zdy (l : List Spare) : ((l.map eSpare).flatten).length = l.length * 4 := Qar (e := eSpare) (k := 4) (fun _ => rfl) l
theorem Zdz (l : List Trial) : ((l.map eTrial).flatten).length = l.length * 4 := Qar (e := eTrial) (k := 4) (fun _ => rfl) l
theorem Qyn (l : List Slot) : ((l.map eSlot).flatten).length = l.length * 4 := Qar (e := eSlot) (k := 4) (fun _ => rfl) l
theorem Qyl (l : List (List Slot)) : ((l.map eMake).flatten).length = l.length * 1 := Qar (e := eMake) (k := 1) (fun _ => rfl) l
theorem Qjj (l : List Spare) : Qa1 ((l.map eSpare).flatten) = false := Qac (e := eSpare) (fun _ => rfl) l
theorem Qjk (l : List Trial) : Qa1 ((l.map eTrial).flatten) = false := Qac (e := eTrial) (fun _ => rfl) l
theorem Qn2 (l : List Slot) : Qa1 ((l.map eSlot).flatten) = false := Qac (e := eSlot) (fun _ => rfl) l
theorem Qn1 (l : List (List Slot)) : Qa1 ((l.map eMake).flatten) = false := Qac (e := eMake) (fun _ => rfl) l
theorem Qwe (l : List Spare) : Qcg 4 ((l.map eSpare).flatten) 0 l.length = l.map eSpare := Qai (e := eSpare) (k := 4) (fun _ => rfl) l
theorem Qwf (l : List Trial) : Qcg 4 ((l.map eTrial).flatten) 0 l.length = l.map eTrial := Qai (e := eTrial) (k := 4) (fun _ => rfl) l
theorem Qwd (l : List Slot) : Qcg 4 ((l.map eSlot).flatten) 0 l.length = l.map eSlot := Qai (e := eSlot) (k := 4) (fun _ => rfl) l
theorem Qwb (l : List (List Slot)) : Qcg 1 ((l.map eMake).flatten) 0 l.length = l.map eMake := Qai (e := eMake) (k := 1) (fun _ => rfl) l
theorem Ziu (hp : List Blk) (n : Nat) (l : List Spare) : (l.map eSpare).map (fun r => r.map (vw hp (n + 1))) = l.map eSpare := Qag (e := eSpare) hp (n + 1) (fun _ => rfl) l
theorem Ziv (hp : List Blk) (n : Nat) (l : List Trial) : (l.map eTrial).map (fun r => r.map (vw hp (n + 1))) = l.map eTrial := Qag (e := eTrial) hp (n + 1) (fun _ => rfl) l
theorem Zit (hp : List Blk) (n : Nat) (l : List Slot) : (l.map eSlot).map (fun r => r.map (vw hp (n + 1))) = l.map eSlot := Qag (e := eSlot) hp (n + 1) (fun _ => rfl) l
theorem Zir (hp : List Blk) (n : Nat) (l : List (List Slot)) : (l.map eMake).map (fun r => r.map (vw hp (n + 1))) = l.map eMake := Qag (e := eMake) hp (n + 1) (fun _ => rfl) l
theorem Qmn {α : Type} {e : α → List V} {k o : Nat} (hk : ∀ x, (e x).length = k) (ho : o < k) : ∀ (l : List α) (i : Nat) (x : α), l[i]? = some x → ((l.map e).flatten)[i * k + o]? = (e x)[o]?
 | [], i, x, h => by cases h
 | a :: l, 0, x, h => by
  cases h
  rw [List.map_cons, Qw, List.getElem?_append_left (by rw [hk]; omega), Nat.zero_mul, Nat.zero_add]
 | a :: l, i + 1, x, h => by
  have e2 : (i + 1) * k + o = k + (i * k + o) := by rw [Nat.add_mul]; omega
  rw [List.map_cons, Qw, e2, List.getElem?_append_right (by rw [hk]; omega), hk, Nat.add_sub_cancel_left]
  exact Qmn hk ho l i x (by simpa using h)
theorem Qxn {α : Type} {l : List α} {k : Nat} {x : α} (h : l[k]? = some x) : l.take k ++ [x] ++ l.drop (k + 1) = l := by
 obtain ⟨hk, rfl⟩ := List.getElem?_eq_some_iff.1 h
 rw [List.append_assoc, List.singleton_append, ← List.drop_eq_getElem_cons hk, Q3]
theorem Qj9 (hp : List Blk) (n : Nat) : ∀ (a b : List V), cutL hp n (a ++ b) = cutL hp n a ++ cutL hp n b
 | [], b => rfl
 | v :: a, b => by simp only [List.cons_append, cutL, Qj9 hp n a b]
theorem Qm0 {l : List V} (h : Qa1 l = false) (k : Nat) : Qa1 (l.take k) = false ∧ Qa1 (l.drop k) = false := by
 have := h
 rw [← Q3 k l, Qaa, Qs] at this
 exact this
theorem Qpb {α : Type} {e : α → List V} {k o : Nat} (hk : ∀ x, (e x).length = k) (ho : o < k) (hr : ∀ x, Qa1 (e x) = false) {hp : List Blk} {n i : Nat} {l : List α} {x : α} {v v0 : V} (hx : l[i]? = some x) (h0 : (e x)[o]? = some v0) (hv : cutV hp n v = v0) :
  cutL hp n (((l.map e).flatten).take (i * k + o) ++ [v] ++ ((l.map e).flatten).drop (i * k + o + 1)) = (l.map e).flatten := by
 have hn := Qac hr l
 have h1 := Qm0 hn (i * k + o)
 have h2 := Qm0 hn (i * k + o + 1)
 rw [Qj9, Qj9, Qa3 _ _ _ h1.1, Qa3 _ _ _ h2.2]
 have e1 : cutL hp n [v] = [v0] := by simp only [cutL, hv]
 rw [e1]
 exact Qxn (by rw [Qmn hk ho l i x hx, h0])
theorem cut9 (a b c d e f g h i : Blk) (l : List Int) : cutV [a, b, c, d, e, f, g, h, i, .cells 1 (l.map eI).flatten, .hole] 9 (.rf 9 1 0 l.length 1) = .sl 1 (l.map eI) := by
 have h1 := Qb3 l
 simp only [Qc5, Qx, Qv, h1, vw_I, hpF, upB, Qau _ _ (Qay _), cutV, ↓reduceIte, Nat.reduceLT, Qdk, BU1]
theorem W31 (w : Work) (h : SmallW w) : Qa5 Tryz.prog 31 [.ag (Qa7 w)] (.ag (Qa7 w)) := by
 refine Qa4 Zag hmix Tryz.func31 cf31.b cf31.c cf31.s cf31.n ?_
 have f1 : Qao w.spares.length ∧ Qao (0 + w.spares.length) := by have := h.spares; unfold Qao; omega
 have f2 : Qao w.table.length ∧ Qao (0 + w.table.length) := by have := h.table; unfold Qao; omega
 simp only [rc31, rs31, Qp, f1, f2, Qv, Qkx, Qaq, optL, Qa0, runX, fpQ, fpV, Qbt, Qak, Qaw, Qb2, Qah, Qa2, Qa1, ↓reduceIte, Nat.reduceEqDiff, Nat.reduceAdd, Nat.reduceMul, Nat.reduceLeDiff, Nat.reduceBEq, Ql, Qn, zipA, beq_self_eq_true, Qk, Qi, Qm, Qa, Qo, Qj, Qd, Qa7, BU1]
 refine Qb5 w.makes.length (fun i => ⟨lkp [(1, .pa (Qa7 w)), (2, .ad 0 0 0), (3, .ad 1 0 0), (4, .i i)], [.cells 0 [.z 4, .z 1, .i 0, .z 4], .cells 0 [.rf 2 1 0 w.spares.length 4, .rf 6 i 0 i 1, .i w.cut, .rf 4 1 0 w.table.length 4], .cells 1 (w.spares.map eSpare).flatten, .hole, .cells 1 (w.table.map eTrial).flatten, .hole, .cells i ((w.makes.take i).map eMake).flatten]⟩) ?_ ?_ ?_
 ·simp only [Qg, Qp, Qa3 _ _ _ (Qjj _), Qa3 _ _ _ (Qjk _), cutV, cutL, cutB, ↓reduceIte, Nat.reduceEqDiff, Nat.reduceLT, Qa7, BU1]
 ·intro i hi
  obtain ⟨m, hm⟩ : ∃ m, w.makes[i]? = some m := ⟨_, Qc hi⟩
  have hlt : (i : Int) < w.makes.length := by omega
  have h4 : inI ((i : Int) + 1) := by have := h.makes; unfold inI; omega
  have hml := h.slots m (Qh hm)
  have f3 : Qao m.length ∧ Qao (0 + m.length) := by unfold Qao; omega
  simp only [hm, hlt, eMake, f3, Qp, Qa0, Qbt, Qak, Qaw, Qb2, Qah, ↓reduceIte, Nat.reduceEqDiff, Nat.reduceAdd, Nat.reduceMul, Nat.reduceLeDiff, Qa, eMake, Qa7, BU1]
  refine Qb5 m.length (fun k => ⟨lkp [(1, .pa (Qa7 w)), (2, .ad 0 0 0), (3, .ad 1 0 0), (4, .i i), (5, .ad 8 0 0), (6, .i k)], [.cells 0 [.z 4, .z 1, .i 0, .z 4], .cells 0 [.rf 2 1 0 w.spares.length 4, .rf 6 i 0 i 1, .i w.cut, .rf 4 1 0 w.table.length 4], .cells 1 (w.spares.map eSpare).flatten, .hole, .cells 1 (w.table.map eTrial).flatten, .hole, .cells i ((w.makes.take i).map eMake).flatten, .cells 1 (m.map eSlot).flatten, .cells 0 [.rf 7 1 0 m.length 4]]⟩) ?_ ?_ ?_
  ·simp only [Qg, Qa3 _ _ _ (Qjj _), Qa3 _ _ _ (Qjk _), Qa3 _ _ _ (Qn2 _), Qa3 _ _ _ (Qn1 _), cutV, cutL, cutB, ↓reduceIte, Nat.reduceEqDiff, Nat.reduceLT, Qa7, BU1]
  ·intro k hk
   obtain ⟨t, ht⟩ : ∃ t, m[k]? = some t := ⟨_, Qc hk⟩
   have hkt : (k : Int) < m.length := by omega
   have h5 : inI ((k : Int) + 1) := by unfold inI; omega
   have hs := h.secs m (Qh hm) t (Qh ht)
   have f4 : Qao t.secs.length ∧ Qao (0 + t.secs.length) := by unfold Qao; omega
   have hl4 : k * 4 + 1 + 1 ≤ ((m.map eSlot).flatten).length := by rw [Qyn]; omega
   have hd : (((m.map eSlot).flatten).drop (k * 4 + 1)).headD .u = .sl 1 (t.secs.map eI) := by
    have := Qmn (e := eSlot) (k := 4) (o := 1) (fun _ => rfl) (by omega) m k t ht
    rw [List.headD_eq_head?_getD, List.head?_drop, this]; rfl
   simp only [hkt, h5, f4, hl4, hd, Qp, Qf, Qe, Qa3 _ _ _ (Qjj _), Qa3 _ _ _ (Qjk _), Qa3 _ _ _ (Qn1 _), Qbd, ↓Qam, Qaq, optL, Qa0, runX, fpQ, fpV, Qbt, Qak, Qaw, Qb2, Qah, cutV, cutL, cutB, ↓reduceIte, Nat.reduceEqDiff, Nat.reduceAdd, Nat.reduceMul, Nat.reduceLT, Nat.reduceLeDiff, Nat.reduceBEq, Ql, Qn, Qdk, beq_self_eq_true, Qk, Qi, Qm, Qa, Qo, Qj, Qd, Qa7, BU1]
   simp only [Qpb (e := eSlot) (k := 4) (o := 1) (fun _ => rfl) (by omega) (fun _ => rfl) ht rfl (cut9 _ _ _ _ _ _ _ _ _ _), Qa3 _ _ _ (Qn2 _)]
  ·have h78 : ¬ ((m.length : Int) < m.length) := by omega
   have hlm : (((w.makes.take i).map eMake).flatten).length = i := by rw [Qyl, Q1]; omega
   have f5 : Qao (i + 1) := by have := h.makes; unfold Qao; omega
   simp only [h78, hlm, f5, Qx, Qf, Qe, Qw, Qp, Qa3 _ _ _ (Qjj _), Qa3 _ _ _ (Qjk _), Qj9, Qa3 _ _ _ (Qn1 _), Qa8 hm, Q2, Q4, hpF, upB, Qau _ _ (Qn2 _), upL, upV, Qyn, Qwd, Zit, Qv, h4, Qbd, Qck, ↓Qam, Qa0, Qbt, Qak, Qaw, Qb2, Qah, Qa2, Qa1, cutV, cutL, cutB, ↓reduceIte, Nat.reduceEqDiff, Nat.reduceAdd, Nat.reduceLT, Nat.reduceLeDiff, Ql, Qdj, Qdk, beq_self_eq_true, Qa, reduceCtorEq, not_false_eq_true, ne_eq, eMake, Qa7, BU1]
 ·have h77 : ¬ ((w.makes.length : Int) < w.makes.length) := by omega
  simp only [h77, Qv, Q6, Zdy, Zdz, Qyl, Qx, Qwe, Qwf, Qwb, Ziu, Ziv, Zir, Qa0, Qah, ↓reduceIte, Nat.reduceEqDiff, Nat.reduceAdd, Nat.reduceLeDiff, rvs, Qdk, Qa, Qa7, BU1]
end Go.CS
set_option linter.all false
namespace Go.CS
open Go.Fam Go.Proofs
open Go.C06 (Span eI eIs Qbx gI gR dI Qbl Qcj fnG Qad Qab Qa6 Qa8 idxOf Qas Qaj Qal Qar Qai Qag Qac Qat Qb3 Qc5 vw_I Qay hmix eLI dLI Qca Qan Qa3 Qaa Qau)
variable {Γ : Gam}
noncomputable def K17 : Gam := (K16.ext 4 (fnG eH1 dH1 (fun _ => True) farS .b)).ext 31 (fnG eW1 dW1 SmallW (fun w => w) fun w => .ag (Qa7 w))
theorem Zah : GOk Tryz.prog K17 := (Zag.ext (f := 4) (fun a w => Tryz.call4 a w) (Qad (e := eH1) (d := dH1) (ok := fun _ => True) (g := farS) (eb := .b) fun a _ => W4 a)).ext (f := 31) (fun a w => Tryz.call31 a w) (Qad (e := eW1) (d := dW1) (ok := SmallW) (g := fun w => w) (eb := fun w => .ag (Qa7 w)) fun a h => W31 a h)
theorem h4 (s : Shop) : K17 4 [.ag (Qae s)] = (True, .b (farS s)) := (show K17 4 _ = fnG eH1 dH1 (fun _ => True) farS .b (eH1 s) from rfl).trans (Qab _ (Qnt _))
theorem h31 (w : Work) : K17 31 [.ag (Qa7 w)] = (SmallW w, .ag (Qa7 w)) := (show K17 31 _ = fnG eW1 dW1 SmallW (fun w => w) (fun w => .ag (Qa7 w)) (eW1 w) from rfl).trans (Qab _ (Qnu _))
structure SmallC (s : Shop) : Prop where
 small : SmallS s
 stock : s.stock.length ≤ 1000000
 pieces : s.pieces.length ≤ 1000000
 wishes : s.wishes.length ≤ 1000000
 dels : s.dels.length ≤ 1000000
theorem Qym (l : List Piece) : ((l.map ePiece).flatten).length = l.length * 5 := Qar (e := ePiece) (k := 5) (fun _ => rfl) l
theorem Qyo (l : List Wish) : ((l.map eWish).flatten).length = l.length * 6 := Qar (e := eWish) (k := 6) (fun _ => rfl) l
theorem Zdx (l : List Del) : ((l.map eDel).flatten).length = l.length * 3 := Qar (e := eDel) (k := 3) (fun _ => rfl) l
theorem Qji (l : List Piece) : Qa1 ((l.map ePiece).flatten) = false := Qac (e := ePiece) (fun _ => rfl) l
theorem Qjl (l : List Wish) : Qa1 ((l.map eWish).flatten) = false := Qac (e := eWish) (fun _ => rfl) l
theorem Qjh (l : List Del) : Qa1 ((l.map eDel).flatten) = false := Qac (e := eDel) (fun _ => rfl) l
theorem Qwc (l : List Piece) : Qcg 5 ((l.map ePiece).flatten) 0 l.length = l.map ePiece := Qai (e := ePiece) (k := 5) (fun _ => rfl) l
theorem Qwg (l : List Wish) : Qcg 6 ((l.map eWish).flatten) 0 l.length = l.map eWish := Qai (e := eWish) (k := 6) (fun _ => rfl) l
theorem Qw8 (l : List Del) : Qcg 3 ((l.map eDel).flatten) 0 l.length = l.map eDel := Qai (e := eDel) (k := 3) (fun _ => rfl) l
theorem Zis (hp : List Blk) (n : Nat) (l : List Piece) : (l.map ePiece).map (fun r => r.map (vw hp (n + 1))) = l.map ePiece := Qag (e := ePiece) hp (n + 1) (fun _ => rfl) l
theorem Zix (hp : List Blk) (n : Nat) (l : List Wish) : (l.map eWish).map (fun r => r.map (vw hp (n + 1))) = l.map eWish := Qag (e := eWish) hp (n + 1) (fun _ => rfl) l
theorem Zio (hp : List Blk) (n : Nat) (l : List Del) : (l.map eDel).map (fun r => r.map (vw hp (n + 1))) = l.map eDel := Qag (e := eDel) hp (n + 1) (fun _ => rfl) l
theorem W11 (s : Shop) (h : SmallC s) : Qa5 Tryz.prog 11 [.ag (Qae s)] (.ag (Qae s)) := by
 refine Qa4 Zah hmix Tryz.func11 cf11.b cf11.c cf11.s cf11.n ?_
 have g := h31 s.work
 simp only [Qa7] at g
 have hw := h.small.work
 have f1 : Qao s.stock.length ∧ Qao (0 + s.stock.length) := by have := h.stock; unfold Qao; omega
 have f2 : Qao s.pieces.length ∧ Qao (0 + s.pieces.length) := by have := h.pieces; unfold Qao; omega
 have f3 : Qao s.wishes.length ∧ Qao (0 + s.wishes.length) := by have := h.wishes; unfold Qao; omega
 have f4 : Qao s.dels.length ∧ Qao (0 + s.dels.length) := by have := h.dels; unfold Qao; omega
 simp only [rc11, rs11, g, hw, Qp, f1, f2, f3, f4, Qv, Qaq, optL, Qa0, runX, fpQ, fpV, Qbt, Qak, Qaw, Qb2, Qah, Qa2, Qa1, flat, Qc4, ↓reduceIte, Nat.reduceEqDiff, Nat.reduceAdd, Nat.reduceMul, Nat.reduceLT, Nat.reduceLeDiff, Nat.reduceBEq, Ql, Qn, zipA, beq_self_eq_true, Qk, Qi, Qm, Qa, Qo, Qj, Qd, imp_self, Qae, BU1]
 refine Qb5 s.pieces.length (fun i => ⟨lkp [(1, .pa (Qae s)), (2, .ad 0 0 0), (3, .ad 1 0 0), (4, .i i)], [.cells 0 [.z 4, .z 1, .i 0, .z 4, .z 1, .z 5, .z 6, .z 3, .i 0], .cells 0 [.sl 4 (s.work.spares.map eSpare), .sl 1 (s.work.makes.map eMake), .i s.work.cut, .sl 4 (s.work.table.map eTrial), .rf 2 1 0 s.stock.length 1, .rf 3 1 0 s.pieces.length 5, .rf 5 1 0 s.wishes.length 6, .rf 7 1 0 s.dels.length 3, .i s.carve], .cells 1 (s.stock.map eI).flatten, .cells 1 (s.pieces.map ePiece).flatten, .hole, .cells 1 (s.wishes.map eWish).flatten, .hole, .cells 1 (s.dels.map eDel).flatten, .hole]⟩) ?_ ?_ ?_
 ·simp only [Qg, Qa3 _ _ _ (Qay _), Qa3 _ _ _ (Qji _), Qa3 _ _ _ (Qjl _), Qa3 _ _ _ (Qjh _), cutV, cutL, cutB, ↓reduceIte, Nat.reduceEqDiff, Nat.reduceLT, Qae, BU1]
 ·intro i hi
  obtain ⟨x, hx⟩ : ∃ x, s.pieces[i]? = some x := ⟨_, Qc hi⟩
  have hlt : (i : Int) < s.pieces.length := by omega
  have h4 : inI ((i : Int) + 1) := by have := h.pieces; unfold inI; omega
  have hb := h.small.broken x (Qh hx)
  have f5 : Qao x.broken.length ∧ Qao (0 + x.broken.length) := by unfold Qao; omega
  have hl4 : i * 5 + 4 + 1 ≤ ((s.pieces.map ePiece).flatten).length := by rw [Qym]; omega
  simp only [hx, hlt, h4, f5, hl4, Qp, Qf, Qe, Qa3 _ _ _ (Qay _), Qa3 _ _ _ (Qjl _), Qa3 _ _ _ (Qjh _), Qbd, ↓Qam, Qaq, optL, Qa0, runX, fpQ, fpV, Qbt, Qak, Qaw, Qb2, Qah, cutV, cutL, cutB, ↓reduceIte, Nat.reduceEqDiff, Nat.reduceAdd, Nat.reduceMul, Nat.reduceLT, Nat.reduceLeDiff, Nat.reduceBEq, Ql, Qn, Qdk, beq_self_eq_true, Qk, Qi, Qm, Qa, Qo, Qj, Qd, ePiece, Qae, BU1]
  simp only [Qpb (e := ePiece) (k := 5) (o := 4) (fun _ => rfl) (by omega) (fun _ => rfl) hx rfl (cut9 _ _ _ _ _ _ _ _ _ _), Qa3 _ _ _ (Qji _)]
 have h77 : ¬ ((s.pieces.length : Int) < s.pieces.length) := by omega
 simp only [h77, Qa0, ↓reduceIte, Nat.reduceEqDiff, Nat.reduceAdd, Nat.reduceLeDiff, beq_self_eq_true, Qa, Qae, BU1]
 refine Qb5 s.wishes.length (fun i => ⟨lkp [(1, .pa (Qae s)), (2, .ad 0 0 0), (3, .ad 1 0 0), (5, .i i)], [.cells 0 [.z 4, .z 1, .i 0, .z 4, .z 1, .z 5, .z 6, .z 3, .i 0], .cells 0 [.sl 4 (s.work.spares.map eSpare), .sl 1 (s.work.makes.map eMake), .i s.work.cut, .sl 4 (s.work.table.map eTrial), .rf 2 1 0 s.stock.length 1, .rf 3 1 0 s.pieces.length 5, .rf 5 1 0 s.wishes.length 6, .rf 7 1 0 s.dels.length 3, .i s.carve], .cells 1 (s.stock.map eI).flatten, .cells 1 (s.pieces.map ePiece).flatten, .hole, .cells 1 (s.wishes.map eWish).flatten, .hole, .cells 1 (s.dels.map eDel).flatten, .hole]⟩) ?_ ?_ ?_
 ·simp only [Qg, Qa3 _ _ _ (Qay _), Qa3 _ _ _ (Qji _), Qa3 _ _ _ (Qjl _), Qa3 _ _ _ (Qjh _), cutV, cutL, cutB, ↓reduceIte, Nat.reduceEqDiff, Nat.reduceLT, Qae, BU1]
 ·intro i hi
  obtain ⟨x, hx⟩ : ∃ x, s.wishes[i]? = some x := ⟨_, Qc hi⟩
  have hlt : (i : Int) < s.wishes.length := by omega
  have h4 : inI ((i : Int) + 1) := by have := h.wishes; unfold inI; omega
  have hb := h.small.colors x (Qh hx)
  have f5 : Qao x.colors.length ∧ Qao (0 + x.colors.length) := by unfold Qao; omega
  have hl4 : i * 6 + 1 ≤ ((s.wishes.map eWish).flatten).length := by rw [Qyo]; omega
  simp only [hx, hlt, h4, f5, hl4, Qp, Qf, Qe, Qa3 _ _ _ (Qay _), Qa3 _ _ _ (Qji _), Qa3 _ _ _ (Qjh _), Qbd, ↓Qam, Qaq, optL, Qa0, runX, fpQ, fpV, Qbt, Qak, Qaw, Qb2, Qah, cutV, cutL, cutB, ↓reduceIte, Nat.reduceEqDiff, Nat.reduceAdd, Nat.reduceMul, Nat.reduceLT, Nat.reduceLeDiff, Nat.reduceBEq, Ql, Qn, Qdk, beq_self_eq_true, Qk, Qi, Qm, Qa, Qo, Qj, Qd, eWish, Qae, BU1]
  have hc := fun hp n v hv => Qpb (e := eWish) (k := 6) (o := 0) (hp := hp) (n := n) (v := v) (fun _ => rfl) (by omega) (fun _ => rfl) hx rfl hv
  simp only [Nat.add_zero] at hc
  simp only [hc _ _ _ (cut9 _ _ _ _ _ _ _ _ _ _), Qa3 _ _ _ (Qjl _)]
 have h78 : ¬ ((s.wishes.length : Int) < s.wishes.length) := by omega
 simp only [h78, Qv, Qc5, Qx, Qym, Qyo, Zdx, Qb3, Qwc, Qwg, Qw8, vw_I, Zis, Zix, Zio, Qa0, Qah, ↓reduceIte, Nat.reduceEqDiff, Nat.reduceAdd, Nat.reduceLeDiff, rvs, Qdk, beq_self_eq_true, Qa, Qae, BU1]
end Go.CS
set_option maxRecDepth 8000
namespace Go.CS
open Go.Fam Go.Proofs
def rc120 : RC := (.seq (.reg false [(cQ 6 [] (.mv (kB false)))]) (.keep [0,1,2] (.seq (.reg true [(cMv 7 1), (cMv 8 0), (cB 9 .leq 7 8), (cMv 10 9), (gMv 11 10 true 0), (gMv 12 10 true 2), (gQ 13 10 true [11,12] (.bin .leq (.t 11) (.t 12))), (cQ 14 [10,13] (.pick (.t 10) (.t 13) (kB false))), (cMv 6 14)]) .ret)))
def rs120 : List RV := [.t 6]
theorem Qvc : CF Tryz.prog Tryz.f120 [] 0 1 rc120 rs120 3 := ⟨by kernel_rfl, by kernel_rfl, by kernel_rfl, by decide⟩
def rc133 : RC := (.seq (.reg false [(cQ 2 [] (.mv (kB false)))]) (.keep [0] (.seq (.reg false [(cMv 3 0), (cQ 4 [3] (.call (kF 120) [(.t 3), (kI 0), (kI 9)])), (cMv 2 4)]) .ret)))
def rs133 : List RV := [.t 2]
theorem Qvj : CF Tryz.prog Tryz.f133 [] 0 1 rc133 rs133 1 := ⟨by kernel_rfl, by kernel_rfl, by kernel_rfl, by decide⟩
def rc134 : RC := (.seq (.reg false [(cX 1 0), (cQ 2 [] (.mv (kB false)))]) (.keep [1] (.seq (.reg true [(cFa 3 1 0), (cLd 4 3 false 1), (cFa 5 1 1), (cLd 6 5 false 1), (cQ 7 [4,6] (.call (kF 120) [(.t 4), (kI 0), (.t 6)])), (cMv 8 7), (gQ 9 8 true [1] (.fad 1 (.t 1))), (gQ 10 8 true [9] (.ld false 1 (.t 9))), (gQ 11 8 true [10] (.bin .leq (.t 10) (kI 999))), (cQ 12 [8,11] (.pick (.t 8) (.t 11) (kB false))), (cMv 2 12)]) .ret)))
def rs134 : List RV := [.t 2]
theorem Qvk : CF Tryz.prog Tryz.f134 [1] 0 1 rc134 rs134 1 := ⟨by kernel_rfl, by kernel_rfl, by kernel_rfl, by decide⟩
def rc137 : RC := (.seq (.reg false [(cQ 2 [] (.mv (kB false)))]) (.keep [0] (.seq (.seq (.reg false [(cI 3 1)]) (.keep [0,3] (.block 0 (.loop [0,3] none (.seq (.seq (.reg false [(cMv 4 3), (cMv 5 0), (cLn 6 5), (cB 7 .lss 4 6)]) (.keep [0,3,7] (.cond (.t 7) .skip (.exit 0)))) (.keep [0,3] (.seq (.block 1 (.seq (.any false 0 [⟨(cMv 10 0), [], []⟩, ⟨(cMv 11 3), [], []⟩, ⟨(cA 12 1 10 11), [], [0,1]⟩, ⟨(cLd 13 12 false 1), [], [2,0,1]⟩, ⟨(cMv 14 0), [], []⟩, ⟨(cMv 15 3), [], []⟩, ⟨(cC 16 .sub 15 1), [], [5]⟩, ⟨(cA 17 1 14 16), [], [4,6,5]⟩, ⟨(cLd 18 17 false 1), [], [7,4,6,5]⟩, ⟨(cB 19 .leq 13 18), [], [3,2,0,1,8,7,4,6,5]⟩]) (.keep [0,3,19] (.cond (.t 19) (.seq (.reg false [(cQ 2 [] (.mv (kB false)))]) .ret) .skip)))) (.keep [0,3] (.reg false [(cMv 8 3), (cC 9 .add 8 1), (cMv 3 9)]))))))))) (.keep [] (.seq (.reg false [(cQ 2 [] (.mv (kB true)))]) .ret)))))
def rs137 : List RV := [.t 2]
theorem Qvn : CF Tryz.prog Tryz.f137 [] 0 1 rc137 rs137 1 := ⟨by kernel_rfl, by kernel_rfl, by kernel_rfl, by decide⟩
def rc132 : RC := (.seq (.reg false [(cX 1 0), (cQ 2 [] (.mv (kB false)))]) (.keep [1] (.seq (.reg true [(cFa 3 1 0), (cLd 4 3 false 1), (cQ 5 [4] (.call (kF 133) [(.t 4)])), (cMv 6 5), (gQ 7 6 true [1] (.fad 1 (.t 1))), (gQ 8 6 true [7] (.ld false 1 (.t 7))), (gQ 9 6 true [8] (.call (kF 133) [(.t 8)])), (cQ 10 [6,9] (.pick (.t 6) (.t 9) (kB false))), (cMv 11 10), (gQ 12 11 true [1] (.fad 2 (.t 1))), (gQ 13 11 true [12] (.ld true 2 (.t 12))), (gQ 14 11 true [13] (.call (kF 134) [(.t 13)])), (cQ 15 [11,14] (.pick (.t 11) (.t 14) (kB false))), (cMv 2 15)]) .ret)))
def rs132 : List RV := [.t 2]
theorem Qvi : CF Tryz.prog Tryz.f132 [1] 0 1 rc132 rs132 1 := ⟨by kernel_rfl, by kernel_rfl, by kernel_rfl, by decide⟩
def rc135 : RC := (.seq (.reg false [(cX 1 0), (cQ 2 [] (.mv (kB false)))]) (.keep [1] (.seq (.reg true [(cFa 3 1 0), (cLd 4 3 false 1), (cQ 5 [4] (.call (kF 133) [(.t 4)])), (cMv 6 5), (gQ 7 6 true [1] (.fad 1 (.t 1))), (gQ 8 6 true [7] (.ld false 1 (.t 7))), (gQ 9 6 true [8] (.len (.t 8))), (gQ 10 6 true [9] (.bin .leq (.t 9) (kI 4))), (cQ 11 [6,10] (.pick (.t 6) (.t 10) (kB false))), (cMv 12 11), (gQ 13 12 true [1] (.fad 1 (.t 1))), (gQ 14 12 true [13] (.ld false 1 (.t 13))), (gQ 15 12 true [14] (.call (kF 136) [(.t 14), (kF 133)])), (cQ 16 [12,15] (.pick (.t 12) (.t 15) (kB false))), (cMv 17 16), (gQ 18 17 true [1] (.fad 1 (.t 1))), (gQ 19 17 true [18] (.ld false 1 (.t 18))), (gQ 20 17 true [19] (.call (kF 137) [(.t 19)])), (cQ 21 [17,20] (.pick (.t 17) (.t 20) (kB false))), (cMv 22 21), (gQ 23 22 true [1] (.fad 2 (.t 1))), (gQ 24 22 true [23] (.ld true 2 (.t 23))), (gQ 25 22 true [24] (.call (kF 134) [(.t 24)])), (cQ 26 [22,25] (.pick (.t 22) (.t 25) (kB false))), (cMv 2 26)]) .ret)))
def rs135 : List RV := [.t 2]
theorem Qvl : CF Tryz.prog Tryz.f135 [1] 0 1 rc135 rs135 1 := ⟨by kernel_rfl, by kernel_rfl, by kernel_rfl, by decide⟩
def rc138 : RC := (.seq (.reg false [(cX 2 0), (cQ 3 [] (.mv (kB false)))]) (.keep [1,2] (.seq (.reg true [(cFa 4 2 0), (cLd 5 4 false 1), (cLn 6 5), (cC 7 .leq 6 4), (cMv 8 7), (gQ 9 8 true [2] (.fad 0 (.t 2))), (gQ 10 8 true [9] (.ld false 1 (.t 9))), (gQ 11 8 true [1] (.ld false 1 (.t 1))), (gQ 12 8 true [10,11] (.call (kF 139) [(.t 10), (.t 11)])), (cQ 13 [8,12] (.pick (.t 8) (.t 12) (kB false))), (cMv 3 13)]) .ret)))
def rs138 : List RV := [.t 3]
theorem Qvo : CF Tryz.prog Tryz.f138 [2] 0 1 rc138 rs138 2 := ⟨by kernel_rfl, by kernel_rfl, by kernel_rfl, by decide⟩
def rc140 : RC := (.seq (.reg false [(cX 2 0), (cQ 3 [] (.mv (kB false)))]) (.keep [1,2] (.seq (.reg true [(cLd 4 1 true 4), (cFa 5 2 0), (cLd 6 5 false 1), (cQ 7 [4,6] (.call (kF 81) [(.t 4), (.t 6)])), (cMv 8 7), (gQ 9 8 true [1] (.ld true 4 (.t 1))), (gQ 10 8 true [2] (.fad 1 (.t 2))), (gQ 11 8 true [10] (.ld false 1 (.t 10))), (gQ 12 8 true [2] (.fad 2 (.t 2))), (gQ 13 8 true [12] (.ld false 1 (.t 12))), (gQ 14 8 true [9,11,13] (.call (kF 82) [(.t 9), (.t 11), (.t 13)])), (cQ 15 [8,14] (.pick (.t 8) (.t 14) (kB false))), (cMv 16 15), (gQ 17 16 true [2] (.fad 3 (.t 2))), (gQ 18 16 true [17] (.ld false 1 (.t 17))), (gQ 19 16 true [18] (.call (kF 120) [(.t 18), (kI 0), (kI 1)])), (cQ 20 [16,19] (.pick (.t 16) (.t 19) (kB false))), (cMv 3 20)]) .ret)))
def rs140 : List RV := [.t 3]
theorem Qvq : CF Tryz.prog Tryz.f140 [2] 0 1 rc140 rs140 2 := ⟨by kernel_rfl, by kernel_rfl, by kernel_rfl, by decide⟩
def rc136 : RC := (.seq (.reg false [(cX 3 1), (cQ 4 [] (.mv (kB false)))]) (.keep [0,3] (.seq (.reg false [(cMv 5 0), (cQ 6 [3] (.mkf 151 [(.t 3)])), (cQ 7 [5,6] (.call (kF 113) [(.t 5), (.t 6)])), (cN 8 7), (cMv 4 8)]) .ret)))
def rs136 : List RV := [.t 4]
theorem Qvm : CF Tryz.prog Tryz.f136 [3] 0 1 rc136 rs136 2 := ⟨by kernel_rfl, by kernel_rfl, by kernel_rfl, by decide⟩
def rc151 : RC := (.seq (.reg false [(cQ 3 [] (.mv (kB false)))]) (.keep [0,1] (.seq (.reg false [(cLd 4 1 false 1), (cMv 5 0), (cQ 6 [4,5] (.call (.t 4) [(.t 5)])), (cN 7 6), (cMv 3 7)]) .ret)))
def rs151 : List RV := [.t 3]
theorem Qvx : CF Tryz.prog Tryz.f151 [] 0 1 rc151 rs151 2 := ⟨by kernel_rfl, by kernel_rfl, by kernel_rfl, by decide⟩
def rc113 : RC := (.seq (.reg false [(cQ 4 [] (.mv (kB false)))]) (.keep [0,1] (.seq (.reg false [(cMv 5 0), (cMv 6 1), (cQ 7 [5,6] (.call (kF 143) [(.t 5), (.t 6)])), (cC 8 .geq 7 0), (cMv 4 8)]) .ret)))
def rs113 : List RV := [.t 4]
theorem Qnm : CF Tryz.prog Tryz.f113 [] 0 1 rc113 rs113 2 := ⟨by kernel_rfl, by kernel_rfl, by kernel_rfl, by decide⟩
def rc139 : RC := (.seq (.reg false [(cX 3 1), (cQ 4 [] (.mv (kB false)))]) (.keep [0,3] (.seq (.reg false [(cMv 5 0), (cQ 6 [3] (.mkf 153 [(.t 3)])), (cQ 7 [5,6] (.call (kF 152) [(.t 5), (.t 6)])), (cN 8 7), (cMv 4 8)]) .ret)))
def rs139 : List RV := [.t 4]
theorem Qvp : CF Tryz.prog Tryz.f139 [3] 0 1 rc139 rs139 2 := ⟨by kernel_rfl, by kernel_rfl, by kernel_rfl, by decide⟩
def rc153 : RC := (.seq (.reg false [(cX 2 0), (cQ 3 [] (.mv (kB false)))]) (.keep [1,2] (.seq (.reg false [(cLd 4 1 false 1), (cLd 5 2 true 4), (cQ 6 [4,5] (.call (.t 4) [(.t 5)])), (cN 7 6), (cMv 3 7)]) .ret)))
def rs153 : List RV := [.t 3]
theorem Qvz : CF Tryz.prog Tryz.f153 [2] 0 1 rc153 rs153 2 := ⟨by kernel_rfl, by kernel_rfl, by kernel_rfl, by decide⟩
def rc152 : RC := (.seq (.reg false [(cQ 4 [] (.mv (kB false)))]) (.keep [0,1] (.seq (.reg false [(cMv 5 0), (cMv 6 1), (cQ 7 [5,6] (.call (kF 160) [(.t 5), (.t 6)])), (cC 8 .geq 7 0), (cMv 4 8)]) .ret)))
def rs152 : List RV := [.t 4]
theorem Qvy : CF Tryz.prog Tryz.f152 [] 0 1 rc152 rs152 2 := ⟨by kernel_rfl, by kernel_rfl, by kernel_rfl, by decide⟩
def rc160 : RC := (.seq (.reg false [(cI 4 0)]) (.keep [0,1] (.seq (.seq (.reg false [(cMv 6 0), (cLn 7 6), (cI 8 0)]) (.keep [0,1,7,8] (.block 0 (.loop [0,1,7,8] none (.seq (.reg false [(cB 9 .lss 8 7)]) (.keep [0,1,7,8,9] (.seq (.cond (.t 9) .skip (.exit 0)) (.keep [0,1,7,8] (.seq (.block 1 (.seq (.reg false [(cMv 10 8), (cMv 5 10)]) (.keep [0,1,5,7,8] (.seq (.reg false [(cMv 11 1), (cMv 12 0), (cMv 13 5), (cA 14 4 12 13), (cLd 15 14 true 4), (cQ 16 [11,15] (.call (.t 11) [(.t 15)]))]) (.keep [0,1,5,7,8,16] (.cond (.t 16) (.seq (.reg false [(cMv 17 5), (cMv 4 17)]) .ret) .skip)))))) (.keep [0,1,7,8] (.reg false [(cC 18 .add 8 1), (cMv 8 18)]))))))))))) (.keep [] (.seq (.reg false [(cQ 4 [] (.mv (.k (.i (-1)))))]) .ret)))))
def rs160 : List RV := [.t 4]
theorem Qw5 : CF Tryz.prog Tryz.f160 [] 0 1 rc160 rs160 2 := ⟨by kernel_rfl, by kernel_rfl, by kernel_rfl, by decide⟩
def rc155 : RC := (.seq (.reg false [(cX 2 0), (cQ 3 [] (.mv (kB false)))]) (.keep [1,2] (.seq (.reg false [(cLd 4 1 false 1), (cLd 5 2 true 4), (cQ 6 [4,5] (.call (.t 4) [(.t 5)])), (cN 7 6), (cMv 3 7)]) .ret)))
def rs155 : List RV := [.t 3]
theorem Qw1 : CF Tryz.prog Tryz.f155 [2] 0 1 rc155 rs155 2 := ⟨by kernel_rfl, by kernel_rfl, by kernel_rfl, by decide⟩
def rc154 : RC := (.seq (.reg false [(cQ 4 [] (.mv (kB false)))]) (.keep [0,1] (.seq (.reg false [(cMv 5 0), (cMv 6 1), (cQ 7 [5,6] (.call (kF 161) [(.t 5), (.t 6)])), (cC 8 .geq 7 0), (cMv 4 8)]) .ret)))
def rs154 : List RV := [.t 4]
theorem Qw0 : CF Tryz.prog Tryz.f154 [] 0 1 rc154 rs154 2 := ⟨by kernel_rfl, by kernel_rfl, by kernel_rfl, by decide⟩
def rc161 : RC := (.seq (.reg false [(cI 4 0)]) (.keep [0,1] (.seq (.seq (.reg false [(cMv 6 0), (cLn 7 6), (cI 8 0)]) (.keep [0,1,7,8] (.block 0 (.loop [0,1,7,8] none (.seq (.reg false [(cB 9 .lss 8 7)]) (.keep [0,1,7,8,9] (.seq (.cond (.t 9) .skip (.exit 0)) (.keep [0,1,7,8] (.seq (.block 1 (.seq (.reg false [(cMv 10 8), (cMv 5 10)]) (.keep [0,1,5,7,8] (.seq (.reg false [(cMv 11 1), (cMv 12 0), (cMv 13 5), (cA 14 4 12 13), (cLd 15 14 true 4), (cQ 16 [11,15] (.call (.t 11) [(.t 15)]))]) (.keep [0,1,5,7,8,16] (.cond (.t 16) (.seq (.reg false [(cMv 17 5), (cMv 4 17)]) .ret) .skip)))))) (.keep [0,1,7,8] (.reg false [(cC 18 .add 8 1), (cMv 8 18)]))))))))))) (.keep [] (.seq (.reg false [(cQ 4 [] (.mv (.k (.i (-1)))))]) .ret)))))
def rs161 : List RV := [.t 4]
theorem Qw6 : CF Tryz.prog Tryz.f161 [] 0 1 rc161 rs161 2 := ⟨by kernel_rfl, by kernel_rfl, by kernel_rfl, by decide⟩
def rc157 : RC := (.seq (.reg false [(cX 2 0), (cQ 3 [] (.mv (kB false)))]) (.keep [1,2] (.seq (.reg false [(cLd 4 1 false 1), (cLd 5 2 true 1), (cQ 6 [4,5] (.call (.t 4) [(.t 5)])), (cN 7 6), (cMv 3 7)]) .ret)))
def rs157 : List RV := [.t 3]
theorem Qw3 : CF Tryz.prog Tryz.f157 [2] 0 1 rc157 rs157 2 := ⟨by kernel_rfl, by kernel_rfl, by kernel_rfl, by decide⟩
def rc156 : RC := (.seq (.reg false [(cQ 4 [] (.mv (kB false)))]) (.keep [0,1] (.seq (.reg false [(cMv 5 0), (cMv 6 1), (cQ 7 [5,6] (.call (kF 162) [(.t 5), (.t 6)])), (cC 8 .geq 7 0), (cMv 4 8)]) .ret)))
def rs156 : List RV := [.t 4]
theorem Qw2 : CF Tryz.prog Tryz.f156 [] 0 1 rc156 rs156 2 := ⟨by kernel_rfl, by kernel_rfl, by kernel_rfl, by decide⟩
def rc162 : RC := (.seq (.reg false [(cI 4 0)]) (.keep [0,1] (.seq (.seq (.reg false [(cMv 6 0), (cLn 7 6), (cI 8 0)]) (.keep [0,1,7,8] (.block 0 (.loop [0,1,7,8] none (.seq (.reg false [(cB 9 .lss 8 7)]) (.keep [0,1,7,8,9] (.seq (.cond (.t 9) .skip (.exit 0)) (.keep [0,1,7,8] (.seq (.block 1 (.seq (.reg false [(cMv 10 8), (cMv 5 10)]) (.keep [0,1,5,7,8] (.seq (.reg false [(cMv 11 1), (cMv 12 0), (cMv 13 5), (cA 14 1 12 13), (cLd 15 14 true 1), (cQ 16 [11,15] (.call (.t 11) [(.t 15)]))]) (.keep [0,1,5,7,8,16] (.cond (.t 16) (.seq (.reg false [(cMv 17 5), (cMv 4 17)]) .ret) .skip)))))) (.keep [0,1,7,8] (.reg false [(cC 18 .add 8 1), (cMv 8 18)]))))))))))) (.keep [] (.seq (.reg false [(cQ 4 [] (.mv (.k (.i (-1)))))]) .ret)))))
def rs162 : List RV := [.t 4]
theorem Qw7 : CF Tryz.prog Tryz.f162 [] 0 1 rc162 rs162 2 := ⟨by kernel_rfl, by kernel_rfl, by kernel_rfl, by decide⟩
def rc119 : RC := (.seq (.reg false [(cX 3 1), (cQ 4 [] (.mv (kB false)))]) (.keep [0,3] (.seq (.reg false [(cMv 5 0), (cQ 6 [3] (.mkf 148 [(.t 3)])), (cQ 7 [5,6] (.call (kF 147) [(.t 5), (.t 6)])), (cN 8 7), (cMv 4 8)]) .ret)))
def rs119 : List RV := [.t 4]
theorem Qnn : CF Tryz.prog Tryz.f119 [3] 0 1 rc119 rs119 2 := ⟨by kernel_rfl, by kernel_rfl, by kernel_rfl, by decide⟩
def rc158 : RC := (.seq (.reg false [(cI 4 0)]) (.keep [0,1] (.seq (.seq (.reg false [(cMv 6 0), (cLn 7 6), (cI 8 0)]) (.keep [0,1,7,8] (.block 0 (.loop [0,1,7,8] none (.seq (.reg false [(cB 9 .lss 8 7)]) (.keep [0,1,7,8,9] (.seq (.cond (.t 9) .skip (.exit 0)) (.keep [0,1,7,8] (.seq (.block 1 (.seq (.reg false [(cMv 10 8), (cMv 5 10)]) (.keep [0,1,5,7,8] (.seq (.reg false [(cMv 11 1), (cMv 12 0), (cMv 13 5), (cA 14 4 12 13), (cLd 15 14 true 4), (cQ 16 [11,15] (.call (.t 11) [(.t 15)]))]) (.keep [0,1,5,7,8,16] (.cond (.t 16) (.seq (.reg false [(cMv 17 5), (cMv 4 17)]) .ret) .skip)))))) (.keep [0,1,7,8] (.reg false [(cC 18 .add 8 1), (cMv 8 18)]))))))))))) (.keep [] (.seq (.reg false [(cQ 4 [] (.mv (.k (.i (-1)))))]) .ret)))))
def rs158 : List RV := [.t 4]
theorem Qnr : CF Tryz.prog Tryz.f158 [] 0 1 rc158 rs158 2 := ⟨by kernel_rfl, by kernel_rfl, by kernel_rfl, by decide⟩
def rc104 : RC := (.seq (.reg false [(cX 1 0), (cQ 2 [] (.mv (kB false)))]) (.keep [1] (.seq (.reg false [(cQ 3 [] (.mv (kF 132)))]) (.keep [1,3] (.seq (.reg false [⟨(some 4), none, [], none, .w (.alc [.u])⟩, ⟨none, none, [4], none, .w (.st 1 (.t 4) (kF 135))⟩]) (.keep [1,3,4] (.seq (.reg false [(cQ 7 [4] (.mkf 138 [(.t 4)])), (cMv 5 7)]) (.keep [1,3,5] (.seq (.reg false [(cQ 8 [1] (.mkf 140 [(.t 1)])), (cMv 6 8)]) (.keep [1,3,5,6] (.seq (.reg true [(cFa 9 1 0), (cLd 10 9 false 1), (cLn 11 10), (cC 12 .leq 11 10), (cMv 13 12), (gQ 14 13 true [1] (.fad 0 (.t 1))), (gQ 15 13 true [14] (.ld false 1 (.t 14))), (gMv 16 13 true 3), (gQ 17 13 true [15,16] (.call (kF 141) [(.t 15), (.t 16)])), (cQ 18 [13,17] (.pick (.t 13) (.t 17) (kB false))), (cMv 19 18), (gQ 20 19 true [1] (.fad 1 (.t 1))), (gQ 21 19 true [20] (.ld false 1 (.t 20))), (gQ 22 19 true [21] (.len (.t 21))), (gQ 23 19 true [22] (.bin .leq (.t 22) (kI 6))), (cQ 24 [19,23] (.pick (.t 19) (.t 23) (kB false))), (cMv 25 24), (gQ 26 25 true [1] (.fad 1 (.t 1))), (gQ 27 25 true [26] (.ld false 1 (.t 26))), (gMv 28 25 true 5), (gQ 29 25 true [27,28] (.call (kF 142) [(.t 27), (.t 28)])), (cQ 30 [25,29] (.pick (.t 25) (.t 29) (kB false))), (cMv 31 30), (gQ 32 31 true [1] (.fad 2 (.t 1))), (gQ 33 31 true [32] (.ld false 1 (.t 32))), (gQ 34 31 true [33] (.call (kF 120) [(.t 33), (kI 0), (kI 99)])), (cQ 35 [31,34] (.pick (.t 31) (.t 34) (kB false))), (cMv 36 35), (gQ 37 36 true [1] (.fad 3 (.t 1))), (gQ 38 36 true [37] (.ld false 1 (.t 37))), (gQ 39 36 true [38] (.len (.t 38))), (gQ 40 36 true [39] (.bin .leq (.t 39) (kI 30))), (cQ 41 [36,40] (.pick (.t 36) (.t 40) (kB false))), (cMv 42 41), (gQ 43 42 true [1] (.fad 3 (.t 1))), (gQ 44 42 true [43] (.ld false 1 (.t 43))), (gMv 45 42 true 6), (gQ 46 42 true [44,45] (.call (kF 119) [(.t 44), (.t 45)])), (cQ 47 [42,46] (.pick (.t 42) (.t 46) (kB false))), (cMv 2 47)]) .ret)))))))))))
def rs104 : List RV := [.t 2]
theorem Quy : CF Tryz.prog Tryz.f104 [1] 0 1 rc104 rs104 1 := ⟨by kernel_rfl, by kernel_rfl, by kernel_rfl, by decide⟩
def rc81 : RC := (.seq (.reg false [(cX 2 0), (cQ 4 [] (.mv (kB false)))]) (.keep [1,2] (.seq (.reg false [(cMv 5 1), (cFa 6 2 0), (cLd 7 6 false 1), (cLn 8 7), (cC 9 .sub 8 1), (cQ 10 [5,9] (.call (kF 120) [(.t 5), (kI 0), (.t 9)])), (cMv 4 10)]) .ret)))
def rs81 : List RV := [.t 4]
theorem cf81 : CF Tryz.prog Tryz.f81 [2] 0 1 rc81 rs81 2 := ⟨by kernel_rfl, by kernel_rfl, by kernel_rfl, by decide⟩
def rc82 : RC := (.seq (.reg false [(cX 3 0), (cQ 6 [] (.mv (kB false)))]) (.keep [1,2,3] (.seq (.reg true [(cMv 7 1), (cFa 8 3 1), (cLd 9 8 false 1), (cLn 10 9), (cC 11 .sub 10 1), (cQ 12 [7,11] (.call (kF 120) [(.t 7), (kI 0), (.t 11)])), (cMv 13 12), (gMv 14 13 true 2), (gQ 15 13 true [3] (.fad 1 (.t 3))), (gQ 16 13 true [15] (.ld false 1 (.t 15))), (gMv 17 13 true 1), (gQ 18 13 true [16,17] (.iad 1 (.t 16) (.t 17))), (gQ 19 13 true [18] (.fad 0 (.t 18))), (gQ 20 13 true [19] (.ld false 1 (.t 19))), (gQ 21 13 true [20] (.len (.t 20))), (gQ 22 13 true [21] (.bin .sub (.t 21) (kI 1))), (gQ 23 13 true [14,22] (.call (kF 120) [(.t 14), (kI 0), (.t 22)])), (cQ 24 [13,23] (.pick (.t 13) (.t 23) (kB false))), (cMv 6 24)]) .ret)))
def rs82 : List RV := [.t 6]
theorem cf82 : CF Tryz.prog Tryz.f82 [3] 0 1 rc82 rs82 3 := ⟨by kernel_rfl, by kernel_rfl, by kernel_rfl, by decide⟩
end Go.CS
set_option linter.all false
namespace Go.CS
open Go.Fam Go.Proofs
open Go.C06 (Span eI eIs Qbx gI gR dI Qbl Qcj fnG Qad Qab Qa6 Qa8 idxOf Qas Qaj Qal Qar Qai Qag Qac Qat Qb3 Qc5 vw_I Qay hmix eLI dLI Qca Qan Qa3 Qaa Qau)
variable {Γ : Gam}
theorem W120 (n lo hi : Int) : Qa5 Tryz.prog 120 [.i n, .i lo, .i hi] (.b (Qa6 n lo hi)) := by
 refine Qa4 Zah hmix Tryz.func120 Qvc.b Qvc.c Qvc.s Qvc.n ?_
 simp only [rc120, rs120, Qa0, ↓reduceIte, Nat.reduceEqDiff, Nat.reduceAdd, rvs, zipA, V.b.injEq, decide_eq_true_eq, decide_eq_false_iff_not, implies_true, reduceCtorEq, Qmq, imp_self, BU1]
 by_cases h : lo ≤ n <;> simp [h, Qa6]
noncomputable def K18 : Gam := (K17.ext 11 (fnG eH1 dH1 SmallC (fun s => s) fun s => .ag (Qae s))).ext 120 sWi
theorem Qx3 : GOk Tryz.prog K18 := (Zah.ext (f := 11) (fun a w => Tryz.call11 a w) (Qad (e := eH1) (d := dH1) (ok := SmallC) (g := fun s => s) (eb := fun s => .ag (Qae s)) fun a h => W11 a h)).ext (f := 120) (r := sWi) (fun a w => Tryz.call120 a w) (Qqw W120)
theorem h11 (s : Shop) : K18 11 [.ag (Qae s)] = (SmallC s, .ag (Qae s)) := (show K18 11 _ = fnG eH1 dH1 SmallC (fun s => s) (fun s => .ag (Qae s)) (eH1 s) from rfl).trans (Qab _ (Qnt _))
theorem h120 (n lo hi : Int) : K18 120 [.i n, .i lo, .i hi] = (True, .b (Qa6 n lo hi)) := rfl
theorem W133 (n : Int) : Qa5 Tryz.prog 133 [.i n] (.b (Qa6 n 0 9)) := by
 refine Qa4 Qx3 hmix Tryz.func133 Qvj.b Qvj.c Qvj.s Qvj.n ?_
 simp only [rc133, rs133, h120, Qa0, Qa2, Qa1, flat, ↓reduceIte, Nat.reduceLT, rvs, zipA, Qa, implies_true, reduceCtorEq, BU1]
theorem W134 (s : Span) : Qa5 Tryz.prog 134 [.ag (Qbx s)] (.b (Qez s)) := by
 refine Qa4 Qx3 hmix Tryz.func134 Qvk.b Qvk.c Qvk.s Qvk.n ?_
 simp only [rc134, rs134, h120, Qa0, Qa2, Qa1, flat, ↓reduceIte, Nat.reduceEqDiff, Nat.reduceAdd, Nat.reduceLT, Nat.reduceLeDiff, rvs, zipA, V.b.injEq, Qa, implies_true, Qmq, Bool.decide_eq_true, imp_self, Qbx, BU1]
 by_cases h : Qa6 s.low 0 s.high = true <;> simp [h, Qez]
theorem W137 (l : List Int) (hl : l.length ≤ 1000000) : Qa5 Tryz.prog 137 [.sl 1 (l.map eI)] (.b (ascB l)) := by
 refine Qa4 Qx3 hmix Tryz.func137 Qvn.b Qvn.c Qvn.s Qvn.n ?_
 simp only [rc137, rs137, Qa0, ↓reduceIte, zipA, reduceCtorEq, BU1]
 refine Qap (l.length - 1) (fun k => ⟨lkp [(0, .sl 1 (l.map eI)), (3, .i ((k + 1 : Nat) : Int))], []⟩) (fun k => ∀ j x y, j < k → l[j]? = some x → l[j + 1]? = some y → x < y) ?_ ?_ ?_ ?_
 ·simp only [↓reduceIte, reduceCtorEq, BU1]; rfl
 ·intro j x y h; omega
 ·intro k hk hc
  obtain ⟨x, hx⟩ : ∃ x, l[k]? = some x := ⟨_, Qc (by omega)⟩
  obtain ⟨y, hy⟩ : ∃ y, l[k + 1]? = some y := ⟨_, Qc (by omega)⟩
  have hlt : ((k + 1 : Nat) : Int) < l.length := by omega
  have e1 : ((k + 1 : Nat) : Int) - 1 = (k : Int) := by omega
  have h3 : inI ((k + 1 + 1 : Nat) : Int) ∧ inI (k : Int) := by unfold inI; omega
  have e2 : ((k + 1 : Nat) : Int) + 1 = ((k + 1 + 1 : Nat) : Int) := by omega
  have hk2 : (k : Int) < l.length := by omega
  simp only [hx, hy, hlt, e1, h3, e2, hk2, Qdp, Qaq, Qa0, runX, fpQ, fpV, ↓reduceIte, Nat.reduceEqDiff, Nat.reduceLeDiff, rvs, V.b.injEq, Qa, decide_eq_true_eq, reduceCtorEq, Qd, eI, BU1]
  refine ⟨fun e => ?_, fun e => ?_⟩
  ·have : ¬ ascB l = true := fun ha => by have := (Qdt l).1 ha k x y hx hy; omega
   simp at this; exact this.symm
  ·intro j a b hj ha hb
   by_cases hjk : j < k
   ·exact hc j a b hjk ha hb
   ·have : j = k := by omega
    subst this
    rw [hx] at ha; rw [hy] at hb; cases ha; cases hb; omega
 ·intro hc
  have hn : ¬ (((l.length - 1 + 1 : Nat) : Int) < l.length) := by omega
  simp only [hn, Qa0, ↓reduceIte, Nat.reduceEqDiff, rvs, V.b.injEq, Qa, reduceCtorEq, BU1]
  exact ((Qdt l).2 fun j x y hx hy => hc j x y (by have := Qaf hy; omega) hx hy).symm
def sMk : List V → Prop × V | [.i n] => (True, .b (Qa6 n 0 9)) | _ => (False, .u)
theorem Zgj (vs : List V) (h : (sMk vs).1) : Qa5 Tryz.prog 133 vs (sMk vs).2 := by
 unfold sMk at h ⊢
 split at h
 ·exact W133 _
 ·exact h.elim
noncomputable def K19 : Gam := ((K18.ext 133 sMk).ext 134 (fnG eS1 dS1 (fun _ => True) Qez .b)).ext 137 (fnG eL1 dL1 (fun l => l.length ≤ 1000000) ascB .b)
theorem Zee : GOk Tryz.prog K19 := ((Qx3.ext (f := 133) (r := sMk) (fun a w => Tryz.call133 a w) Zgj).ext (f := 134) (fun a w => Tryz.call134 a w) (Qad (e := eS1) (d := dS1) (ok := fun _ => True) (g := Qez) (eb := .b) fun s _ => W134 s)).ext (f := 137) (fun a w => Tryz.call137 a w) (Qad (e := eL1) (d := dL1) (ok := fun l => l.length ≤ 1000000) (g := ascB) (eb := .b) fun s h => W137 s h)
theorem h133 (n : Int) : K19 133 [.i n] = (True, .b (Qa6 n 0 9)) := rfl
theorem h134 (s : Span) : K19 134 [.ag (Qbx s)] = (True, .b (Qez s)) := (show K19 134 _ = fnG eS1 dS1 (fun _ => True) Qez .b (eS1 s) from rfl).trans (Qab _ (Zd2 _))
theorem h137 (l : List Int) : K19 137 [.sl 1 (l.map eI)] = (l.length ≤ 1000000, .b (ascB l)) := (show K19 137 _ = fnG eL1 dL1 (fun l => l.length ≤ 1000000) ascB .b (eL1 l) from rfl).trans (Qab _ (Qwj _))
theorem W132 (s : Spare) : Qa5 Tryz.prog 132 [.ag (eSpare s)] (.b (okSpare s)) := by
 refine Qa4 Zee hmix Tryz.func132 Qvi.b Qvi.c Qvi.s Qvi.n ?_
 have g := h134 s.len
 simp only [Qbx] at g
 unfold okSpare
 cases e1 : Qa6 s.kind 0 9 with
 | false => simp only [rc132, rs132, h133, e1, Qa0, Qbh, Qa2, Qa1, flat, ↓reduceIte, Nat.reduceEqDiff, Nat.reduceAdd, Nat.reduceLT, Nat.reduceLeDiff, rvs, zipA, Qa, forall_const, implies_true, imp_self, eSpare, BU1]
 | true =>
 cases e2 : Qa6 s.sect 0 9 with
 | false => simp only [rc132, rs132, h133, e1, e2, Qa0, Qbh, Qa2, Qa1, flat, ↓reduceIte, Nat.reduceEqDiff, Nat.reduceAdd, Nat.reduceLT, Nat.reduceLeDiff, rvs, zipA, beq_self_eq_true, Qi, Qa, Qb, forall_const, implies_true, imp_self, eSpare, BU1]
 | true => simp only [rc132, rs132, h133, e1, e2, g, Qa0, Qa2, Qa1, flat, ↓reduceIte, Nat.reduceEqDiff, Nat.reduceAdd, Nat.reduceLT, Nat.reduceLeDiff, rvs, zipA, beq_self_eq_true, Qk, Qa, Qb, forall_const, implies_true, eSpare, BU1]
def eP1 (s : Spare) : List V := [.ag (eSpare s)]
def dP1 : List V → Spare | [.ag s] => Qjy s | _ => Qjy []
noncomputable def K20 : Gam := K19.ext 132 (fnG eP1 dP1 (fun _ => True) okSpare .b)
theorem Zef : GOk Tryz.prog K20 := Zee.ext (f := 132) (fun a w => Tryz.call132 a w) (Qad (e := eP1) (d := dP1) (ok := fun _ => True) (g := okSpare) (eb := .b) fun s _ => W132 s)
theorem h132 (s : Spare) : K20 132 [.ag (eSpare s)] = (True, .b (okSpare s)) := (show K20 132 _ = fnG eP1 dP1 (fun _ => True) okSpare .b (eP1 s) from rfl).trans (Qab _ rfl)
theorem W155 (s : Spare) : Qa5 Tryz.prog 155 [.ag (eSpare s), .pa [.fn 132 []]] (.b (!okSpare s)) := by
 refine Qa4 Zef hmix Tryz.func155 Qw1.b Qw1.c Qw1.s Qw1.n ?_
 have g := h132 s
 simp only [eSpare] at g
 simp only [rc155, rs155, g, Qa0, Qa2, Qa1, flat, ↓reduceIte, Nat.reduceEqDiff, Nat.reduceAdd, Nat.reduceLT, Nat.reduceLeDiff, rvs, zipA, Qa, implies_true, reduceCtorEq, eSpare, BU1]
end Go.CS
