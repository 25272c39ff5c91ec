import Derived.Test.YtkmobminpeiklaaG5
import Derived.Test.YtkmobminpeiklaaG4
import Derived.Test.YtkmobminpeiklaaChecked
set_option linter.all false
open List renaming map_cons → Qa, map_nil → Qb, getD_eq_getElem?_getD → Qd, getElem?_cons_zero → Qe, length_cons → Qf, length_nil → Qg, take_succ_cons → Qh, drop_succ_cons → Qj, append_nil → Qk, getElem?_cons_succ → Ql, nil_append → Qm, cons_append → Qn, headD_cons → Qq, drop_zero → Qr, all_nil → Qs, getElem?_nil → Qu, all_cons → Qv, replicate_zero → Qw, take_nil → Qx, length_map → Qy, contains_nil → Q0, take_zero → Q2, isEmpty_nil → Q3, getElem?_eq_getElem → Q4, set_cons_zero → Za, mem_of_getElem? → Zc, contains_cons → Zd, any_nil → Ze, getElem?_map → Zg, set_cons_succ → Zk, drop_nil → Zn, flatMap_cons → Zr, take_length → Zs, flatMap_nil → Zv, isEmpty_cons → Zy, getElem?_of_mem → Z0, getElem?_range → Z5, range → Z7, mem_or_eq_of_mem_set → Z8, any_eq_false → Z9, any_cons → Xc, take_of_length_le → Xe, mem_range → Xg, replicate_succ → Xh, find?_eq_none → Xi, map_map → Xj, all_eq_false → Xk, foldl_append → Xm, flatten_cons → Xn, all_eq_true → Xo, ext_getElem → Xp, length_take → Xq, flatten_nil → Xr, mem_append → Xs
open Nat renaming zero_add → Qi, add_zero → Zm, le_refl → Zt, mul_one → Zu
open Bool renaming false_eq_true → Qc, or_false → Qo, and_self → Qp, and_true → Qt, not_false → Q5, false_and → Q6, not_eq_true' → Q7, not_true → Q9, not_eq_true → Zo, and_eq_true → Zp, not_eq_false' → Zq, decide_eq_true → Zw, true_and → Zx, and_eq_false_iff → Zz, decide_eq_false → Z3, or_eq_false_iff → Z4, true_eq_false → Z6, not_eq_false → Xa, false_or → Xb, not_not → Xl, or_eq_true → Xt, and_false → Xu
open Option renaming getD_none → Q1, getD_some → Q8, map_some → Zh, map_eq_some_iff → Xd
open Int renaming toNat_natCast → Qz, natCast_nonneg → Zb, natCast_zero → Zf, natCast_add → Zi, natCast_one → Zj, lt_irrefl → Zl, le_refl → Xf
set_option linter.unusedSimpArgs false
set_option linter.unusedVariables false
namespace Go.C06
open Go.Fam Go.Proofs
variable {Γ : Gam}
def Qop (c : Cane) (w : Span) (ts : List Int) : Nat → Int → Int → Nat → Nat → Int
 | 0, a, _, _, _ => if Qan a w.low w.high = true then 0 else -1
 | n + 1, a, num, f, l => if Qan a w.low w.high = true then 0 else if w.high < a then -1 else
  ((ints 1 (Qcp c num)).find? fun b => (grpF b ts l f).all fun p => decide (0 ≤ Qop c w ts n (a + b - Qbm b (ts.getD p.1 0)) (num + 1) p.1 p.2)).getD (-1)
def Qft (c : Cane) (w : Span) (ts : List Int) (t : Task) : Int := Qop c w ts t.left.toNat t.angle t.number t.first.toNat t.last.toNat
def Qoe (c : Cane) (w : Span) (ts : List Int) (t : Task) (b : Int) : Bool := (grpF b ts t.last.toNat t.first.toNat).all fun p => decide (0 ≤ Qft c w ts (Qey t b ts p))
theorem Qse {c : Cane} {w : Span} {ts : List Int} {t : Task} (h : Qan t.angle w.low w.high = true) : Qft c w ts t = 0 := by
 unfold Qft
 cases t.left.toNat <;> simp [Qop, h]
theorem Qsf {c : Cane} {w : Span} {ts : List Int} {t : Task} (h : ¬ Qan t.angle w.low w.high = true) (h2 : t.left = 0 ∨ w.high < t.angle) : Qft c w ts t = -1 := by
 unfold Qft
 cases hn : t.left.toNat with
 | zero => simp [Qop, h]
 | succ n =>
  rcases h2 with h2 | h2
  ·rw [h2] at hn; cases hn
  ·simp [Qop, h, h2]
theorem Qsd {c : Cane} {w : Span} {ts : List Int} {t : Task} (h : ¬ Qan t.angle w.low w.high = true) (h0 : 0 < t.left) (h2 : ¬ w.high < t.angle) :
  Qft c w ts t = ((ints 1 (Qcp c t.number)).find? (Qoe c w ts t)).getD (-1) := by
 unfold Qft
 obtain ⟨n, hn⟩ : ∃ n, t.left.toNat = n + 1 := ⟨t.left.toNat - 1, by omega⟩
 have hn2 : (t.left - 1).toNat = n := by omega
 rw [hn]
 rw [Qop, if_neg h, if_neg h2]
 unfold Qoe Qft
 simp only [Qey, hn2, Qz]
theorem Qpv {α : Type} {p : α → Bool} {l : List α} {i : Nat} {x : α} (hx : l[i]? = some x) (hp : p x = true) (h : ∀ j y, j < i → l[j]? = some y → p y = false) : l.find? p = some x := by
 rw [List.find?_eq_some_iff_getElem]
 obtain ⟨hl, he⟩ := List.getElem?_eq_some_iff.1 hx
 refine ⟨hp, i, hl, he, fun j hj => ?_⟩
 have := h j l[j] hj (Q4 (by omega))
 simp [this]
structure MInv (c : Cane) (w : Span) (ts : List Int) (m : AM Int) : Prop where
 nd : (aks m).Nodup
 five : ∀ k ∈ aks m, k.length = 5
 is : ∀ t v, aget m (Qed t) = some v → v = Qft c w ts t
theorem Qq8 {t t' : Task} (h : Qed t = Qed t') : t = t' := by
 cases t; cases t'
 simpa [Qed] using h
theorem MInv.put {c : Cane} {w : Span} {ts : List Int} {m : AM Int} (h : MInv c w ts m) {t : Task} {v : Int} (hv : v = Qft c w ts t) : MInv c w ts (aput m (Qed t) v) := by
 refine ⟨Qky h.nd _ _, fun k hk => ?_, fun t' v' hb => ?_⟩
 ·rw [Qh6, Qnk] at hk
  rcases hk with hk | rfl
  ·exact h.five k hk
  ·rfl
 ·rw [Qk1] at hb
  split at hb
  ·rename_i e
   rw [Qq8 e]
   cases hb
   exact hv
  ·exact h.is t' v' hb
structure D88 where
 c : Cane
 w : Span
 ts : List Int
 m : AM Int
 t : Task
 tl : List Blk
def eA88 (x : D88) : List V := [.ad 2 0 0, .ag (Qbq x.t)]
def Qcy (c : Cane) (w : Span) (ts : List Int) (m : AM Int) : List Blk := [.hole, .map true (aks m) (avs .i m), .cells 0 (Qc8 c w ts)]
def eH88 (x : D88) : List Blk := Qcy x.c x.w x.ts x.m ++ x.tl
def Qrw (vs : List V) (hp : List Blk) : D88 := match hp with
 | _ :: b :: .cells _ [a1, a2, a3, a4, a5, a6, a7, a8, a9, _] :: tl => ⟨Qcn [a1, a2, a3, a4, a5, a6], Qew [a7, a8], (gR a9).map dI, dAM b, match vs with | [_, .ag t] => Qmg t | _ => Qmg [], tl⟩
 | _ => ⟨Qcn [], Qew [], [], [], Qmg [], []⟩
theorem Qu0 (x : D88) : Qrw (eA88 x) (eH88 x) = x := by
 obtain ⟨c, w, ts, m, t, tl⟩ := x
 have e1 := Qdl c
 have e2 := Qg4 w
 unfold Qae at e1
 unfold Qau at e2
 simp [Qrw, eA88, eH88, Qcy, Qc8, e1, e2, gR, Qyg, Function.comp_def, Qg3, Qtz]
structure C88 (k : Nat) (x : D88) : Prop where
 c : OkC x.c
 all : ∀ k ∈ x.ts, 0 ≤ k ∧ k ≤ 500
 w : Qbl x.w 540 = true
 ts : okTs x.ts
 t : OkTask x.ts x.t
 m : MInv x.c x.w x.ts x.m
 k : x.t.left < k
 num : x.t.left + x.t.number ≤ 50
def RB88 (x : D88) (r : V) (hp : List Blk) : Prop := r = .i (Qft x.c x.w x.ts x.t) ∧ ∃ m', MInv x.c x.w x.ts m' ∧ hp = Qcy x.c x.w x.ts m' ++ x.tl
def t101 (xs : List V) (hp : List Blk) : Prop × (V → List Blk → Prop) := match xs with
 | [.ad 2 0 0, .ag t, .i b] => (hp.length = 4 ∧ t = Qbq (Qmg t), fun r hp' => r = .fn 106 [.pa t, .pa [.i b], .ad 4 0 0] ∧ hp' = hp ++ [.cells 0 [.ad 2 0 0]])
 | _ => (False, fun _ _ => False)
theorem W101 (t : Task) (b : Int) (hp : List Blk) (hl : hp.length = 4) (hg : ghO hp = none) : Qc6 Try.prog 101 [.ad 2 0 0, .ag (Qbq t), .i b] hp fun r hp' => r = .fn 106 [.pa (Qbq t), .pa [.i b], .ad 4 0 0] ∧ hp' = hp ++ [.cells 0 [.ad 2 0 0]] := by
 refine Qio Qs8 hmix Try.func101 cb101 cc101 cs101 (args := [.ad 2 0 0, .ag (Qbq t), .i b]) (hp := hp) (by exact cn101) (by omega) (by decide) ?_
 simp only [rc101, rs101, hl, Qa7, Qa8, Qac, Qa6, endK, Qad, Qa4, Qa1, Fam.step, Qaf, Qbu, Qav, nv, evO, opv, qv, V.cells, Qaq, Qb8, Qaa, Qa5, Qa2, Qa0, Qa3, ↓reduceIte, Nat.reduceEqDiff, Nat.reduceAdd, Qa, Qb, Qv, Qs, rvs, rv1, resV, vw_i, Qaw, zipA, Qi, Qp, Qo, and_self, reduceCtorEq, Qbq]
def alP (c : Cane) (w : Span) (ts : List Int) (bv : List V) : Prop := ∃ m, MInv c w ts m ∧ bv = gB (bV (.map true (aks m) (avs .i m))) c w ts
def t106 (al : List V → Prop) (xs : List V) (hp : List Blk) : Prop × (V → List Blk → Prop) :=
 (∃ c w ts t bend l mp, (∀ bv, al bv → ∃ mp, bv = gB mp c w ts) ∧ OkTask ts t ∧ okTs ts ∧ tame 1000 bend ∧ al (gB mp c w ts) ∧ xs = [.yl l, .pa (Qbq t), .pa [.i bend], .ad 4 0 0] ∧
  hp = .gh [.yl l, .pa (Qbq t), .pa [.i bend], .ad 4 0 0] (some ((.b true :: gB mp c w ts) :: ysG t bend ts t.first.toNat)) :: (gB mp c w ts).map vB, RIt al xs)
noncomputable def H17 : Gam := (H16.extY 106 t106).extH 101 fun xs hp => ((t101 xs hp).1 ∧ ghO hp = none, (t101 xs hp).2)
theorem Qx8 : GOk Try.prog H17 := by
 refine (Qs8.extY (f := 106) (fun a w => Try.call106 a w) fun al xs hp h => ?_).extH (f := 101) (fun a w => Try.call101 a w) fun xs hp h => ?_
 ·obtain ⟨c, w, ts, t, bend, l, mp, h1, h2, h3, h4, h5, rfl, rfl⟩ := h
  exact W106 al c w ts t bend l mp h1 h2 h3 h4 h5
 ·obtain ⟨h1, hg⟩ := h
  refine ⟨fun r hp' _ y hy => (by rw [hg] at hy; cases hy), ?_⟩
  unfold t101 at h1 ⊢
  split at h1
  ·rename_i t b
   obtain ⟨h1, h2⟩ := h1
   have := W101 (Qmg t) b hp h1 hg
   rw [← h2] at this
   exact this
  ·exact h1.elim
noncomputable def HP (k : Nat) : Gam := H17.extH 88 (hpG eA88 eH88 Qrw (C88 k) RB88)
theorem kP (k : Nat) (x : D88) : (HP k).h 88 (eA88 x) (eH88 x) = (C88 k x, RB88 x) :=
 (show (HP k).h 88 _ _ = hpG eA88 eH88 Qrw (C88 k) RB88 _ _ from rfl).trans (Qll x (Qu0 x))
theorem Qyq (k : Nat) (t : Task) (b : Int) (hp : List Blk) : (HP k).h 101 [.ad 2 0 0, .ag (Qbq t), .i b] hp = ((hp.length = 4 ∧ Qbq t = Qbq (Qmg (Qbq t))) ∧ ghO hp = none, fun r hp' => r = .fn 106 [.pa (Qbq t), .pa [.i b], .ad 4 0 0] ∧ hp' = hp ++ [.cells 0 [.ad 2 0 0]]) := rfl
theorem Qtr (k : Nat) (n lo hi : Int)  : (HP k) 72 [.i n, .i lo, .i hi] = (True, .b (Qan n lo hi)) := h72 n lo hi
theorem Qp4 (k : Nat) (c : Cane) (i : Int)  : (HP k) 67 [.ag (Qae c), .i i] = (Qdo c i, .i (Qcp c i)) := h67 c i
theorem hPy (k : Nat) (al : List V → Prop) (xs : List V) (hp : List Blk) : (HP k).y 106 al xs hp = t106 al xs hp := rfl
theorem Qry : Qas Try.prog 115 5 := Qas.of (fs := _) (show Try.prog.underlying 115 = some (.struct (Try.prog.fieldsOf 115)) by kernel_rfl) (by kernel_rfl) (by kernel_rfl)
theorem Que {ts : List Int} {t : Task} {b : Int} {w : Span} (hw : Qbl w 540 = true) (ht : OkTask ts t) (hts : ∀ k ∈ ts, 0 ≤ k ∧ k ≤ 500) (h0 : 0 < t.left) (hn : t.left + t.number ≤ 50) (ha : t.angle ≤ w.high) (hb : 1 ≤ b ∧ b ≤ 90) {p : Nat × Nat} (hp : p ∈ grpF b ts t.last.toNat t.first.toNat) :
    OkTask ts (Qey t b ts p) := by
  have hin : ∀ (n f : Nat) (p : Nat × Nat), p ∈ grpP b ts t.last.toNat n f → f ≤ p.1 ∧ p.1 ≤ p.2 ∧ p.2 ≤ t.last.toNat := by
    intro n
    induction n with
    | zero => intro f p hp; cases hp
    | succ n ih =>
      intro f p hp
      unfold grpP at hp
      split at hp
      · rename_i hf
        have he := Qmh (bend := b) (ts := ts) hf
        rcases List.mem_cons.1 hp with rfl | hp
        · exact ⟨Zt _, he.1, he.2⟩
        · have := ih _ p hp
          omega
      · cases hp
  obtain ⟨h1, h2, h3⟩ := hin _ _ p hp
  have hwh : w.high ≤ 540 := by have : ((0 ≤ w.low ∧ w.low ≤ w.high) ∧ w.high ≤ 540) := by simpa [Qbl, Qan] using hw
                                exact this.2
  have k1 := ht.first
  have k2 := ht.last
  have k3 := ht.angle
  have k4 := ht.left
  have k5 := ht.number
  have hx : 0 ≤ ts.getD p.1 0 ∧ ts.getD p.1 0 ≤ 500 := hts _ (Qdm (by omega))
  have hbk := Qmf (b := b) (by omega) hx
  exact ⟨by simp only [Qey]; omega, by simp only [Qey]; omega, by simp only [Qey]; omega, by simp only [Qey]; omega, by simp only [Qey]; omega⟩
set_option maxHeartbeats 2000000 in
theorem W88 (k : Nat) (hG : GOk Try.prog (HP k)) (x : D88) (h : C88 (k + 1) x) (hts : ∀ k ∈ x.ts, 0 ≤ k ∧ k ≤ 500) (hl : x.tl = []) : Qc6 Try.prog 88 (eA88 x) (eH88 x) (RB88 x) := by
 refine Qof hG hmix Try.func88 cb88 cc88 cs88 (args := eA88 x) (hp := eH88 x) (by exact cn88) (by simp [eH88, Qcy, hl]) (by decide) ?_
 obtain ⟨c, w, ts, m, t, tl⟩ := x
 simp only at hl
 subst hl
 obtain ⟨hc, _, hw, hts0, ht, hM, hk, hnum⟩ := h
 simp only at hc hw hts hts0 ht hM hk hnum
 have hw2 : (0 ≤ w.low ∧ w.low ≤ w.high) ∧ w.high ≤ 540 := by simpa [Qbl, Qan] using hw
 have hnm : ∀ m : AM Int, Qa5 (avs V.i m) = false := fun m => Qiy (fun _ => rfl) m
 have g1 := Qtr k t.angle w.low w.high
 have hwin : Qan t.angle w.low w.high = true ∨ ¬ Qan t.angle w.low w.high = true := Classical.em _
 rcases hwin with hwin | hwin
 ·simp only [rc88, rs88, eA88, eH88, Qcy, Qc8, Qor, Zr, Zv, g1, hwin, Qa7, Qb5, Qa8, Qai, Qac, Qa6, Qjy, noGo, Qb2, cutH, endK, Qad, Qa4, Qa1, Fam.step, Qaf, Qbu, Qav, runX, eff, Qb1, fpR, fpQ, fpV, Qbi, hits, nv, evO, opv, qv, ldV, curG, Qar, V.cells, Qaq, Qb8, Qaa, Qa5, flat, cutV, cutL, cutB, Qa2, Qa0, Qa3, ↓reduceIte, Nat.reduceEqDiff, Nat.reduceAdd, Nat.reduceLT, Nat.reduceLeDiff, Int.reduceNeg, Qa, Qb, Qv, Qs, Qf, Qg, Qj, Qr, Qh, Q2, Qq, Qn, Qm, Qk, Qe, Ql, Qu, Q1, Qw, Q3, rvs, rv1, resV, vw_i, Qaw, zipA, beq_self_eq_true, Qi, Zm, Qp, Qt, Q6, Qo, Q9, Q5, Qc, true_and, and_self, implies_true, reduceCtorEq, Ze, Zd, Q0, Qd, Qbq]
  exact ⟨by rw [Qse hwin], m, hM, by simp [Qcy, Qc8, Qay _ _ _ (hnm m)]⟩
 ·by_cases hno : t.left = 0 ∨ w.high < t.angle
  ·have hpn := Qsf (c := c) (ts := ts) hwin hno
   by_cases h0 : t.left = 0
   ·simp only [rc88, rs88, eA88, eH88, Qcy, Qc8, Qor, Zr, Zv, g1, hwin, h0, Qaj, Qa7, Qb5, Qa8, Qai, Qac, Qa6, Qjy, noGo, Qb2, cutH, endK, Qad, Qa4, Qa1, Fam.step, Qaf, Qbu, Qb9, Qav, Qaz, ug, runX, eff, Qb1, fpR, fpQ, fpV, Qbi, hits, nv, evO, opv, qv, Qak, binV, ldV, curG, Qar, V.cells, Qaq, Qb8, Qaa, Qa5, flat, cutV, cutL, cutB, Qa2, Qa0, Qa3, ↓reduceIte, Nat.reduceEqDiff, Nat.reduceAdd, Nat.reduceLT, Nat.reduceLeDiff, Int.reduceNeg, Qa, Qb, Qv, Qs, Qf, Qg, Qj, Qr, Qh, Q2, Qq, Qn, Qm, Qk, Qe, Ql, Qu, Q1, Qw, Q3, rvs, rv1, resV, vw_i, Qaw, zipA, beq_self_eq_true, Qi, Zm, Qp, Qt, Q6, Qo, Q9, Q5, Qc, Z6, decide_true, true_and, and_true, and_self, forall_const, implies_true, reduceCtorEq, Ze, Zd, Q0, beq_false, imp_self, Qd, Qbq]
    exact ⟨by rw [hpn], m, hM, by simp [Qcy, Qc8, Qay _ _ _ (hnm m)]⟩
   ·have h1 : w.high < t.angle := by omega
    simp only [rc88, rs88, eA88, eH88, Qcy, Qc8, Qor, Zr, Zv, g1, hwin, h0, h1, Qaj, Qa7, Qb5, Qa8, Qai, Qac, Qa6, Qjy, noGo, Qb2, cutH, endK, Qad, Qa4, Qa1, Fam.step, Qaf, Qbu, Qb9, Qav, Qaz, ug, runX, eff, Qb1, fpR, fpQ, fpV, Qbi, hits, nv, evO, opv, qv, Qak, binV, ldV, curG, Qar, V.cells, Qaq, Qb8, Qaa, Qa5, flat, cutV, cutL, cutB, Qa2, Qa0, Qa3, ↓reduceIte, Nat.reduceEqDiff, Nat.reduceAdd, Nat.reduceLT, Nat.reduceLeDiff, Int.reduceNeg, Qa, Qb, Qv, Qs, Qf, Qg, Qj, Qr, Qh, Q2, Qq, Qn, Qm, Qk, Qe, Ql, Qu, Q1, Qw, Q3, rvs, rv1, resV, vw_i, Qaw, zipA, beq_self_eq_true, Qi, Zm, Qp, Qt, Q6, Qo, Q9, Q5, Qc, decide_true, decide_false, true_and, and_self, forall_const, implies_true, reduceCtorEq, Ze, Zd, Q0, Qd, Qbq]
    exact ⟨by rw [hpn], m, hM, by simp [Qcy, Qc8, Qay _ _ _ (hnm m)]⟩
  ·have h0 : ¬ t.left = 0 := fun e => hno (.inl e)
   have h1 : ¬ w.high < t.angle := fun e => hno (.inr e)
   have hget := Qtu V.i m (Qed t)
   unfold Qed at hget
   have hks : ∀ k ∈ aks m, k.length = 5 := hM.five
   cases hg : aget m (Qed t) with
   | some v =>
    have his := Qqh.2 (show (aget m (Qed t)).isSome = true by rw [hg]; rfl)
    unfold Qed at hg his
    rw [hg, Zh] at hget
    simp only [rc88, rs88, eA88, eH88, Qcy, Qc8, Qor, Zr, Zv, g1, hwin, h0, h1, Qck, Qry, hks, hget, his, Qaj, Qa7, Qb5, Qa8, Qai, Qac, Qa6, Qjy, noGo, Qb2, cutH, lkpV, keyL, Qck, endK, Qad, Qa4, Qa1, Fam.step, Qaf, Qbu, Qb9, Qav, Qaz, ug, runX, eff, Qb1, fpR, fpQ, fpV, Qbi, hits, nv, evO, opv, qv, Qak, binV, ldV, curG, Qar, V.cells, Qaq, Qb8, Qce, Qaa, Qa5, flat, cutV, cutL, cutB, Qa2, Qa0, Qa3, ↓reduceIte, Nat.reduceEqDiff, Nat.reduceAdd, Nat.reduceLT, Nat.reduceLeDiff, Int.reduceNeg, Qa, Qb, Qv, Qs, Qf, Qg, Qj, Qr, Qh, Q2, Qx, Qq, Qn, Qm, Qk, Qe, Ql, Qu, Q8, Q1, Qw, Q3, rvs, rv1, resV, vw_i, Qaw, zipA, beq_self_eq_true, Qi, Zm, Qp, Qt, Q6, Qo, Q9, Q5, Qc, decide_true, decide_false, true_and, and_self, forall_const, implies_true, reduceCtorEq, Zh, Ze, Zd, Q0, Qd, Qbq]
    exact ⟨hks, by rw [hM.is t v hg], m, hM, by simp [Qcy, Qc8, Qay _ _ _ (hnm m)]⟩
   | none =>
    have hno2 := Qp8.1 hg
    unfold Qed at hg hno2
    rw [hg, Option.map_none] at hget
    simp only [rc88, rs88, eA88, eH88, Qcy, Qc8, Qor, Zr, Zv, g1, hwin, h0, h1, Qck, Qry, hget, hno2, Qaj, Qa7, Qb5, Qa8, Qai, Qab, Qa6, Qjy, Qb2, cutH, lkpV, keyL, Qck, Qad, Qa4, Qa1, Fam.step, Qaf, Qbu, Qb9, Qav, Qaz, ug, runX, eff, Qb1, fpR, fpQ, fpV, Qbi, hits, nv, evO, opv, qv, Qak, binV, ldV, curG, Qar, V.cells, Qaq, Qb8, Qce, Qaa, Qa5, flat, Qa2, Qa0, Qa3, ↓reduceIte, Nat.reduceEqDiff, Nat.reduceAdd, Nat.reduceLT, Nat.reduceLeDiff, Int.reduceNeg, Qa, Qb, Qv, Qs, Qf, Qg, Qj, Qr, Qh, Qx, Qq, Qn, Qm, Qk, Qe, Ql, Qu, Q8, Q1, Qw, Q3, rv1, resV, vw_i, Qaw, zipA, beq_self_eq_true, Qi, Zm, Qp, Qt, Q6, Qo, Q9, Q5, Qc, decide_false, true_and, and_self, forall_const, implies_true, reduceCtorEq, Zh, Ze, Zd, Q0, Qd, Qbq]
    have hgo := Qsd (c := c) (ts := ts) hwin (by have := ht.left; omega) h1
    refine ⟨hks, ?_⟩
    refine Qf7 (Qcp c t.number).toNat (fun j y => ⟨lkp [(2, .ad 3 0 0), (3, .pa (Qbq t)), (7, .i (-1)), (8, .i (j + 1)), (62, .u)], [.hole, .map true (aks y) (avs .i y), .cells 0 (Qc8 c w ts), .cells 0 [.ad 2 0 0]]⟩)
     (fun j y => MInv c w ts y ∧ ∀ i b, i < j → (ints 1 (Qcp c t.number))[i]? = some b → Qoe c w ts t b = false) m ?_ ?_ ?_ ?_
    ·simp only [Zf, Qc8, Qay _ _ _ (hnm m), cutH, kp, cutV, cutL, cutB, Qa0, Qa3, ↓reduceIte, Nat.reduceEqDiff, Nat.reduceLT, Int.reduceNeg, Int.reduceAdd, Qa, Qb, Qh, Qx, Qbq]
    ·exact ⟨hM, fun i b hi => by omega⟩
    ·rintro j y hj ⟨hMy, hbad⟩
     have hj1 := Qgs (lo := 1) (hi := Qcp c t.number) (k := j) (by omega)
     have hle : ((j : Int) + 1) ≤ Qcp c t.number := by omega
     have hm90 := Qmm c t.number
     have g2 := Qp4 k c t.number
     unfold Qae at g2
     have hmo := hc.most (i := t.number) (by have := ht.number; unfold tame; omega)
     have g3 := Qyq k t (j + 1) [.hole, .map true (aks y) (avs .i y), .cells 0 (Qc8 c w ts), .cells 0 [.ad 2 0 0]]
     unfold Qc8 Qbq at g3
     simp only [Qc8, hle, g2, hmo, g3, Qaj, Qb5, Qa8, Qai, Qab, Qa6, Qj7, ghO, Qb2, cutH, Qad, Qa4, Qa1, Fam.step, Qaf, Qav, runX, eff, Qb1, fpR, fpQ, fpV, Qbi, hits, evO, opv, qv, binV, ldV, curG, Qar, Qaa, Qa5, flat, kp, Qa2, Qa0, Qa3, ↓reduceIte, Nat.reduceEqDiff, Nat.reduceAdd, Nat.reduceLT, Nat.reduceLeDiff, Int.reduceNeg, Qa, Qb, Qs, Qf, Qg, Qj, Qr, Qh, Q2, Qx, Qq, Qn, Qm, Qk, Qe, Ql, Qu, Q1, Qw, Q3, vw_i, Qax, Qaw, beq_self_eq_true, Qi, Zm, Qp, Qt, Q6, Qo, Q9, Q5, Qc, decide_true, true_and, and_true, and_self, implies_true, Ze, Zd, Q0, Qd, Qbq]
     refine ⟨rfl, ?_⟩
     rintro r hp' ⟨rfl, rfl⟩
     obtain ⟨gs, hgs⟩ : ∃ gs, gs = grpF (j + 1) ts t.last.toNat t.first.toNat := ⟨_, rfl⟩
     refine Qtf (gf := 106) (caps := [.pa (Qbq t), .pa [.i (j + 1)], .ad 4 0 0]) ?_ (alP c w ts) (gs.map fun p => ([.ag (Qbq (Qey t (j + 1) ts p))], [])) (bv0 := gB (bV (.map true (aks y) (avs .i y))) c w ts) ?_
      (fun k bv => ∃ m, MInv c w ts m ∧ bv = gB (bV (.map true (aks m) (avs .i m))) c w ts ∧ ∀ p ∈ gs.take k, 0 ≤ Qft c w ts (Qey t (j + 1) ts p)) ?_ ?_ ?_ ?_ ?_ ?_
     ·simp only [evO, cutV, cutL, Qa0, ↓reduceIte, Nat.reduceEqDiff, Nat.reduceLT, Int.reduceNeg, Qbq]
     ·simp only [gB, Qeb, Qao, Qc8, cutH, Qay _ _ _ (hnm y), Qao, Qeb, cutH, cutV, cutL, cutB, ↓reduceIte, Nat.reduceLT, Qa, Qb, Qh, Qx]
     ·exact ⟨y, hMy, rfl, by simp⟩
     ·rintro i bv ⟨m, h1, h2, _⟩
      exact ⟨m, h1, h2⟩
     ·rintro bv ⟨m, h1, rfl⟩
      refine ⟨rfl, fun hp => ?_⟩
      simp only [gB, Qeb, Qao, Qc8, Qay _ _ _ (hnm m), Qao, Qeb, cutV, cutL, cutB, ↓reduceIte, Nat.reduceLT, Qa, Qb]
     ·intro l
      rw [hPy]
      refine ⟨⟨c, w, ts, t, j + 1, l, bV (.map true (aks y) (avs .i y)), fun bv h => ?_, ht, hts0, by unfold tame; omega, ⟨y, hMy, rfl⟩, rfl, ?_⟩, fun r hp' h => h⟩
      ·obtain ⟨m, _, h2⟩ := h
       exact ⟨_, h2⟩
      ·rw [Xj, hgs]; rfl
     ·rintro i x z bv hx ⟨m1, hM1, rfl, hpos⟩
      rw [Zg, Xd] at hx
      obtain ⟨p, hp, he⟩ := hx
      simp only [Prod.mk.injEq] at he
      obtain ⟨rfl, rfl⟩ := he
      refine ⟨rfl, Zt _, ?_⟩
      have hnx := Que (b := j + 1) hw ht hts (by have := ht.left; omega) hnum (by omega) (by omega) (p := p) (by rw [← hgs]; exact Zc hp)
      obtain ⟨nx, hnxe⟩ : ∃ nx, nx = Qey t (j + 1) ts p := ⟨_, rfl⟩
      rw [← hnxe] at hnx ⊢
      have g4 := kP k ⟨c, w, ts, m1, nx, [.cells 0 [.ad 2 0 0], .cells 0 [.ad 2 0 0], .cells 0 (Qbq nx)]⟩
      simp only [eA88, eH88, Qcy, Qc8, Qbq, Qn, Qm] at g4
      simp only [gB, Qeb, Qao, Qc8, g4, Qaj, Qa7, Qa8, Qai, Qc3, Qab, Qat, Qa6, Qj7, ↓Qc1, rnQ, updL, Qao, Qeb, putB, Qad, Qal, Qa4, Qa1, Fam.step, Qaf, Qbu, Qav, putB, nv, sv, evO, opv, qv, binV, ldV, putAt, V.cells, Qaq, Qb8, cutV, cutL, Qa2, Qbb, Qa0, ↓reduceIte, Nat.reduceEqDiff, Nat.reduceAdd, Nat.reduceLT, Nat.reduceLeDiff, Int.reduceNeg, Qa, Qb, Qv, Qs, Qf, Qg, Qj, Qr, Zn, Qh, Q2, Qx, Qq, Qn, Qm, Qk, Qe, Ql, Za, Zk, Qi, Qp, Qc, true_and, and_self, Zo, Qbq]
      refine ⟨⟨hc, hts, hw, hts0, hnx, hM1, by show nx.left < k; rw [hnxe]; simp only [Qey]; omega, by show nx.left + nx.number ≤ 50; rw [hnxe]; simp only [Qey]; omega⟩, ?_⟩
      intro r hp' hRB
      obtain ⟨rfl, m2, hM2, rfl⟩ : r = .i (Qft c w ts nx) ∧ ∃ m', MInv c w ts m' ∧ hp' = Qcy c w ts m' ++ ([.cells 0 [.ad 2 0 0], .cells 0 [.ad 2 0 0], .cells 0 (Qbq nx)] : List Blk) := hRB
      have hbv2 : cutH (5 + 0) (Qcy c w ts m2 ++ [.cells 0 [.ad 2 0 0], .cells 0 [.ad 2 0 0], .cells 0 (Qbq nx)]) = .hole :: (gB (bV (.map true (aks m2) (avs .i m2))) c w ts ++ []).map vB := by
       simp only [Qcy, gB, Qeb, Qao, Qc8, cutH, Qay _ _ _ (hnm m2), Qao, Qeb, cutH, cutV, cutL, cutB, ↓reduceIte, Nat.reduceLT, Qa, Qb, Qh, Q2, Qn, Qm, Qk, Zm, Qbq]
      simp only [Int.reduceNeg, decide_eq_true_eq, decide_eq_false_iff_not, true_and, Qbq]
      refine ⟨fun hneg => ?_, fun hnn => ?_⟩
      ·refine ⟨gB (bV (.map true (aks m2) (avs .i m2))) c w ts, hbv2, rfl, ⟨m2, hM2, rfl⟩, ?_⟩
       have i2 : inI ((j : Int) + 1 + 1) := by unfold inI; omega
       simp only [gB, Qeb, Qao, Qc8, Qay _ _ _ (hnm m2), Qa7, Qa6, Qe5, ↓Qc1, Qao, Qeb, cutH, Qad, Qal, Qa4, Qa1, Fam.step, Qaf, evO, opv, qv, binV, cutV, cutL, cutB, Qa2, Qa0, Qa3, ↓reduceIte, Nat.reduceEqDiff, Nat.reduceLT, Int.reduceNeg, Qa, Qb, Qr, Qh, Q2, Qx, Qrn, true_and]
       refine ⟨i2, m2, ⟨hM2, fun i' b' hi' hb' => ?_⟩, ?_⟩
       ·by_cases e : i' < j
        ·exact hbad i' b' e hb'
        ·have e : i' = j := by omega
         subst e
         rw [hj1] at hb'
         have e2 : b' = (i' : Int) + 1 := by have := Option.some.inj hb'; omega
         subst e2
         unfold Qoe
         rw [← hgs, Xk]
         refine ⟨p, Zc hp, ?_⟩
         rw [← hnxe]
         simpa using hneg
       ·simp only [Zi, Zj, Int.reduceNeg]
      ·refine ⟨gB (bV (.map true (aks m2) (avs .i m2))) c w ts, hbv2, rfl, ⟨m2, hM2, rfl⟩, m2, hM2, rfl, fun p' hp' => ?_⟩
       rw [Qb7 hp] at hp'
       rcases Xs.1 hp' with hp' | hp'
       ·exact hpos p' hp'
       ·have : p' = p := by simpa using hp'
        subst this
        rw [← hnxe]
        omega
     ·rintro bv ⟨m1, hM1, rfl, hpos⟩
      rw [Qy, Zs] at hpos
      have hks2 : ∀ k ∈ aks m1, k.length = 5 := hM1.five
      simp only [gB, Qeb, Qao, Qc8, Qck, Qry, Qa7, Qb5, Qa8, Qat, Qac, Qa6, noGo, ↓Qc1, Qb2, optL, Qao, Qeb, keyL, Qck, endK, Qad, Qal, Qa4, Qa1, Fam.step, Qaf, Qav, runX, eff, Qb1, fpR, fpQ, fpV, Qbi, hits, nv, sv, evO, opv, qv, ldV, curG, Qce, cutV, cutL, cutB, Qa2, Qbb, Qa0, Qa3, ↓reduceIte, Nat.reduceEqDiff, Nat.reduceAdd, Nat.reduceLT, Nat.reduceLeDiff, Int.reduceNeg, Qa, Qb, Qs, Qf, Qg, Qj, Qr, Qh, Q2, Qx, Qq, Qn, Qm, Qk, Qe, Ql, Qu, Q1, Za, Zk, Qw, Q3, Zy, rvs, rv1, beq_self_eq_true, Qi, Qp, Qt, Zx, Q6, Qo, Xb, Q9, Q5, Qc, true_and, and_self, forall_const, reduceCtorEq, Zh, Xc, Ze, Zd, Q0, Qd]
      have hgd : Qoe c w ts t (j + 1) = true := by
       unfold Qoe
       rw [← hgs, Xo]
       exact fun p hp => by simpa using hpos p hp
      have hpl : ((j : Int) + 1) = Qft c w ts t := by
       rw [hgo, Qpv hj1 (by rw [show (1 : Int) + j = j + 1 by omega]; exact hgd) hbad, Q8]
       omega
      refine ⟨hks2, ?_, aput m1 (Qed t) ((j : Int) + 1), hM1.put hpl, ?_⟩
      ·rw [hpl]
      ·have hpv := Qme hM1.nd V.i (Qed t) ((j : Int) + 1)
       have hpk := Qh6 m1 (Qed t) ((j : Int) + 1)
       unfold Qed at hpv hpk ⊢
       simp only [Qcy, Qc8, hpv, hpk, Qay _ _ _ (hnm _), Qk]
    ·rintro y ⟨hMy, hbad⟩
     have hgt : ¬ (((Qcp c t.number).toNat : Int) + 1 ≤ Qcp c t.number) := by omega
     have g2 := Qp4 k c t.number
     unfold Qae at g2
     have hmo := hc.most (i := t.number) (by have := ht.number; unfold tame; omega)
     have hks2 : ∀ k ∈ aks y, k.length = 5 := hMy.five
     simp only [Qc8, hgt, g2, hmo, Qck, Qry, Qa7, Qb5, Qa8, Qai, Qat, Qac, Qa6, noGo, Qb2, optL, keyL, Qck, endK, Qad, Qal, Qa4, Qa1, Fam.step, Qaf, Qav, runX, eff, Qb1, fpR, fpQ, fpV, Qbi, hits, nv, sv, evO, opv, qv, binV, ldV, curG, Qar, Qce, Qaa, Qa5, flat, cutV, cutL, cutB, Qa2, Qbb, Qa0, Qa3, ↓reduceIte, Nat.reduceEqDiff, Nat.reduceAdd, Nat.reduceLT, Nat.reduceLeDiff, Int.reduceNeg, Qa, Qb, Qs, Qf, Qg, Qj, Qr, Qh, Q2, Qx, Qq, Qn, Qm, Qk, Qe, Ql, Qu, Q1, Za, Zk, Qw, Q3, Zy, rvs, rv1, vw_i, Qax, Qaw, beq_self_eq_true, Qi, Zm, Qp, Qt, Zx, Q6, Qo, Xb, Q9, Q5, Qc, decide_false, true_and, and_self, forall_const, implies_true, Zh, Xc, Ze, Zd, Q0, Qd, Qbq]
     have hpl : (-1 : Int) = Qft c w ts t := by
      rw [hgo, Xi.2, Q1]
      intro b hb
      obtain ⟨i, hi⟩ := Z0 hb
      have hl := Qam hi
      rw [Qfi] at hl
      have := hbad i b (by omega) hi
      simp [this]
     refine ⟨hks2, ?_, aput y (Qed t) (-1), hMy.put hpl, ?_⟩
     ·rw [hpl]
     ·have hpv := Qme hMy.nd V.i (Qed t) (-1)
      have hpk := Qh6 y (Qed t) (-1)
      unfold Qed at hpv hpk ⊢
      simp only [Qcy, Qc8, hpv, hpk, Qay _ _ _ (hnm _), Int.reduceNeg, Qk]
theorem Qqf (n : Nat) (hn : 1 < n) (c : Cane) (w : Span) (ts : List Int) : lowL n (Qc8 c w ts) = true := by
 simp [lowL, lowV, Qc8, hn]
theorem Quc (n : Nat) (m : AM Int) : lowL n (avs V.i m) = true := by
 unfold avs
 induction m with
 | nil => rfl
 | cons e m ih => simp [lowL, lowV, ih]
theorem W88t (k : Nat) (hG : GOk Try.prog (HP k)) (x : D88) (h : C88 (k + 1) x) : Qc6 Try.prog 88 (eA88 x) (eH88 x) (RB88 x) := by
 have h1 := W88 k hG ⟨x.c, x.w, x.ts, x.m, x.t, []⟩ ⟨h.c, h.all, h.w, h.ts, h.t, h.m, h.k, h.num⟩ h.all rfl
 have h2 := h1.frame (fun r hp' hr => by obtain ⟨_, m', _, rfl⟩ := hr; simp [eH88, Qcy]) (by simp [eH88, Qcy, eA88, lowL, lowV, Qbq]) (fun b hb => ?_) x.tl
 ·have e : eH88 ⟨x.c, x.w, x.ts, x.m, x.t, []⟩ ++ x.tl = eH88 x := by simp [eH88]
  rw [e] at h2
  intro S w O cargs a1 a2 a3
  refine (h2 S w O cargs a1 a2 a3).mono ?_
  rintro e w' ⟨c, S', O', r, hp', h3, ⟨hp2, ⟨h4, m', h5, h6⟩, h7⟩, h8⟩
  refine ⟨c, S', O', r, hp', h3, ⟨h4, m', h5, ?_⟩, h8⟩
  rw [h7, h6]; simp
 ·have hl : (eH88 ⟨x.c, x.w, x.ts, x.m, x.t, []⟩).length = 3 := by simp [eH88, Qcy]
  rw [hl]
  simp only [eH88, Qcy, Qk, List.mem_cons, List.not_mem_nil, or_false] at hb
  rcases hb with rfl | rfl | rfl
  ·rfl
  ·exact Quc _ _
  ·exact Qqf _ (by decide) _ _ _
theorem gh88 (x : D88) : ghO (eH88 x) = none := rfl
theorem okHP : ∀ k, GOk Try.prog (HP k) := by
 intro k
 induction k with
 | zero =>
  refine Qx8.extH (f := 88) (fun a w => Try.call88 a w) (Qlm fun x hx => ?_)
  have := hx.k
  have := hx.t.left
  omega
 | succ k ih =>
  refine Qx8.extH (f := 88) (fun a w => Try.call88 a w) (Qlm fun x hx => ⟨fun r hp' hr y hy => ?_, W88t k ih x hx⟩)
  rw [gh88] at hy; cases hy
noncomputable def H18 : Gam := HP 20
theorem Qx9 : GOk Try.prog H18 := okHP 20
theorem k88 (x : D88) : H18.h 88 (eA88 x) (eH88 x) = (C88 20 x, RB88 x) := kP 20 x
end Go.C06
set_option linter.unusedSimpArgs false
set_option linter.unusedVariables false
namespace Go.C06
open Go.Fam Go.Proofs
variable {Γ : Gam}
theorem Qvi (c : Cane) (w : Span) (l : List Int)  : H18 59 [.ag (Qae c), .ag (Qau w), .sl 1 (l.map eI)] = (True, .tp [.sl 1 ((stL c w l).map eI), .i (stE c w l)]) := h59 c w l
def Qv2 (c : Cane) (n : Nat) : Task := ⟨0, n, 0, 0, (Qa9 c).length - 1⟩
def Qsc (c : Cane) (w : Span) (n : Nat) : Int := Qft c w (Qa9 c) (Qv2 c n)
def Qqg (c : Cane) (w : Span) : Option Nat := (Z7 7).find? fun n => decide (0 ≤ Qsc c w n)
def Qej (c : Cane) (w : Span) : Int × Int × Int := if stE c w [] = 0 then match Qqg c w with | some n => (n, Qsc c w n, 0) | none => (0, 0, 3) else (0, 0, stE c w [])
def mV (r : Int × Int × Int) : V := .tp [.i r.1, .i r.2.1, .i r.2.2]
set_option maxHeartbeats 1000000 in
theorem W61 (c : Cane) (w : Span) : Qah Try.prog 61 [.ag (Qae c), .ag (Qau w)] (mV (Qej c w)) := by
 refine Qag Qx9 hmix Try.func61 cb61 cc61 cs61 cn61 ?_
 have g1 := Qvi c w []
 unfold Qae Qau at g1
 simp only [Qb] at g1
 simp only [rc61, rs61, g1, Qaj, Qa7, Qa8, Qai, Qc3, Qab, Qac, Qa6, Qr6, Qad, Qa4, Qa1, Fam.step, Qaf, Qbu, Qav, nv, evO, opv, qv, binV, ldV, Qar, Qap, putAt, Qba, V.cells, Qaq, Qb8, Qaa, Qa5, flat, Qd3, Qa2, Qa0, Qa3, ↓reduceIte, Nat.reduceEqDiff, Nat.reduceAdd, Nat.reduceLT, Nat.reduceLeDiff, Qa, Qb, Qv, Qs, Qf, Qg, Qj, Qr, Zn, Qh, Q2, Qx, Qn, Qm, Qk, Qe, Ql, Q8, endQ, rvs, rv1, resV, vw_i, vw_z, Qax, Qaw, Qci, zipA, Qi, Qp, Qt, Qo, Qc, decide_eq_false_iff_not, true_and, and_self, reduceCtorEq, Q7, imp_self, Classical.not_not, Qau, Qae]
 refine ⟨fun h => ?_, fun h => ?_⟩
 ·have h0 : ¬ stE c w [] = 0 := h
  simp only [mV, Qej, h0, ↓reduceIte]
 ·obtain ⟨h1, h2, h3, h4, h5, h6, h7⟩ := Qox h
  have hlen := Qd7 c h1
  have hpos : 0 < (Qa9 c).length := List.length_pos_iff.2 h6
  have hnm : ∀ m : AM Int, Qa5 (avs V.i m) = false := fun m => Qiy (fun _ => rfl) m
  simp only [h7]
  refine Qf7 7 (fun n m => ⟨lkp [(7, .sl 1 ((Qa9 c).map eI)), (8, .ad 2 0 0), (26, .i n)], Qcy c w (Qa9 c) m⟩) (fun n m => MInv c w (Qa9 c) m ∧ ∀ k, k < n → ¬ 0 ≤ Qsc c w k) [] ?_ ?_ ?_ ?_
  ·simp only [Zf, Qcy, Qc8, aks, avs, kp, Qa0, Qa3, ↓reduceIte, Nat.reduceEqDiff, Qa, Qb]
  ·exact ⟨⟨by simp [aks], by simp [aks], fun t v hv => by simp [aget] at hv⟩, fun k hk => by omega⟩
  ·rintro n m hn ⟨hM, hbad⟩
   have hlt : (n : Int) < 7 := by omega
   have i1 : inI ((n : Int) + 1) ∧ inI (((Qa9 c).length : Int) - 1) := by unfold inI; omega
   have g2 := k88 ⟨c, w, Qa9 c, m, Qv2 c n, []⟩
   simp only [eA88, eH88, Qcy, Qc8, Qbq, Qv2, Qn, Qm] at g2
   simp only [Qcy, Qc8, hlt, i1, g2, Qaj, Qa7, Qa8, Qai, Qc3, Qab, Qac, Qa6, Qj7, Qad, Qal, Qa4, Qa1, Fam.step, Qaf, Qav, evO, opv, qv, binV, ldV, lenV, Qap, putAt, Qba, V.cells, Qaq, kp, Qa2, Qa0, Qa3, ↓reduceIte, Nat.reduceEqDiff, Nat.reduceAdd, Nat.reduceLeDiff, Qa, Qb, Qf, Qg, Qj, Qr, Zn, Qh, Q2, Qn, Qm, Qk, endQ, rvs, rv1, resV, vw_i, Qci, Qi, decide_true, true_and, and_self, Qy, Zo]
   refine ⟨⟨h1, fun k hk => Qd8 h1 hk, h3, ⟨by show (Qa9 c).length ≤ 1000; omega, fun k hk => by have := Qd8 h1 hk; unfold tame; omega⟩, ⟨⟨Xf _, show (0 : Int) ≤ 1000 by decide⟩, by show 0 ≤ (n : Int) ∧ (n : Int) ≤ 100; omega, ⟨Xf _, show (0 : Int) ≤ 100 by decide⟩, by show 0 ≤ (0 : Int) ∧ (0 : Int) ≤ (Qa9 c).length - 1; omega, by show ((Qa9 c).length : Int) - 1 < (Qa9 c).length; omega⟩, hM, by show ((n : Int) : Int) < ((20 : Nat) : Int); omega, by show (n : Int) + 0 ≤ 50; omega⟩, ?_⟩
   intro r hp' hRB
   obtain ⟨rfl, m2, hM2, rfl⟩ : r = .i (Qsc c w n) ∧ ∃ m', MInv c w (Qa9 c) m' ∧ hp' = Qcy c w (Qa9 c) m' ++ ([] : List Blk) := hRB
   simp only [Qk, vw_i, decide_eq_true_eq, decide_eq_false_iff_not, true_and]
   refine ⟨fun hge => ?_, fun hlt2 => ?_⟩
   ·have e : Qqg c w = some n := by
     unfold Qqg
     refine Qpv (i := n) (Z5 hn) (by simpa using hge) fun j y hj hy => ?_
     rw [Z5 (by omega)] at hy
     have := hbad j hj
     rw [← Option.some.inj hy]
     simpa using this
    simp only [mV, Qej, h, e, ↓reduceIte]
   ·refine ⟨m2, ⟨hM2, fun k hk => ?_⟩, ?_⟩
    ·by_cases e : k < n
     ·exact hbad k e
     ·have e : k = n := by omega
      subst e
      omega
    ·simp only [Qcy, Qc8, Zi, Zj]
  ·rintro m ⟨hM, hbad⟩
   have h77 : ¬ (((7 : Nat) : Int) < 7) := by decide
   have e : Qqg c w = none := by
    unfold Qqg
    rw [Xi]
    intro k hk
    have := hbad k (by simpa using hk)
    simpa using this
   simp only [h77, mV, Qej, h, e, Qa7, Qa8, Qai, Qat, Qac, Qa6, Qad, Qal, Qa4, Qa1, Fam.step, Qaf, evO, opv, qv, binV, ldV, Qa2, Qa0, Qa3, ↓reduceIte, Nat.reduceEqDiff, Qa, Qb, endQ, rvs, rv1, resV, vw_i, Qci, Qc, decide_false, and_self]
noncomputable def H19 : Gam := (H18.ext 61 (fnG eCS dCS (fun _ => True) (fun a => Qej a.1 a.2) mV)).ext 25 (fnG eCS dCS (fun _ => True) (fun a => fewR a.1 a.2) fun r => .tp [.i r.1, .i r.2])
theorem Qug : GOk Try.prog H19 := (Qx9.ext (f := 61) (fun a w => Try.call61 a w) (Qb0 (e := eCS) (d := dCS) (ok := fun _ => True) (g := fun a => Qej a.1 a.2) (eb := mV) fun a _ => W61 a.1 a.2)).ext (f := 25) (fun a w => Try.call25 a w)
 (Qb0 (e := eCS) (d := dCS) (ok := fun _ => True) (g := fun a => fewR a.1 a.2) (eb := fun r => .tp [.i r.1, .i r.2]) fun a _ => W25 a.1 a.2)
theorem h61 (c : Cane) (w : Span) : H19 61 [.ag (Qae c), .ag (Qau w)] = (True, mV (Qej c w)) :=
 (show H19 61 _ = fnG eCS dCS (fun _ => True) (fun a => Qej a.1 a.2) mV (eCS (c, w)) from rfl).trans (Qb6 _ (Qpn _))
theorem h25 (c : Cane) (w : Span) : H19 25 [.ag (Qae c), .ag (Qau w)] = (True, .tp [.i (fewR c w).1, .i (fewR c w).2]) :=
 (show H19 25 _ = fnG eCS dCS (fun _ => True) (fun a => fewR a.1 a.2) (fun r => .tp [.i r.1, .i r.2]) (eCS (c, w)) from rfl).trans (Qb6 _ (Qpn _))
theorem W26 (c : Cane) (w : Span) : Qah Try.prog 26 [.ag (Qae c), .ag (Qau w)] (.tp [.i (Qej c w).1, .i (Qej c w).2.2]) := by
 refine Qag Qug hmix Try.func26 cb26 cc26 cs26 cn26 ?_
 have g1 := h61 c w
 unfold Qae Qau mV at g1
 simp only [rc26, rs26, g1, Qa7, Qa8, Qac, Qa6, Qad, Qa4, Qa1, Fam.step, Qaf, evO, opv, qv, ldV, Qar, V.cells, Qaq, Qaa, Qa5, flat, Qd3, Qa2, Qa0, Qa3, ↓reduceIte, Nat.reduceEqDiff, Nat.reduceAdd, Nat.reduceLT, Nat.reduceLeDiff, Qa, Qb, Qf, Qg, Qh, Qx, Qk, Qe, Ql, Qu, Q8, endQ, rvs, rv1, resV, vw_i, Qax, Qaw, Qci, zipA, Qi, Qp, Qo, Qc, and_self, implies_true, reduceCtorEq, Qau, Qae]
end Go.C06
set_option maxRecDepth 8000
namespace Go.C06
open Go.Fam Go.Proofs
def rc92 : RC := (.seq (.reg false [(cX 1 0), (cQ 2 [] (.mv (kB false)))]) (.keep [1] (.seq (.reg true [(cFa 3 1 0), (cLd 4 3 false 1), (cQ 5 [4] (.call (kF 72) [(.t 4), (kI 0), (kI 999)])), (cN 6 5), (cMv 7 6), (gQ 8 7 false [1] (.fad 1 (.t 1))), (gQ 9 7 false [8] (.ld false 1 (.t 8))), (gQ 10 7 false [9] (.call (kF 72) [(.t 9), (kI 0), (kI 999)])), (gQ 11 7 false [10] (.not (.t 10))), (cQ 12 [7,11] (.pick (.t 7) (kB true) (.t 11))), (cMv 2 12)]) .ret)))
def pu92 : List Nat := [1]
def rs92 : List RV := [.t 2]
theorem cc92 : CCx Try.prog Try.f92 pu92 rc92 := by unfold CCx; kernel_rfl
theorem cb92 : CBx Try.f92 := by unfold CBx; kernel_rfl
theorem cs92 : CSx Try.prog Try.f92 rs92 := by unfold CSx; kernel_rfl
theorem cn92 : 1 ≤ Try.f92.ntmps := by decide
def rc103 : RC := (.seq (.reg false [(cI 4 0)]) (.keep [0,1] (.seq (.seq (.reg false [(cMv 6 0), (cLn 7 6), (cI 8 0)]) (.keep [0,1,7,8] (.block 0 (.loop [0,1,7,8] none (.seq (.reg false [(cB 9 .lss 8 7)]) (.keep [0,1,7,8,9] (.seq (.cond (.t 9) .skip (.exit 0)) (.keep [0,1,7,8] (.seq (.block 1 (.seq (.reg false [(cMv 10 8), (cMv 5 10)]) (.keep [0,1,5,7,8] (.seq (.reg false [(cMv 11 1), (cMv 12 0), (cMv 13 5), (cA 14 2 12 13), (cLd 15 14 true 2), (cQ 16 [11,15] (.call (.t 11) [(.t 15)]))]) (.keep [0,1,5,7,8,16] (.cond (.t 16) (.seq (.reg false [(cMv 17 5), (cMv 4 17)]) .ret) .skip)))))) (.keep [0,1,7,8] (.reg false [(cC 18 .add 8 1), (cMv 8 18)]))))))))))) (.keep [] (.seq (.reg false [(cQ 4 [] (.mv (.k (.i (-1)))))]) .ret)))))
def pu103 : List Nat := []
def rs103 : List RV := [.t 4]
theorem cc103 : CCx Try.prog Try.f103 pu103 rc103 := by unfold CCx; kernel_rfl
theorem cb103 : CBx Try.f103 := by unfold CBx; kernel_rfl
theorem cs103 : CSx Try.prog Try.f103 rs103 := by unfold CSx; kernel_rfl
theorem cn103 : 2 ≤ Try.f103.ntmps := by decide
def rc93 : RC := (.seq (.reg false [(cQ 4 [] (.mv (kB false)))]) (.keep [0,1] (.seq (.reg false [(cMv 5 0), (cMv 6 1), (cQ 7 [5,6] (.call (kF 103) [(.t 5), (.t 6)])), (cC 8 .geq 7 0), (cMv 4 8)]) .ret)))
def pu93 : List Nat := []
def rs93 : List RV := [.t 4]
theorem cc93 : CCx Try.prog Try.f93 pu93 rc93 := by unfold CCx; kernel_rfl
theorem cb93 : CBx Try.f93 := by unfold CBx; kernel_rfl
theorem cs93 : CSx Try.prog Try.f93 rs93 := by unfold CSx; kernel_rfl
theorem cn93 : 2 ≤ Try.f93.ntmps := by decide
def rc74 : RC := (.seq (.reg false [(cX 1 0), (cI 2 0)]) (.keep [1] (.seq (.reg false [(cQ 3 [] (.mv (kF 92)))]) (.keep [1,3] (.seq (.seq (.reg true [(cFa 4 1 0), (cLd 5 4 false 1), (cQ 6 [5] (.call (kF 72) [(.t 5), (kI 1), (kI 7)])), (cN 7 6), (cMv 8 7), (gQ 9 8 false [1] (.fad 1 (.t 1))), (gQ 10 8 false [9] (.ld false 1 (.t 9))), (gQ 11 8 false [10] (.len (.t 10))), (gQ 12 8 false [11] (.bin .gtr (.t 11) (kI 7))), (cQ 13 [8,12] (.pick (.t 8) (kB true) (.t 12))), (cMv 14 13), (gQ 15 14 false [1] (.fad 1 (.t 1))), (gQ 16 14 false [15] (.ld false 1 (.t 15))), (gMv 17 14 false 3), (gQ 18 14 false [16,17] (.call (kF 93) [(.t 16), (.t 17)])), (cQ 19 [14,18] (.pick (.t 14) (kB true) (.t 18)))]) (.keep [19] (.cond (.t 19) (.seq (.reg false [(cI 2 62)]) .ret) .skip))) (.keep [] (.seq (.reg false [(cI 2 0)]) .ret)))))))
def pu74 : List Nat := [1]
def rs74 : List RV := [.t 2]
theorem cc74 : CCx Try.prog Try.f74 pu74 rc74 := by unfold CCx; kernel_rfl
theorem cb74 : CBx Try.f74 := by unfold CBx; kernel_rfl
theorem cs74 : CSx Try.prog Try.f74 rs74 := by unfold CSx; kernel_rfl
theorem cn74 : 1 ≤ Try.f74.ntmps := by decide
def rc78 : RC := (.seq (.reg false [(cQ 2 [] (.mv (.k (.z 1))))]) (.keep [0] (.seq (.reg false [(cMv 5 0), ⟨(some 6), none, [5,5], none, .w (.mks 1 [(.i 0)] (.t 5) (.t 5))⟩, (cMv 3 6)]) (.keep [3] (.seq (.seq (.reg false [(cMv 7 3), (cLn 8 7), (cI 9 0)]) (.keep [3,8,9] (.block 0 (.loop [3,8,9] none (.seq (.reg false [(cB 10 .lss 9 8)]) (.keep [3,8,9,10] (.seq (.cond (.t 10) .skip (.exit 0)) (.keep [3,8,9] (.seq (.block 1 (.seq (.reg false [(cMv 11 9), (cMv 4 11)]) (.keep [3,4,8,9] (.reg false [(cMv 12 3), (cMv 13 4), (cMv 14 4), (cA 15 1 12 13), ⟨none, none, [15,14], none, .w (.st 1 (.t 15) (.t 14))⟩])))) (.keep [3,8,9] (.reg false [(cC 16 .add 9 1), (cMv 9 16)]))))))))))) (.keep [3] (.seq (.reg false [(cMv 17 3), (cMv 2 17)]) .ret)))))))
def pu78 : List Nat := []
def rs78 : List RV := [.t 2]
theorem cc78 : CCx Try.prog Try.f78 pu78 rc78 := by unfold CCx; kernel_rfl
theorem cb78 : CBx Try.f78 := by unfold CBx; kernel_rfl
theorem cs78 : CSx Try.prog Try.f78 rs78 := by unfold CSx; kernel_rfl
theorem cn78 : 1 ≤ Try.f78.ntmps := by decide
def rc79 : RC := (.seq (.reg false [(cX 2 0), (cI 4 0)]) (.keep [1,2,4] (.seq (.reg false [(cQ 5 [] (.mv (.k (.z 1))))]) (.keep [1,2,4,5] (.seq (.seq (.reg false [(cMv 9 1), (cLn 10 9), (cI 11 0)]) (.keep [2,4,5,9,10,11] (.block 0 (.own 5 1 (.loop [2,4,5,9,10,11] none (.seq (.reg false [(cB 12 .lss 11 10)]) (.keep [2,4,5,9,10,11,12] (.seq (.cond (.t 12) .skip (.exit 0)) (.keep [2,4,5,9,10,11] (.seq (.block 1 (.seq (.reg false [(cMv 13 11), (cA 14 1 9 11), (cLd 15 14 false 1), (cMv 6 13), (cMv 7 15)]) (.keep [2,4,5,6,7,9,10,11] (.seq (.reg false [(cI 8 0)]) (.keep [2,4,5,6,7,8,9,10,11] (.seq (.seq (.reg false [(cMv 16 6), (cFa 17 2 0), (cLd 18 17 false 1), (cB 19 .geq 16 18)]) (.keep [2,4,5,6,7,8,9,10,11,19] (.cond (.t 19) (.reg false [(cMv 20 5), (cMv 21 6), (cFa 22 2 0), (cLd 23 22 false 1), (cB 24 .sub 21 23), (cA 25 1 20 24), (cLd 26 25 false 1), (cMv 8 26)]) .skip))) (.keep [2,4,5,6,7,8,9,10,11] (.seq (.reg false [(cMv 27 5), (cMv 28 8), (cFa 29 2 1), (cLd 30 29 false 1), (cMv 31 7), (cA 32 2 30 31), (cFa 33 32 0), (cLd 34 33 false 1), (cB 35 .add 28 34), (cMv 36 4), (cQ 37 [35,36] (.mx (.t 35) (.t 36))), (cQ 38 [37] (.bsl 1 1 [(.i 0)] [(0,1, (.t 37))])), ⟨(some 39), none, [27,38], none, .w (.app 1 (.t 27) (.t 38))⟩, (cMv 5 39)]) (.keep [2,5,6,7,9,10,11] (.any false 0 [⟨(cMv 40 5), [], []⟩, ⟨(cMv 41 6), [], []⟩, ⟨(cA 42 1 40 41), [], [0,1]⟩, ⟨(cLd 43 42 false 1), [], [2,0,1]⟩, ⟨(cFa 44 2 1), [], []⟩, ⟨(cLd 45 44 false 1), [], [4]⟩, ⟨(cMv 46 7), [], []⟩, ⟨(cA 47 2 45 46), [], [5,4,6]⟩, ⟨(cFa 48 47 1), [], [7,5,4,6]⟩, ⟨(cLd 49 48 false 1), [], [8,7,5,4,6]⟩, ⟨(cB 50 .add 43 49), [], [3,2,0,1,9,8,7,5,4,6]⟩, ⟨(cMv 4 50), [], [10,3,2,0,1,9,8,7,5,4,6]⟩])))))))))) (.keep [2,4,5,9,10,11] (.reg false [(cC 51 .add 11 1), (cMv 11 51)])))))))))))) (.keep [4] (.seq (.reg false [(cMv 52 4), (cMv 4 52)]) .ret)))))))
def pu79 : List Nat := [2,38]
def rs79 : List RV := [.t 4]
theorem cc79 : CCx Try.prog Try.f79 pu79 rc79 := by unfold CCx; kernel_rfl
theorem cb79 : CBx Try.f79 := by unfold CBx; kernel_rfl
theorem cs79 : CSx Try.prog Try.f79 rs79 := by unfold CSx; kernel_rfl
theorem cn79 : 2 ≤ Try.f79.ntmps := by decide
def rc97 : RC := (.seq (.reg false [(cQ 6 [] (.mv (kB false)))]) (.keep [0,1,2] (.seq (.seq (.reg false [(cMv 9 1), (cMv 10 0), (cLn 11 10), (cB 12 .eql 9 11)]) (.keep [0,1,2,12] (.cond (.t 12) (.seq (.yrh false [(cMv 13 2), (cMv 14 0)] ⟨(some 15), none, [13,14], none, .o (.t 13) [(.t 14)]⟩ [(cMv 6 15)]) .ret) .skip))) (.keep [0,1,2] (.seq (.seq (.reg false [(cMv 16 1), (cMv 7 16)]) (.keep [0,1,2,7] (.block 0 (.loop [0,1,2,7] none (.seq (.seq (.reg false [(cMv 17 7), (cMv 18 0), (cLn 19 18), (cB 20 .lss 17 19)]) (.keep [0,1,2,7,20] (.cond (.t 20) .skip (.exit 0)))) (.keep [0,1,2,7] (.seq (.block 1 (.seq (.any false 0 [⟨(cMv 23 0), [], []⟩, ⟨(cMv 24 1), [], []⟩, ⟨(cMv 25 0), [], []⟩, ⟨(cMv 26 7), [], []⟩, ⟨(cMv 27 0), [], []⟩, ⟨(cMv 28 7), [], []⟩, ⟨(cA 29 1 27 28), [], [4,5]⟩, ⟨(cLd 30 29 false 1), [], [6,4,5]⟩, ⟨(cMv 31 0), [], []⟩, ⟨(cMv 32 1), [], []⟩, ⟨(cA 33 1 31 32), [], [8,9]⟩, ⟨(cLd 34 33 false 1), [], [10,8,9]⟩, ⟨(cA 35 1 23 24), [], [0,1,4,5,6,7,11,10,8,9]⟩, ⟨⟨none, none, [35,30], none, .w (.st 1 (.t 35) (.t 30))⟩, [2,3], [12,0,1,4,5,6,7,11,10,8,9]⟩, ⟨(cA 36 1 25 26), [], [2,3,0,1,4,5,6,7,8,9,10,11,12,13]⟩, ⟨⟨none, none, [36,34], none, .w (.st 1 (.t 36) (.t 34))⟩, [], [14,2,3,0,1,4,5,6,7,8,9,10,11,12,13]⟩]) (.keep [0,1,2,7] (.seq (.ycl 3 false [(cMv 37 0), (cMv 38 1), (cC 39 .add 38 1), (cMv 40 2)] ⟨(some 41), none, [37,39,40], none, .o (kF 97) [(.t 37), (.t 39), (.t 40)]⟩ [(cMv 8 41)]) (.keep [0,1,2,7,8] (.seq (.any false 0 [⟨(cMv 42 0), [], []⟩, ⟨(cMv 43 1), [], []⟩, ⟨(cMv 44 0), [], []⟩, ⟨(cMv 45 7), [], []⟩, ⟨(cMv 46 0), [], []⟩, ⟨(cMv 47 7), [], []⟩, ⟨(cA 48 1 46 47), [], [4,5]⟩, ⟨(cLd 49 48 false 1), [], [6,4,5]⟩, ⟨(cMv 50 0), [], []⟩, ⟨(cMv 51 1), [], []⟩, ⟨(cA 52 1 50 51), [], [8,9]⟩, ⟨(cLd 53 52 false 1), [], [10,8,9]⟩, ⟨(cA 54 1 42 43), [], [0,1,4,5,6,7,11,10,8,9]⟩, ⟨⟨none, none, [54,49], none, .w (.st 1 (.t 54) (.t 49))⟩, [2,3], [12,0,1,4,5,6,7,11,10,8,9]⟩, ⟨(cA 55 1 44 45), [], [2,3,0,1,4,5,6,7,8,9,10,11,12,13]⟩, ⟨⟨none, none, [55,53], none, .w (.st 1 (.t 55) (.t 53))⟩, [], [14,2,3,0,1,4,5,6,7,8,9,10,11,12,13]⟩]) (.keep [0,1,2,7,8] (.seq (.reg false [(cMv 56 8), (cN 57 56)]) (.keep [0,1,2,7,57] (.cond (.t 57) (.seq (.reg false [(cQ 6 [] (.mv (kB false)))]) .ret) .skip)))))))))) (.keep [0,1,2,7] (.reg false [(cMv 21 7), (cC 22 .add 21 1), (cMv 7 22)]))))))))) (.keep [] (.seq (.reg false [(cQ 6 [] (.mv (kB true)))]) .ret)))))))
def pu97 : List Nat := []
def rs97 : List RV := [.t 6]
theorem cc97 : comp Try.prog pu97 (Try.f97.ntmps, 0) 3 3 rc97 (Try.f97.body.getD .skip) = some rc97 := by kernel_rfl
theorem cb97 : CBx Try.f97 := by unfold CBx; kernel_rfl
theorem cs97 : CSx Try.prog Try.f97 rs97 := by unfold CSx; kernel_rfl
theorem cn97 : 3 ≤ Try.f97.ntmps := by decide
def rc96 : RC := (.ycl 2 false [(cFa 3 1 1), (cLd 4 3 false 1), (cLn 5 4), ⟨(some 6), none, [5], none, .o (kF 78) [(.t 5)]⟩, (cMv 7 0)] ⟨(some 8), none, [6,7], none, .o (kF 97) [(.t 6), (kI 0), (.t 7)]⟩ [])
def pu96 : List Nat := [1000006]
def rs96 : List RV := []
theorem cc96 : comp Try.prog pu96 (Try.f96.ntmps, 0) 2 3 rc96 (Try.f96.body.getD .skip) = some rc96 := by kernel_rfl
theorem cb96 : CBx Try.f96 := by unfold CBx; kernel_rfl
theorem cs96 : CSx Try.prog Try.f96 rs96 := by unfold CSx; kernel_rfl
theorem cn96 : 2 ≤ Try.f96.ntmps := by decide
def rc81 : RC := (.seq (.reg false [(cX 1 0), (cQ 2 [] (.mv (.k .u)))]) (.keep [1] (.seq (.reg false [(cQ 3 [1] (.mkf 96 [(.t 1)])), (cMv 2 3)]) .ret)))
def pu81 : List Nat := [1]
def rs81 : List RV := [.t 2]
theorem cc81 : CCx Try.prog Try.f81 pu81 rc81 := by unfold CCx; kernel_rfl
theorem cb81 : CBx Try.f81 := by unfold CBx; kernel_rfl
theorem cs81 : CSx Try.prog Try.f81 rs81 := by unfold CSx; kernel_rfl
theorem cn81 : 1 ≤ Try.f81.ntmps := by decide
def rc55 : RC := (.dum (.seq (.reg false [(cX 1 0), (cQ 2 [] (.mv (.k (.z 1)))), (cI 3 0)]) (.keep [1,18] (.seq (.seq (.reg false [(cLd 7 1 true 2), (cQ 8 [7] (.call (kF 74) [(.t 7)])), (cMv 4 8)]) (.keep [1,4,18] (.seq (.reg false [(cMv 9 4), (cC 10 .neq 9 0)]) (.keep [1,4,10,18] (.cond (.t 10) (.seq (.reg false [(cMv 11 4), (cQ 2 [] (.mv (.k (.z 1)))), (cMv 3 11)]) .ret) .skip))))) (.keep [1,18] (.seq (.reg false [(cFa 12 1 1), (cLd 13 12 false 1), (cLn 14 13), (cQ 15 [14] (.call (kF 78) [(.t 14)])), ⟨(some 5), none, [], none, .w (.alc [(.z 1)])⟩, ⟨none, none, [5,15], none, .w (.st 1 (.t 5) (.t 15))⟩]) (.keep [1,5,18] (.seq (.seq (.reg false [(cLd 16 1 true 2), (cQ 17 [16] (.call (kF 81) [(.t 16)]))]) (.keep [1,5,17,18] (.block 0 (.rfh (.t 17) [18] 2 1 (.reg false [(cMv 6 18)]) (.block 1 (.seq (.any false 0 [⟨(cLd 19 1 true 2), [], []⟩, ⟨(cMv 20 6), [], []⟩, ⟨(cQ 21 [19,20] (.call (kF 79) [(.t 19), (.t 20)])), [], [0,1]⟩, ⟨(cLd 22 1 true 2), [], []⟩, ⟨(cLd 23 5 false 1), [], []⟩, ⟨(cQ 24 [22,23] (.call (kF 79) [(.t 22), (.t 23)])), [], [3,4,2,0,1]⟩, ⟨(cB 25 .lss 21 24), [], [2,0,1,5,3,4]⟩]) (.keep [5,6,25] (.cond (.t 25) (.reg false [(cMv 26 6), ⟨(some 27), none, [26], none, .o (kF 69) [(.t 26)]⟩, ⟨none, none, [5,27], none, .w (.st 1 (.t 5) (.t 27))⟩]) .skip)))))))) (.keep [5] (.seq (.reg false [(cLd 28 5 false 1), (cMv 2 28), (cI 3 0)]) .ret))))))))))
def pu55 : List Nat := [1000027,1]
def rs55 : List RV := [.t 2, .t 3]
theorem cc55 : CCx Try.prog Try.f55 pu55 rc55 := by unfold CCx; kernel_rfl
theorem cb55 : CBx Try.f55 := by unfold CBx; kernel_rfl
theorem cs55 : CSx Try.prog Try.f55 rs55 := by unfold CSx; kernel_rfl
theorem cn55 : 1 ≤ Try.f55.ntmps := by decide
def rc51 : RC := (.seq (.reg false [(cX 1 0), (cI 2 0), (cI 3 0)]) (.keep [1] (.seq (.reg false [(cLd 7 1 true 2), (cQ 8 [7] (.call (kF 55) [(.t 7)])), (cMv 6 8), (cEx 9 6 0), (cEx 10 6 1), (cMv 4 9), (cMv 5 10)]) (.keep [1,4,5] (.seq (.seq (.reg false [(cMv 11 5), (cC 12 .neq 11 0)]) (.keep [1,4,5,12] (.cond (.t 12) (.seq (.reg false [(cMv 13 5), (cI 2 0), (cMv 3 13)]) .ret) .skip))) (.keep [1,4] (.seq (.reg false [(cLd 14 1 true 2), (cMv 15 4), (cQ 16 [14,15] (.call (kF 79) [(.t 14), (.t 15)])), (cMv 2 16), (cI 3 0)]) .ret)))))))
def pu51 : List Nat := [1]
def rs51 : List RV := [.t 2, .t 3]
theorem cc51 : CCx Try.prog Try.f51 pu51 rc51 := by unfold CCx; kernel_rfl
theorem cb51 : CBx Try.f51 := by unfold CBx; kernel_rfl
theorem cs51 : CSx Try.prog Try.f51 rs51 := by unfold CSx; kernel_rfl
theorem cn51 : 1 ≤ Try.f51.ntmps := by decide
end Go.C06
set_option linter.unusedSimpArgs false
set_option linter.unusedVariables false
namespace Go.C06
open Go.Fam Go.Proofs
variable {Γ : Gam}
theorem Qvj (n lo hi : Int)  : H19 72 [.i n, .i lo, .i hi] = (True, .b (Qan n lo hi)) := h72 n lo hi
def Qcf (b : Boil) : Bool := Qan b.soak 0 999 && Qan b.bend 0 999
theorem W92 (b : Boil) : Qah Try.prog 92 [.ag (eBoil b)] (.b (!Qcf b)) := by
 refine Qag Qug hmix Try.func92 cb92 cc92 cs92 cn92 ?_
 simp only [rc92, rs92, Qvj, Qa7, Qa8, Qac, Qa6, Qad, Qa4, Qa1, Fam.step, Qaf, Qb9, Qaz, ug, evO, opv, qv, Qak, ldV, Qar, V.cells, Qaq, Qaa, Qa5, flat, Qa2, Qa0, Qa3, ↓reduceIte, Nat.reduceEqDiff, Nat.reduceAdd, Nat.reduceLT, Nat.reduceLeDiff, Qa, Qb, Qv, Qs, Qf, Qg, Qj, Qr, Qq, Qk, endQ, rvs, rv1, resV, vw_i, vw_b, Qaw, zipA, Qi, V.b.injEq, Qp, Qt, Qo, Qc, true_and, and_true, and_self, implies_true, beq_false, Xl, Zq, Q7, Qje, Z3, imp_self, eBoil]
 unfold Qcf
 by_cases h : Qan b.soak 0 999 = true <;> simp [h]
def eO1 (b : Boil) : List V := [.ag (eBoil b)]
def dO1 : List V → Boil | [.ag s] => Qpl s | _ => Qpl []
noncomputable def H20 : Gam := H19.ext 92 (fnG eO1 dO1 (fun _ => True) (fun b => !Qcf b) .b)
theorem Qxa : GOk Try.prog H20 := Qug.ext (f := 92) (fun a w => Try.call92 a w) (Qb0 fun a _ => W92 a)
theorem h92 (b : Boil) : H20 92 [.ag (eBoil b)] = (True, .b (!Qcf b)) :=
 (show H20 92 _ = fnG eO1 dO1 (fun _ => True) (fun b => !Qcf b) .b (eO1 b) from rfl).trans (Qb6 _ rfl)
theorem P103 (hG : GOk Try.prog Γ) (l : List Boil) (f : Nat) (hf : f < 1000000) (caps : List V) (p : Boil → Bool) (hv : caps.map (vw [] 8) = caps) (hr : Qa5 caps = false) (hl : l.length < 10000000)
  (h : ∀ x ∈ l, Γ f (V.ag (eBoil x) :: caps) = (True, .b (p x))) : Qah Try.prog 103 [.sl 2 (l.map eBoil), .fn f caps] (.i (idxOf p l)) := by
 refine Qag hG hmix Try.func103 cb103 cc103 cs103 cn103 ?_
 simp only [rc103, rs103, Qa7, Qa8, Qab, Qa6, Qad, Qa4, Qa1, Fam.step, Qaf, evO, opv, qv, lenV, Qa2, Qa0, Qa3, ↓reduceIte, Nat.reduceEqDiff, Int.reduceNeg, Qa, Qb, zipA, Qi, true_and, reduceCtorEq, Qy]
 refine Qc5 l.length (fun i => ⟨lkp [(0, .sl 2 (l.map eBoil)), (1, .fn f caps), (7, .i l.length), (8, .i i)], []⟩) (fun i => ∀ j x, j < i → l[j]? = some x → p x = false) ?_ ?_ ?_ ?_
 ·simp only [Zf, kp, Qa0, Qa3, ↓reduceIte, Nat.reduceEqDiff, Qa, Qb, reduceCtorEq]
 ·intro j x h; omega
 ·intro i hi hc
  obtain ⟨x, hx⟩ : ∃ x, l[i]? = some x := ⟨_, Q4 hi⟩
  have hlt : (i : Int) < l.length := by omega
  have h3 : inI ((i : Int) + 1) := by unfold inI; omega
  have hp := h x (Zc hx)
  try simp only [eBoil] at hp
  simp only [hx, hlt, Zi, Zj, h3, hp, hv, hr, hf, Qaj, Qa7, Qa8, Qai, Qc3, Qab, Qac, Qa6, Qad, Qal, Qa4, Qa1, Fam.step, Qaf, evO, opv, qv, binV, ldV, iadV, Qar, Qaa, Qa5, flat, kp, Qa2, Qa0, Qa3, ↓reduceIte, Nat.reduceEqDiff, Nat.reduceAdd, Nat.reduceLeDiff, Int.reduceNeg, Qa, Qb, Qf, Qg, Qh, Qx, Qn, Qm, Q8, endQ, rvs, rv1, resV, vw_i, Qaw, Zb, Qi, V.i.injEq, Qo, Qc, decide_true, true_and, and_true, and_self, implies_true, reduceCtorEq, Zh, Qy, Qz, Qd, Zg, Zo, eBoil]
  refine ⟨fun e => ?_, fun e => ?_⟩
  ·rw [Qk8 hx e hc]
  ·intro j y hj hy
   by_cases hji : j < i
   ·exact hc j y hji hy
   ·have : j = i := by omega
    subst this
    rw [hx] at hy; cases hy; exact e
 ·intro hc
  simp only [Qa7, Qa8, Qai, Qat, Qac, Qa6, Qad, Qal, Qa4, Qa1, Fam.step, Qaf, evO, opv, qv, binV, Qa2, Qa0, Qa3, ↓reduceIte, Nat.reduceEqDiff, Int.reduceNeg, Qa, Qb, endQ, rvs, rv1, resV, vw_i, Zl, V.i.injEq, Qc, decide_false, true_and, and_self, reduceCtorEq]
  exact (Qhb fun x hx => by
   obtain ⟨j, hj⟩ := Z0 hx
   exact hc j x (by have := Qam hj; exact this) hj).symm
def eOs (l : List Boil) : List V := [.sl 2 (l.map eBoil), .fn 92 []]
def dOs : List V → List Boil | [.sl _ l, _] => l.map Qpl | _ => []
theorem Qwv (l : List Boil) : dOs (eOs l) = l := by simp [dOs, eOs, Function.comp_def, Qpm]
noncomputable def H21 : Gam := H20.ext 103 (fnG eOs dOs (fun l => l.length < 10000000) (idxOf fun b => !Qcf b) .i)
theorem Qxb : GOk Try.prog H21 := Qxa.ext (f := 103) (fun a w => Try.call103 a w) (Qb0 fun l h => P103 Qxa l 92 (by decide) [] _ rfl rfl h fun b _ => h92 b)
theorem h103 (l : List Boil) : H21 103 [.sl 2 (l.map eBoil), .fn 92 []] = (l.length < 10000000, .i (idxOf (fun b => !Qcf b) l)) :=
 (show H21 103 _ = fnG eOs dOs (fun l => l.length < 10000000) (idxOf fun b => !Qcf b) .i (eOs l) from rfl).trans (Qb6 _ (Qwv _))
theorem W93 (l : List Boil) (h : l.length < 10000000) : Qah Try.prog 93 [.sl 2 (l.map eBoil), .fn 92 []] (.b (l.any fun b => !Qcf b)) := by
 refine Qag Qxb hmix Try.func93 cb93 cc93 cs93 cn93 ?_
 simp only [rc93, rs93, h103, Qa7, Qa8, Qac, Qa6, Qad, Qa4, Qa1, Fam.step, Qaf, evO, opv, qv, binV, Qar, Qaa, Qa5, flat, Qa2, Qa0, Qa3, ↓reduceIte, Nat.reduceEqDiff, Nat.reduceLT, Qa, Qb, Qk, endQ, rvs, rv1, resV, vw_b, Qax, Qh4, zipA, Qi, V.b.injEq, Qo, Qc, true_and, and_true, and_self, implies_true, reduceCtorEq]
 exact ⟨h, by rw [Qip]⟩
noncomputable def H22 : Gam := H21.ext 93 (fnG eOs dOs (fun l => l.length < 10000000) (fun l => l.any fun b => !Qcf b) .b)
theorem Qqo : GOk Try.prog H22 := Qxb.ext (f := 93) (fun a w => Try.call93 a w) (Qb0 fun l h => W93 l h)
theorem h93 (l : List Boil) : H22 93 [.sl 2 (l.map eBoil), .fn 92 []] = (l.length < 10000000, .b (l.any fun b => !Qcf b)) :=
 (show H22 93 _ = fnG eOs dOs (fun l => l.length < 10000000) (fun l => l.any fun b => !Qcf b) .b (eOs l) from rfl).trans (Qb6 _ (Qwv _))
theorem Qvk (n lo hi : Int)  : H22 72 [.i n, .i lo, .i hi] = (True, .b (Qan n lo hi)) := h72 n lo hi
def Qs7 (s : Box) : Bool := Qan s.room 1 7 && decide ((s.boils.length : Int) ≤ 7) && !(s.boils.any fun b => !Qcf b)
def boxE (s : Box) : Int := if Qs7 s = true then 0 else 62
theorem W74 (s : Box) : Qah Try.prog 74 [.ag (eBox s)] (.i (boxE s)) := by
 refine Qag Qqo hmix Try.func74 cb74 cc74 cs74 cn74 ?_
 simp only [rc74, rs74, Qvk, h93, Qaj, Qa7, Qa8, Qai, Qc3, Qac, Qa6, Qad, Qa4, Qa1, Fam.step, Qaf, Qb9, Qaz, ug, evO, opv, qv, Qak, binV, ldV, lenV, Qar, V.cells, Qaq, Qaa, Qa5, flat, Qa2, Qa0, Qa3, ↓reduceIte, Nat.reduceEqDiff, Nat.reduceAdd, Nat.reduceLT, Nat.reduceLeDiff, Qa, Qb, Qv, Qs, Qf, Qg, Qj, Qr, Qq, Qk, endQ, rvs, rv1, resV, vw_i, Qax, Qaw, Qh4, zipA, Qi, V.i.injEq, Qp, Qt, Qo, Qc, true_and, and_true, and_self, implies_true, beq_false, Xl, Zq, Q7, Qje, Zw, Z3, imp_self, Qy, Zo, eBox]
 unfold boxE Qs7
 by_cases h1 : Qan s.room 1 7 = true
 ·by_cases h2 : (7 : Int) < s.boils.length
  ·have h3 : ¬ (s.boils.length : Int) ≤ 7 := by omega
   simp [h1, h2, h3]
  ·have h3 : (s.boils.length : Int) ≤ 7 := by omega
   have h4 : s.boils.length < 10000000 := by omega
   by_cases h5 : (s.boils.any fun b => !Qcf b) = true <;> simp [h1, h2, h3, h4, h5]
 ·simp [h1]
structure OkX (s : Box) : Prop where
 room : 1 ≤ s.room ∧ s.room ≤ 7
 len : s.boils.length ≤ 7
 boil : ∀ b ∈ s.boils, (0 ≤ b.soak ∧ b.soak ≤ 999) ∧ 0 ≤ b.bend ∧ b.bend ≤ 999
theorem Qgj {s : Box} : boxE s = 0 ↔ OkX s := by
 have e : boxE s = 0 ↔ Qs7 s = true := by unfold boxE; split <;> simp_all
 rw [e]
 unfold Qs7
 simp only [Zp, decide_eq_true_eq, Q7, Z9, Xa, Qcf, Qan]
 constructor
 ·rintro ⟨⟨h1, h2⟩, h3⟩
  exact ⟨h1, by omega, fun b hb => by simpa using h3 b hb⟩
 ·rintro ⟨h1, h2, h3⟩
  exact ⟨⟨h1, by omega⟩, fun b hb => by simpa using h3 b hb⟩
def Qbr (n : Nat) : List Int := (Z7 n).map fun (i : Nat) => (i : Int)
theorem Qnb (l : List Int) : (l.map eI).flatten = l.map V.i := by
 induction l with
 | nil => rfl
 | cons x l ih => simp [eI] at ih ⊢; exact ih
theorem hdD (l : List Int) (k : Nat) (h : k < l.length) : ((l.map V.i).drop k).headD .u = .i (l.getD k 0) := by
 rw [List.headD_eq_head?_getD, List.head?_drop, Zg, Q4 h, Qd, Q4 h]; rfl
theorem putI (l : List Int) (k : Nat) (x : Int) (h : k < l.length) : (l.map V.i).take k ++ [V.i x] ++ (l.map V.i).drop (k + 1) = (l.set k x).map V.i := by
 have := Qqu k (.i x) (l.map V.i) (by simpa using h)
 rw [List.map_set, ← this]; rfl
theorem Qn4 (l : List Int) : Qcm 1 (l.map V.i) 0 l.length = l.map eI := by rw [← Qnb]; exact Qid l
theorem Qek (l : List Int) : Qa5 (l.map V.i) = false := by rw [← Qnb]; exact Qix l
def Qez (n k : Nat) : List Int := (Z7 n).map fun (i : Nat) => if i < k then (i : Int) else 0
theorem Qlu {n k : Nat} (h : k < n) : (Qez n k).set k (k : Int) = Qez n (k + 1) := by
 apply Xp (by simp [Qez])
 intro i h1 h2
 simp only [Qez, List.getElem_set, List.getElem_map, List.getElem_range]
 by_cases e : k = i
 ·subst e; simp
 ·rw [if_neg e]
  by_cases h : i < k
  ·rw [if_pos h, if_pos (by omega)]
  ·rw [if_neg h, if_neg (by omega)]
theorem Qqk (n : Nat) : (Qez n 0).map V.i = (List.replicate n [V.i 0]).flatten := by
 induction n with
 | zero => rfl
 | succ n ih =>
  rw [List.replicate_succ', List.flatten_append, ← ih]
  simp [Qez, List.range_succ]
theorem Qql (n : Nat) : Qez n n = Qbr n := by
 unfold Qez Qbr
 apply List.map_congr_left
 intro i hi
 rw [if_pos (by simpa using hi)]
theorem W78 (n : Nat) (h : n ≤ 1000000) : Qdd Try.prog 78 [.i n] (.rf 0 0 0 n 1) [.cells 0 ((Qbr n).map V.i)] := by
 refine Qi6 Qqo hmix Try.func78 cb78 cc78 cs78 cn78 ?_
 have hn0 : (0 : Int) ≤ n := by omega
 have hn2 : (n : Int) ≤ 2147483648 := by omega
 simp only [rc78, rs78, hn0, Qz, hn2, ← Qqk, Qa7, Qa8, Qab, Qa6, Qad, Qa4, Qa1, Fam.step, Qaf, Qbu, Qav, nv, evO, opv, qv, lenV, Qa2, Qa0, Qa3, ↓reduceIte, Nat.reduceEqDiff, Qa, Qb, Qg, Qm, Qe, zipA, true_and, and_true, reduceCtorEq, Qz]
 refine ⟨Xf _, ?_⟩
 refine Qc4 n (fun k => ⟨lkp [(3, .rf 0 0 0 n 1), (8, .i n), (9, .i k)], [.cells 0 ((Qez n k).map V.i)]⟩) ?_ ?_ ?_
 ·simp only [Zf, kp, Qa0, Qa3, ↓reduceIte, Nat.reduceEqDiff, Qa, Qb]
 ·intro k hk
  have hlt : (k : Int) < n := by omega
  have h1 : inI ((k : Int) + 1) := by unfold inI; omega
  have hl : ((Qez n k).map V.i).length = n := by simp [Qez]
  have hp := putI (Qez n k) k k (by simp [Qez]; omega)
  rw [Qlu hk] at hp
  simp only [hlt, h1, hl, hp, Zu, Zi, Zj, Qaj, Qa7, Qa8, Qai, Qab, Qa6, putB, Qad, Qal, Qa4, Qa1, Fam.step, Qaf, Qbu, Qav, putB, nv, sv, evO, opv, qv, binV, iadV, putAt, V.cells, Qaq, Qb8, kp, Qa2, Qbb, Qa0, Qa3, ↓reduceIte, Nat.reduceEqDiff, Qa, Qb, Qv, Qs, Qf, Qg, Qe, Za, Zb, Qi, Qp, decide_true, true_and, and_true, and_self, Qz]
  omega
 ·simp only [Zl, Qql, Qa7, Qa8, Qai, Qat, Qac, Qa6, endO, Qad, Qal, Qa4, Qa1, Fam.step, Qaf, evO, opv, qv, binV, Qa2, Qa0, Qa3, ↓reduceIte, Nat.reduceEqDiff, Qa, Qb, rvs, rv1, resV, Zl, Qc, decide_false, and_self]
theorem W78p (n : Nat) (h : n ≤ 1000000) : Qah Try.prog 78 [.i n] (.sl 1 ((Qbr n).map eI)) := by
 refine Qag Qqo hmix Try.func78 cb78 cc78 cs78 cn78 ?_
 have hn0 : (0 : Int) ≤ n := by omega
 have hn2 : (n : Int) ≤ 2147483648 := by omega
 simp only [rc78, rs78, hn0, Qz, hn2, ← Qqk, Qa7, Qa8, Qab, Qa6, Qad, Qa4, Qa1, Fam.step, Qaf, Qbu, Qav, nv, evO, opv, qv, lenV, Qa2, Qa0, Qa3, ↓reduceIte, Nat.reduceEqDiff, Qa, Qb, Qg, Qm, Qe, zipA, true_and, and_true, reduceCtorEq, Qz]
 refine ⟨Xf _, ?_⟩
 refine Qc4 n (fun k => ⟨lkp [(3, .rf 0 0 0 n 1), (8, .i n), (9, .i k)], [.cells 0 ((Qez n k).map V.i)]⟩) ?_ ?_ ?_
 ·simp only [Zf, kp, Qa0, Qa3, ↓reduceIte, Nat.reduceEqDiff, Qa, Qb]
 ·intro k hk
  have hlt : (k : Int) < n := by omega
  have h1 : inI ((k : Int) + 1) := by unfold inI; omega
  have hl : ((Qez n k).map V.i).length = n := by simp [Qez]
  have hp := putI (Qez n k) k k (by simp [Qez]; omega)
  rw [Qlu hk] at hp
  simp only [hlt, h1, hl, hp, Zu, Zi, Zj, Qaj, Qa7, Qa8, Qai, Qab, Qa6, putB, Qad, Qal, Qa4, Qa1, Fam.step, Qaf, Qbu, Qav, putB, nv, sv, evO, opv, qv, binV, iadV, putAt, V.cells, Qaq, Qb8, kp, Qa2, Qbb, Qa0, Qa3, ↓reduceIte, Nat.reduceEqDiff, Qa, Qb, Qv, Qs, Qf, Qg, Qe, Za, Zb, Qi, Qp, decide_true, true_and, and_true, and_self, Qz]
  omega
 ·have hl : ((Qbr n).map V.i).length = n := by simp [Qbr]
  have hl2 : (Qbr n).length = n := by simp [Qbr]
  have hc := Qn4 (Qbr n)
  rw [hl2] at hc
  simp only [Zl, Qql, hl, hc, Zu, Zt, vw_I, Qa7, Qa8, Qai, Qat, Qac, Qa6, Qad, Qal, Qa4, Qa1, Fam.step, Qaf, evO, opv, qv, binV, Qa2, Qa0, Qa3, ↓reduceIte, Nat.reduceEqDiff, Qa, Qb, Qe, endQ, rvs, rv1, resV, Qfv, Zl, Qi, Qc, decide_false, and_self]
end Go.C06
set_option linter.unusedSimpArgs false
set_option linter.unusedVariables false
namespace Go.C06
open Go.Fam Go.Proofs
variable {Γ : Gam}
def Qbd (s : Box) (b : Int) : Boil := s.boils.getD b.toNat ⟨0, 0⟩
def qD (s : Box) (a : List Int) : Int := if s.room ≤ (a.length : Int) then a.getD ((a.length : Int) - s.room).toNat 0 else 0
def Qoy (s : Box) (st : List Int × Int) (b : Int) : List Int × Int :=
 (st.1 ++ [max (qD s st.1 + (Qbd s b).soak) st.2], max (qD s st.1 + (Qbd s b).soak) st.2 + (Qbd s b).bend)
def stD (s : Box) (l : List Int) : List Int × Int := l.foldl (Qoy s) ([], 0)
def Qbc (s : Box) (l : List Int) : Int := (stD s l).2
theorem Qfr (s : Box) (l : List Int) (b : Int) : stD s (l ++ [b]) = Qoy s (stD s l) b := by unfold stD; rw [Xm]; rfl
theorem Qjz {s : Box} (hs : OkX s) : ∀ l : List Int, (stD s l).1.length = l.length ∧ (∀ x ∈ (stD s l).1, 0 ≤ x ∧ x ≤ 2000 * l.length) ∧ 0 ≤ (stD s l).2 ∧ (stD s l).2 ≤ 2000 * l.length := by
 refine fun l => Qef (p := fun l => (stD s l).1.length = l.length ∧ (∀ x ∈ (stD s l).1, 0 ≤ x ∧ x ≤ 2000 * l.length) ∧ 0 ≤ (stD s l).2 ∧ (stD s l).2 ≤ 2000 * l.length) ?_ ?_ l
 ·simp [stD]
 ·rintro l b ⟨h1, h2, h3, h4⟩
  rw [Qfr]
  have hb : (0 ≤ (Qbd s b).soak ∧ (Qbd s b).soak ≤ 999) ∧ 0 ≤ (Qbd s b).bend ∧ (Qbd s b).bend ≤ 999 := by
   unfold Qbd
   rw [Qd]
   cases hx : s.boils[b.toNat]? with
   | none => simp
   | some x => exact hs.boil x (Zc hx)
  have hin : 0 ≤ qD s (stD s l).1 ∧ qD s (stD s l).1 ≤ 2000 * l.length := by
   unfold qD
   split
   ·have hr := hs.room
    exact h2 _ (Qdm (by omega))
   ·omega
  unfold Qoy
  generalize qD s (stD s l).1 = q at hin
  simp only [List.length_append, List.length_singleton, Zi, Zj]
  refine ⟨by omega, fun x hx => ?_, by omega, by omega⟩
  rcases Xs.1 hx with hx | hx
  ·have := h2 x hx; omega
  ·have : x = max (q + (Qbd s b).soak) (stD s l).2 := by simpa using hx
   omega
structure OkD (a : Box × List Int) : Prop where
 box : OkX a.1
 len : a.2.length ≤ 1000
 in_ : ∀ b ∈ a.2, 0 ≤ b ∧ b < a.1.boils.length
theorem Qk3 {s : Box} {b : Int} (h : 0 ≤ b ∧ b < s.boils.length) : s.boils[b.toNat]? = some (Qbd s b) := by
 unfold Qbd
 rw [Qd, Q4 (by omega)]; rfl
theorem W79 (s : Box) (l : List Int) (h : OkD (s, l)) : Qah Try.prog 79 [.ag (eBox s), .sl 1 (l.map eI)] (.i (Qbc s l)) := by
 refine Qag Qqo hmix Try.func79 cb79 cc79 cs79 cn79 ?_
 obtain ⟨hs, hl, hin⟩ := h
 simp only at hs hl hin
 simp only [rc79, rs79, Qa7, Qa8, Qab, Qa6, Qny, Qad, Qa4, Qa1, Fam.step, Qaf, evO, opv, qv, lenV, V.cells, Qaq, Qaa, Qa5, Qa2, Qa0, Qa3, ↓reduceIte, Nat.reduceEqDiff, Qa, Qb, Qg, Qm, vw_i, Qax, Qaw, zipA, Qi, Qo, true_and, and_self, reduceCtorEq, Qy, eBox]
 refine Qc4 l.length (fun i => ⟨lkp [(2, .pa (eBox s)), (4, .i (Qbc s (l.take i))), (5, .rf 0 i 0 i 1), (9, .sl 1 (l.map eI)), (10, .i l.length), (11, .i i)], [.cells i ((stD s (l.take i)).1.map V.i)]⟩) ?_ ?_ ?_
 ·simp only [Zf, Qbc, stD, List.foldl_nil, kp, Qa0, Qa3, ↓reduceIte, Nat.reduceEqDiff, Qa, Qb, Q2, eBox]
 ·intro i hi
  obtain ⟨b, hb⟩ : ∃ b, l[i]? = some b := ⟨_, Q4 hi⟩
  have hbi := hin b (Zc hb)
  have hbg := Qk3 hbi
  have hlt : (i : Int) < l.length := by omega
  have h1 : inI ((i : Int) + 1) := by unfold inI; omega
  obtain ⟨k1, k2, k3, k4⟩ := Qjz hs (l.take i)
  have hbo := hs.boil _ (Zc hbg)
  rw [Xq, Nat.min_eq_left (by omega)] at k1 k2 k4
  have hr := hs.room
  have hlen : ((stD s (l.take i)).1.map V.i).length = i := by simpa using k1
  obtain ⟨A, hA⟩ : ∃ A, A = (stD s (l.take i)).1 := ⟨_, rfl⟩
  obtain ⟨B, hB⟩ : ∃ B, B = Qbc s (l.take i) := ⟨_, rfl⟩
  have hB2 : (stD s (l.take i)).2 = B := hB.symm
  rw [← hA] at k1 k2 hlen ⊢
  rw [hB2] at k3 k4
  rw [← hB]
  obtain ⟨o, ho⟩ : ∃ o, o = max (qD s A + (Qbd s b).soak) B := ⟨_, rfl⟩
  have hst : stD s (l.take (i + 1)) = (A ++ [o], o + (Qbd s b).bend) := by
   rw [Qb7 hb, Qfr]
   unfold Qoy
   rw [← hA, hB2, ho]
  have hdn : Qbc s (l.take (i + 1)) = o + (Qbd s b).bend := by unfold Qbc; rw [hst]
  have happ : A.map V.i ++ [V.i o] = (A ++ [o]).map V.i := by simp
  have hd2 := hdD (A ++ [o]) i (by simp; omega)
  rw [Qf3 (by omega)] at hd2
  have hll : ((A ++ [o]).map V.i).length = i + 1 := by simp; omega
  have hfl : Qbj (i + 1) := by unfold Qbj; omega
  have hq : 0 ≤ qD s A ∧ qD s A ≤ 2000 * i := by
   unfold qD
   rw [k1]
   split
   ·exact k2 _ (Qdm (by omega))
   ·omega
  have h2 : inI (qD s A + (Qbd s b).soak) ∧ inI (o + (Qbd s b).bend) := by unfold inI; omega
  have i3 : (i : Int) < ((i + 1 : Nat) : Int) := by omega
  by_cases hrm : s.room ≤ (i : Int)
  ·obtain ⟨k, hk⟩ : ∃ k : Nat, k = ((i : Int) - s.room).toNat := ⟨_, rfl⟩
   have e1 : (i : Int) - s.room = (k : Int) := by omega
   have hkl : k < A.length := by omega
   have hqe : qD s A = A.getD k 0 := by unfold qD; rw [k1, if_pos hrm, hk]
   have hd1 := hdD A k hkl
   rw [← hqe] at hd1
   have i4 : inI (k : Int) ∧ (k : Int) < i ∧ k + 1 ≤ i := by unfold inI; omega
   simp only [hb, hlt, h1, hbg, hrm, hlen, Zu, e1, hd1, i4, h2, ← ho, Xn, Xr, happ, hd2, hll, hfl, hst, hdn, hbi, Zi, Zj, Zt, Qaj, Qa7, Qb5, Qa8, Qai, Qab, Qa6, Qdt, Qb2, putB, Qad, Qal, Qa4, Qa1, Fam.step, Qaf, Qbu, Qav, runX, eff, Qb1, fpR, fpQ, fpV, Qbi, hits, putB, nv, sv, Qcl, evO, opv, qv, binV, ldV, iadV, Qap, putAt, Qba, Qbg, V.cells, Qaq, Qb8, Qaa, Qa5, kp, Qa2, Qa0, Qa3, ↓reduceIte, Nat.reduceEqDiff, Nat.reduceAdd, Nat.reduceLeDiff, Qa, Qb, Qv, Qs, Qf, Qg, Qj, Qr, Zn, Qh, Q2, Qx, Qq, Qn, Qm, Qk, Qe, Qu, Q8, Q1, Za, Qw, Xh, Q3, vw_i, Zb, Qi, Qp, Qt, Q6, Qo, Q9, Q5, Qc, decide_true, true_and, and_true, and_self, reduceCtorEq, not_false_eq_true, ne_eq, Zh, Ze, Zd, Q0, Qy, Qz, Qd, Zg, eBoil, eBox, eI]
   omega
  ·have hqe : qD s A = 0 := by unfold qD; rw [k1, if_neg hrm]
   rw [hqe] at ho h2
   simp only [hb, hlt, h1, hbg, hrm, hlen, Zu, h2, ← ho, Xn, Xr, happ, hd2, hll, hfl, hst, hdn, hbi, Zi, Zj, Zt, Qaj, Qa7, Qb5, Qa8, Qai, Qab, Qa6, Qdt, Qb2, putB, Qad, Qal, Qa4, Qa1, Fam.step, Qaf, Qbu, Qav, runX, eff, Qb1, fpR, fpQ, fpV, Qbi, hits, putB, nv, sv, Qcl, evO, opv, qv, binV, ldV, iadV, Qap, putAt, Qba, Qbg, V.cells, Qaq, Qb8, Qaa, Qa5, kp, Qa2, Qa0, Qa3, ↓reduceIte, Nat.reduceEqDiff, Nat.reduceAdd, Nat.reduceLeDiff, Qa, Qb, Qv, Qs, Qf, Qg, Qj, Qr, Zn, Qh, Q2, Qx, Qq, Qn, Qm, Qk, Qe, Qu, Q8, Q1, Za, Qw, Xh, Q3, vw_i, Zb, Qi, Qp, Qt, Q6, Qo, Q9, Q5, Qc, decide_true, decide_false, true_and, and_true, and_self, reduceCtorEq, not_false_eq_true, ne_eq, Zh, Ze, Zd, Q0, Qy, Qz, Qd, Zg, eBoil, eBox, eI]
   omega
 ·simp only [Zl, Zs, Qa7, Qa8, Qai, Qat, Qac, Qa6, Qad, Qal, Qa4, Qa1, Fam.step, Qaf, evO, opv, qv, binV, Qa2, Qa0, Qa3, ↓reduceIte, Nat.reduceEqDiff, Qa, Qb, endQ, rvs, rv1, resV, vw_i, Zl, Qc, decide_false, and_self, eBox]
def eXL (a : Box × List Int) : List V := [.ag (eBox a.1), .sl 1 (a.2.map eI)]
def dXL : List V → Box × List Int | [.ag s, .sl _ l] => (dBox s, l.map dI) | _ => (dBox [], [])
theorem Qo9 (a : Box × List Int) : dXL (eXL a) = a := by obtain ⟨s, l⟩ := a; simp [dXL, eXL, Qt5, Function.comp_def, Qg3]
def eX1 (s : Box) : List V := [.ag (eBox s)]
def dX1 : List V → Box | [.ag s] => dBox s | _ => dBox []
theorem Qk4 (s : Box) : dX1 (eX1 s) = s := by simp [dX1, eX1, Qt5]
def s78 : List V → Prop × V | [.i n] => (0 ≤ n ∧ n ≤ 1000000, .sl 1 ((Qbr n.toNat).map eI)) | _ => (False, .u)
def o78 : List V → Prop × V | [.i n] => (0 ≤ n ∧ n ≤ 1000000, .tp [.rf 0 0 0 n.toNat 1, .tp [bV (.cells 0 ((Qbr n.toNat).map V.i))]]) | _ => (False, .u)
noncomputable def H23 : Gam := (((H22.ext 79 (fnG eXL dXL OkD (fun a => Qbc a.1 a.2) .i)).ext 74 (fnG eX1 dX1 (fun _ => True) boxE .i)).ext 78 s78).ext 1000078 o78
theorem Qs9 : GOk Try.prog H23 := by
 have k1 := Qqo.ext (f := 79) (fun a w => Try.call79 a w) (Qb0 (e := eXL) (d := dXL) (ok := OkD) (g := fun a => Qbc a.1 a.2) (eb := .i) fun a h => W79 a.1 a.2 h)
 have k2 := k1.ext (f := 74) (fun a w => Try.call74 a w) (Qb0 (e := eX1) (d := dX1) (ok := fun _ => True) (g := boxE) (eb := .i) fun a h => W74 a)
 have k3 := k2.ext (f := 78) (r := s78) (fun a w => Try.call78 a w) fun vs h => by
  unfold s78 at h ⊢
  split at h
  ·rename_i n
   have := W78p n.toNat (by omega)
   rw [show (n.toNat : Int) = n by omega] at this
   exact this
  ·exact h.elim
 refine k3.extO (f := 78) (r := o78) (fun a w => Try.call78 a w) fun vs v bs h1 h2 => ?_
 unfold o78 at h1 h2
 split at h1
 ·rename_i n
  simp only [V.tp.injEq, List.cons.injEq, and_true] at h2
  rw [← h2.1, ← h2.2]
  have := W78 n.toNat (by omega)
  rw [show (n.toNat : Int) = n by omega] at this
  simpa only [Qa, Qb, Qao] using this
 ·exact h1.elim
theorem h79 (s : Box) (l : List Int) : H23 79 [.ag (eBox s), .sl 1 (l.map eI)] = (OkD (s, l), .i (Qbc s l)) :=
 (show H23 79 _ = fnG eXL dXL OkD (fun a => Qbc a.1 a.2) .i (eXL (s, l)) from rfl).trans (Qb6 _ (Qo9 _))
theorem h74 (s : Box) : H23 74 [.ag (eBox s)] = (True, .i (boxE s)) := (show H23 74 _ = fnG eX1 dX1 (fun _ => True) boxE .i (eX1 s) from rfl).trans (Qb6 _ (Qk4 _))
theorem h78 (n : Int) : H23 78 [.i n] = (0 ≤ n ∧ n ≤ 1000000, .sl 1 ((Qbr n.toNat).map eI)) := rfl
theorem h78o (n : Int) : H23 1000078 [.i n] = (0 ≤ n ∧ n ≤ 1000000, .tp [.rf 0 0 0 n.toNat 1, .tp [bV (.cells 0 ((Qbr n.toNat).map V.i))]]) := rfl
end Go.C06
set_option linter.unusedSimpArgs false
set_option linter.unusedVariables false
namespace Go.C06
open Go.Fam Go.Proofs
variable {Γ : Gam}
def Qeo (L : List Int) (i j : Nat) : List Int := (L.set i (L.getD j 0)).set j (L.getD i 0)
theorem Qcq (L : List Int) (i j : Nat) : (Qeo L i j).length = L.length := by simp [Qeo]
theorem Qfa (L : List Int) {i j k : Nat} (hi : i < L.length) (hj : j < L.length) : (Qeo L i j).getD k 0 = if k = j then L.getD i 0 else if k = i then L.getD j 0 else L.getD k 0 := by
 unfold Qeo
 simp only [Qd, List.getElem?_set, List.length_set]
 by_cases e : j = k
 ·subst e; simp [hj]
 ·rw [if_neg e, if_neg (Ne.symm e)]
  by_cases e2 : i = k
  ·subst e2; simp [hi]
  ·rw [if_neg e2, if_neg (Ne.symm e2)]
theorem Qmw (L : List Int) {i j : Nat} (hi : i < L.length) (hj : j < L.length) : Qeo (Qeo L i j) i j = L := by
 apply Xp (by simp [Qcq])
 intro k h1 h2
 have e : ∀ (M : List Int) (h : k < M.length), M[k] = M.getD k 0 := fun M h => by rw [Qd, Q4 h]; rfl
 rw [e _ h1, e _ h2, Qfa _ (by rw [Qcq]; exact hi) (by rw [Qcq]; exact hj), Qfa _ hi hj, Qfa _ hi hj, Qfa _ hi hj]
 by_cases e1 : k = j
 ·subst e1
  simp only [if_true]
  by_cases e2 : i = k
  ·subst e2; simp
  ·rw [if_neg e2]
 ·rw [if_neg e1]
  by_cases e2 : k = i
  ·subst e2; simp
  ·rw [if_neg e2, if_neg e1, if_neg e2]
def Qf6 : Nat → List Int → Nat → List (List Int)
 | 0, L, _ => [L]
 | k + 1, L, f => (Z7 (k + 1)).flatMap fun i => Qf6 k (Qeo L f (f + i)) (f + 1)
structure D97 where
 L : List Int
 f : Nat
 caps : List V
 rest : List (List V)
 b0 : V
 l : Nat
def encO (n : Nat) (p : List Int) : List V := gyE [.rf 2 0 0 n 1] [bV (.cells 0 (p.map V.i))]
def eA97 (x : D97) : List V := [.rf 2 0 0 x.L.length 1, .i x.f, .yl x.l]
def eH97 (x : D97) : List Blk := [.gh x.caps (some ((.b true :: [x.b0]) :: ((Qf6 (x.L.length - x.f) x.L x.f).map (encO x.L.length) ++ x.rest))), vB x.b0, .cells 0 (x.L.map V.i)]
def Qrx (xs : List V) (hp : List Blk) : D97 := match xs, hp with
 | [_, .i f, .yl l], [.gh caps (some ([_, b0] :: ys)), _, .cells _ cs] => ⟨cs.map gI, f.toNat, caps, ys.drop (Qf6 ((cs.map gI).length - f.toNat) (cs.map gI) f.toNat).length, b0, l⟩
 | _, _ => ⟨[], 0, [], [], .u, 0⟩
theorem Qt8 (L : List Int) : (L.map V.i).map gI = L := by
 rw [Xj]
 exact List.map_id'' (fun _ => rfl) L
theorem Qu1 (x : D97) : Qrx (eA97 x) (eH97 x) = x := by
 obtain ⟨L, f, caps, rest, b0, l⟩ := x
 simp only [Qrx, eA97, eH97, Qt8, Qz]
 rw [List.drop_append_of_le_length (by simp)]
 simp
structure C97 (k : Nat) (al : List V → Prop) (x : D97) : Prop where
 y : x.caps[0]? = some (.yl x.l)
 f : x.f ≤ x.L.length
 k : x.L.length - x.f < k
 len : x.L.length ≤ 1000
 now : al [x.b0]
 one : ∀ bv, al bv → ∃ b, bv = [b]
def R97 (al : List V → Prop) (x : D97) (r : V) (hp : List Blk) : Prop :=
 ∃ (b : Bool) (b0 : V), al [b0] ∧ r = .b b ∧ hp = [.gh x.caps (some ((.b b :: [b0]) :: if b then x.rest else [])), vB b0, .cells 0 (x.L.map V.i)]
noncomputable def HQ (k : Nat) : Gam := H23.extY 97 fun al => hpG eA97 eH97 Qrx (C97 k al) (R97 al)
theorem kQ (k : Nat) (al : List V → Prop) (x : D97) : ((HQ k).wal al).y 97 al (eA97 x) (eH97 x) = (C97 k al x, R97 al x) :=
 (show ((HQ k).wal al).y 97 al _ _ = hpG eA97 eH97 Qrx (C97 k al) (R97 al) _ _ from rfl).trans (Qll x (Qu1 x))
set_option maxHeartbeats 1000000 in
theorem W97 (k : Nat) (hG : GOk Try.prog (HQ k)) (al : List V → Prop) (x : D97) (h : C97 (k + 1) al x) : Qia Try.prog 97 al (eA97 x) (eH97 x) (R97 al x) := by
 refine Qjc (hG.wal al) hmix Try.func97 cb97 (lo := 3) cc97 cs97 (by exact cn97) (by rfl) (by decide) ?_
 obtain ⟨L, f, caps, rest, b0, l⟩ := x
 obtain ⟨hy, hf, hk, hlen, hal, hone⟩ := h
 simp only at hy hf hk hlen hal
 have hyal : ((HQ k).wal al).al = al := rfl
 obtain ⟨n, hn⟩ : ∃ n, n = L.length := ⟨_, rfl⟩
 have hlI : (L.map V.i).length = n := by simp [hn]
 by_cases hfn : f = n
 ·have e0 : (f : Int) = (n : Int) := by omega
  have ey : Qf6 (n - f) L f = [L] := by rw [hfn, Nat.sub_self]; rfl
  simp only [rc97, rs97, eA97, eH97, ← hn, e0, ey, encO, hy, hyal, Qao, Qa7, Qa8, Qai, Qac, Qa6, Qnz, yres, Qao, endK, Qad, Qa4, Qa1, Fam.step, Qaf, Qav, Qaz, evO, opv, qv, binV, lenV, Qa2, Qa0, Qa3, ↓reduceIte, Nat.reduceEqDiff, Nat.reduceAdd, Qa, Qb, Qn, Qm, Qe, Ql, rvs, rv1, resV, zipA, Qi, decide_true, true_and, and_self, reduceCtorEq]
  intro b bv' hbv
  obtain ⟨b', rfl⟩ := hone bv' hbv
  refine ⟨b, b', hbv, rfl, ?_⟩
  simp [Qao]
 ·have e0 : ¬ (f : Int) = (n : Int) := by omega
  simp only [rc97, rs97, eA97, eH97, ← hn, e0, Qaj, Qa7, Qa8, Qai, Qab, Qa6, Qad, Qa4, Qa1, Fam.step, Qaf, evO, opv, qv, binV, lenV, Qa2, Qa0, Qa3, ↓reduceIte, Nat.reduceEqDiff, Nat.reduceAdd, Qa, Qb, Qe, Ql, rv1, resV, zipA, Qi, Qc, decide_false, true_and, reduceCtorEq]
  obtain ⟨K, hK⟩ : ∃ K, n - f = K + 1 := ⟨n - f - 1, by omega⟩
  obtain ⟨rem, hrem⟩ : ∃ rem : Nat → List (List Int), rem = fun j => ((Z7 (K + 1)).drop j).flatMap fun i => Qf6 K (Qeo L f (f + i)) (f + 1) := ⟨_, rfl⟩
  have hr0 : Qf6 (n - f) L f = rem 0 := by rw [hK, hrem]; rfl
  have hrs : ∀ j, j < K + 1 → rem j = Qf6 K (Qeo L f (f + j)) (f + 1) ++ rem (j + 1) := by
   intro j hj
   rw [hrem]
   simp only
   rw [Qih (Z5 hj), Zr]
  have hre : rem (K + 1) = [] := by
   rw [hrem]
   simp only
   rw [List.drop_eq_nil_iff.2 (by simp)]; rfl
  have hff : (f : Int) < n := by omega
  refine Qf7 (K + 1) (fun j b => ⟨lkp [(0, .rf 2 0 0 n 1), (1, .i f), (2, .yl l), (7, .i (f + j))], [.gh caps (some ((.b true :: [b]) :: ((rem j).map (encO n) ++ rest))), vB b, .cells 0 (L.map V.i)]⟩) (fun j b => al [b]) b0 ?_ hal ?_ ?_
  ·simp only [Zf, Int.add_zero, hr0, kp, Qa0, Qa3, ↓reduceIte, Nat.reduceEqDiff, Qa, Qb, reduceCtorEq]
  ·intro j b hj hb
   obtain ⟨i, hi⟩ : ∃ i, i = f + j := ⟨_, rfl⟩
   have hin : i < n := by omega
   have ei : (f : Int) + j = (i : Int) := by omega
   have hii : (i : Int) < n := by omega
   have i1 : inI ((i : Int) + 1) ∧ inI ((f : Int) + 1) := by unfold inI; omega
   obtain ⟨x, hx⟩ : ∃ x, x = L.getD i 0 := ⟨_, rfl⟩
   obtain ⟨z, hz⟩ : ∃ z, z = L.getD f 0 := ⟨_, rfl⟩
   obtain ⟨M, hM⟩ : ∃ M, M = Qeo L f i := ⟨_, rfl⟩
   have hMl : M.length = n := by rw [hM, Qcq]; exact hn.symm
   obtain ⟨x', hx'⟩ : ∃ x, x = M.getD i 0 := ⟨_, rfl⟩
   obtain ⟨z', hz'⟩ : ∃ z, z = M.getD f 0 := ⟨_, rfl⟩
   have d1 := hdD L i (by omega)
   have d2 := hdD L f (by omega)
   have d3 := hdD M i (by omega)
   have d4 := hdD M f (by omega)
   have p1 := putI L f x (by omega)
   have p2 := putI (L.set f x) i z (by simp; omega)
   have p3 := putI M f x' (by omega)
   have p4 := putI (M.set f x') i z' (by simp; omega)
   have hsw : (L.set f x).set i z = M := by rw [hx, hz, hM]; rfl
   have hsw2 : (M.set f x').set i z' = L := by
    rw [hx', hz', hM]
    exact Qmw L (by omega) (by omega)
   rw [hsw] at p2
   rw [hsw2] at p4
   rw [← hx] at d1
   rw [← hz] at d2
   rw [← hx'] at d3
   rw [← hz'] at d4
   have hl1 : ∀ M : List Int, (M.map V.i).length = M.length := fun M => by simp
   have hl3 : (L.set f x).length = n ∧ (M.set f x').length = n := by simp [hn, hMl]
   have g := kQ k al ⟨M, f + 1, caps, (rem (j + 1)).map (encO n) ++ rest, b, l⟩
   simp only [eA97, eH97, hMl] at g
   have hKf : n - (f + 1) = K := by omega
   rw [hKf, ← List.append_assoc, ← List.map_append] at g
   have hrj := hrs j hj
   rw [← hi, ← hM] at hrj
   rw [← hrj] at g
   have eN : ((f + 1 : Nat) : Int) = (f : Int) + 1 := by omega
   rw [eN] at g
   have e5 : (i : Nat) + 1 ≤ n ∧ f + 1 ≤ n := by omega
   simp only [ei, hii, hff, i1, d1, d2, p1, p2, hl1, hl3, ← hn, Zu, e5, hyal, g, Qaj, Qa7, Qb5, Qa8, Qai, Qc3, Qab, Qac, Qa6, Qra, Qb2, optL, endK, Qad, Qal, Qa4, Qa1, Fam.step, Qaf, Qav, runX, eff, Qb1, fpR, fpQ, fpV, Qbi, hits, nv, sv, evO, opv, qv, binV, ldV, iadV, lenV, putAt, V.cells, Qaq, Qb8, kp, Qa2, Qbb, Qa0, Qa3, ↓reduceIte, Nat.reduceEqDiff, Nat.reduceAdd, Nat.reduceLeDiff, Qa, Qb, Qv, Qs, Qf, Qg, Qn, Qm, Qk, Qe, Ql, Qu, Q8, Q1, Za, Zk, Qw, Q3, Zy, rvs, rv1, Zb, Qi, Qp, Qt, Zx, Q6, Qo, Xb, Q9, Q5, Qc, decide_true, true_and, and_true, and_self, reduceCtorEq, Xc, Ze, Zd, Q0, Q7, Qz, Qd, Zo]
   refine ⟨⟨hy, by show f + 1 ≤ M.length; omega, by show M.length - (f + 1) < k; omega, by show M.length ≤ 1000; omega, hb, hone⟩, ?_⟩
   rintro r hp' ⟨bb, b2, hb2, rfl, rfl⟩
   simp only [d3, d4, p3, p4, hl1, hl3, hMl, e5, Qb2, Qb8, Qv, Qs, Qf, Qg, Qe, Ql, Za, Zk, Zy, Qi, Qp, Xu, Qo, Q5, true_and, and_self, Xc, Ze, Zq, Q7]
   refine ⟨fun e => ?_, fun e => ?_⟩
   ·subst e
    exact ⟨false, b2, hb2, rfl, by simp⟩
   ·subst e
    have e6 : (i : Int) + 1 = f + ((j + 1 : Nat) : Int) := by omega
    exact ⟨b2, hb2, by simp [e6]⟩
  ·intro b hb
   have ef : (f : Int) + ((K + 1 : Nat) : Int) = n := by omega
   simp only [ef, Zl, hre, Qa7, Qa8, Qai, Qat, Qac, Qa6, endK, Qad, Qal, Qa4, Qa1, Fam.step, Qaf, evO, opv, qv, binV, lenV, Qa2, Qa0, Qa3, ↓reduceIte, Nat.reduceEqDiff, Qa, Qb, Qm, Qe, Ql, rvs, rv1, Zl, Qc, decide_false, true_and, and_self, reduceCtorEq]
   exact ⟨true, b, hb, rfl, by simp⟩
theorem okHQ : ∀ k, GOk Try.prog (HQ k) := by
 intro k
 induction k with
 | zero =>
  refine Qs9.extY (f := 97) (fun a w => Try.call97 a w) fun al => Qx2 fun x hx => ?_
  have := hx.k
  omega
 | succ k ih => exact Qs9.extY (f := 97) (fun a w => Try.call97 a w) fun al => Qx2 fun x hx => W97 k ih al x hx
def allO (n : Nat) : List (List Int) := Qf6 n (Qbr n) 0
def it96 (n : Nat) (xs : List V) (b0 : V) : List Blk := [.gh xs (some ((.b true :: [b0]) :: (allO n).map (encO n))), vB b0]
theorem W96 (al : List V → Prop) (s : Box) (l : Nat) (b0 : V) (hn : s.boils.length ≤ 1000) (hal : al [b0]) (hone : ∀ bv, al bv → ∃ b, bv = [b]) :
  Qia Try.prog 96 al [.yl l, .pa (eBox s)] (it96 s.boils.length [.yl l, .pa (eBox s)] b0) (RIt al [.yl l, .pa (eBox s)]) := by
 refine Qjc ((okHQ 1001).wal al) hmix Try.func96 cb96 (lo := 2) cc96 cs96 (by exact cn96) (by rfl) (by decide) ?_
 have g1 : ((HQ 1001).wal al) 1000078 [.i s.boils.length] = (0 ≤ (s.boils.length : Int) ∧ (s.boils.length : Int) ≤ 1000000, .tp [.rf 0 0 0 s.boils.length 1, .tp [bV (.cells 0 ((Qbr s.boils.length).map V.i))]]) := h78o s.boils.length
 have hyal : ((HQ 1001).wal al).al = al := rfl
 have hnl : (Qbr s.boils.length).length = s.boils.length := by simp [Qbr]
 have g2 := kQ 1001 al ⟨Qbr s.boils.length, 0, [.yl l, .pa (eBox s)], [], b0, l⟩
 simp only [eA97, eH97, hnl, Qk, Nat.sub_zero, Zf] at g2
 have hin : (s.boils.length : Int) ≤ 1000000 := by omega
 unfold eBox at g2
 simp only [rc96, rs96, it96, g1, hin, hyal, allO, Qdb _ _ (Qek _), g2, Qra, Qj9, ocV, nidQ, plO, plQ, plB, Qd5, Qdr, shV, shB, Qao, endK, Qa4, Qa1, Fam.step, Qaf, Qav, evO, opv, qv, ldV, lenV, Qaa, Qa5, Qa2, Qa0, ↓reduceIte, Nat.reduceEqDiff, Nat.reduceAdd, Nat.reduceLT, Nat.reduceLeDiff, Qa, Qb, Qv, Qs, Qf, Qg, Qj, Qr, Qq, Qn, Qm, Qk, rvs, rv1, resV, vw_i, zipA, Zb, Qi, Zm, Qt, Zx, Q6, Qo, Qc, true_and, and_self, reduceCtorEq, Qy, eBox]
 refine ⟨⟨rfl, Nat.zero_le _, by simp [Qbr]; omega, by simp [Qbr]; omega, hal, hone⟩, ?_⟩
 rintro r hp' ⟨b, b2, h1, rfl, rfl⟩
 exact ⟨b, [b2], if b then [] else [], [.cells 0 ((Qbr s.boils.length).map V.i)], by cases b <;> simp, by cases b <;> simp, h1⟩
theorem W81 (s : Box) : Qah Try.prog 81 [.ag (eBox s)] (.fn 96 [.pa (eBox s)]) := by
 refine Qag Qs9 hmix Try.func81 cb81 cc81 cs81 cn81 ?_
 simp only [rc81, rs81, Qa7, Qa8, Qac, Qa6, Qad, Qa4, Qa1, Fam.step, Qaf, evO, opv, qv, V.cells, Qaq, Qaa, Qa5, Qa2, Qa0, Qa3, ↓reduceIte, Nat.reduceEqDiff, Qa, Qb, endQ, rvs, rv1, resV, vw_i, Qax, Qkv, Qaw, Qh4, zipA, Qo, and_self, eBox]
def t96 (al : List V → Prop) (xs : List V) (hp : List Blk) : Prop × (V → List Blk → Prop) :=
 (∃ s l b0, s.boils.length ≤ 1000 ∧ al [b0] ∧ (∀ bv, al bv → ∃ b, bv = [b]) ∧ xs = [.yl l, .pa (eBox s)] ∧ hp = it96 s.boils.length [.yl l, .pa (eBox s)] b0, RIt al xs)
noncomputable def H24 : Gam := (H23.extY 96 t96).ext 81 (fnG eX1 dX1 (fun _ => True) (fun s => s) fun s => .fn 96 [.pa (eBox s)])
theorem Qxc : GOk Try.prog H24 := by
 refine (Qs9.extY (f := 96) (fun a w => Try.call96 a w) fun al xs hp h => ?_).ext (f := 81) (fun a w => Try.call81 a w) (Qb0 (e := eX1) (d := dX1) (ok := fun _ => True) (g := fun s => s) (eb := fun s => .fn 96 [.pa (eBox s)]) fun s _ => W81 s)
 obtain ⟨s, l, b0, h1, h2, h3, rfl, rfl⟩ := h
 exact W96 al s l b0 h1 h2 h3
theorem h81 (s : Box) : H24 81 [.ag (eBox s)] = (True, .fn 96 [.pa (eBox s)]) :=
 (show H24 81 _ = fnG eX1 dX1 (fun _ => True) (fun s => s) (fun s => .fn 96 [.pa (eBox s)]) (eX1 s) from rfl).trans (Qb6 _ (Qk4 _))
theorem hQy (al : List V → Prop) (xs : List V) (hp : List Blk) : H24.y 96 al xs hp = t96 al xs hp := rfl
theorem Qvm (s : Box)  : H24 74 [.ag (eBox s)] = (True, .i (boxE s)) := h74 s
theorem Qvn (n : Int)  : H24 78 [.i n] = (0 ≤ n ∧ n ≤ 1000000, .sl 1 ((Qbr n.toNat).map eI)) := h78 n
theorem Qsy (s : Box) (l : List Int)  : H24 79 [.ag (eBox s), .sl 1 (l.map eI)] = (OkD (s, l), .i (Qbc s l)) := h79 s l
theorem Qvl (l : List Int)  : H24 1000069 [.sl 1 (l.map eI)] = (l.length ≤ 1000000, .tp [.rf 0 1 0 l.length 1, .tp [bV (.cells 1 (l.map eI).flatten)]]) := h69 l
theorem Qqi {L : List Int} {i j : Nat} (hi : i < L.length) (hj : j < L.length) {x : Int} (h : x ∈ Qeo L i j) : x ∈ L := by
 unfold Qeo at h
 rcases Z8 h with h | rfl
 ·rcases Z8 h with h | rfl
  ·exact h
  ·exact Qdm hj
 ·exact Qdm hi
theorem Qnm : ∀ (k : Nat) (L : List Int) (f : Nat), f + k = L.length → ∀ p ∈ Qf6 k L f, p.length = L.length ∧ ∀ x ∈ p, x ∈ L
 | 0, L, f, _, p, hp => by
  have : p = L := by simpa [Qf6] using hp
  subst this
  exact ⟨rfl, fun _ h => h⟩
 | k + 1, L, f, hf, p, hp => by
  simp only [Qf6, List.mem_flatMap, Xg] at hp
  obtain ⟨i, hi, hp⟩ := hp
  obtain ⟨h1, h2⟩ := Qnm k (Qeo L f (f + i)) (f + 1) (by rw [Qcq]; omega) p hp
  rw [Qcq] at h1
  exact ⟨h1, fun x hx => Qqi (by omega) (by omega) (h2 x hx)⟩
theorem Qp9 {n : Nat} {p : List Int} (hp : p ∈ allO n) : p.length = n ∧ ∀ x ∈ p, 0 ≤ x ∧ x < n := by
 have hl : (Qbr n).length = n := by simp [Qbr]
 obtain ⟨h1, h2⟩ := Qnm n (Qbr n) 0 (by omega) p hp
 refine ⟨by omega, fun x hx => ?_⟩
 have := h2 x hx
 simp only [Qbr, List.mem_map, Xg] at this
 obtain ⟨i, hi, rfl⟩ := this
 omega
def Qev (s : Box) (k : Nat) : List Int := ((allO s.boils.length).take k).foldl (fun best p => if Qbc s p < Qbc s best then p else best) (Qbr s.boils.length)
def Qd2 (s : Box) : List Int := (allO s.boils.length).foldl (fun best p => if Qbc s p < Qbc s best then p else best) (Qbr s.boils.length)
theorem Qjl {s : Box} {k : Nat} {p : List Int} (h : (allO s.boils.length)[k]? = some p) : Qev s (k + 1) = if Qbc s p < Qbc s (Qev s k) then p else Qev s k := by
 unfold Qev
 rw [Qb7 h, Xm]; rfl
theorem Qhg (n : Nat) : (Qbr n).length = n ∧ ∀ x ∈ Qbr n, 0 ≤ x ∧ x < n := by
 refine ⟨by simp [Qbr], fun x hx => ?_⟩
 simp only [Qbr, List.mem_map, Xg] at hx
 obtain ⟨i, hi, rfl⟩ := hx
 omega
theorem Qn2 (s : Box) : ∀ k, (Qev s k).length = s.boils.length ∧ ∀ x ∈ Qev s k, 0 ≤ x ∧ x < s.boils.length := by
 intro k
 induction k with
 | zero => exact Qhg _
 | succ k ih =>
  cases hp : (allO s.boils.length)[k]? with
  | none =>
   have e : Qev s (k + 1) = Qev s k := by
    unfold Qev
    have := List.getElem?_eq_none_iff.1 hp
    rw [Xe (by omega), Xe this]
   rw [e]; exact ih
  | some p =>
   rw [Qjl hp]
   split
   ·exact Qp9 (Zc hp)
   ·exact ih
def Qcw (s : Box) : List Int × Int := if boxE s = 0 then (Qd2 s, 0) else ([], boxE s)
theorem Qso (l : List Int) : Qg1 (l.map V.i) = true := by induction l <;> simp_all [Qg1, Qd5]
set_option maxHeartbeats 1000000 in
theorem W55 (s : Box) : Qah Try.prog 55 [.ag (eBox s)] (.tp [.sl 1 ((Qcw s).1.map eI), .i (Qcw s).2]) := by
 refine Qag Qxc hmix Try.func55 cb55 cc55 cs55 cn55 ?_
 have g1 := Qvm s
 have g2 := Qvn s.boils.length
 have g3 := h81 s
 unfold eBox at g1 g3
 simp only [rc55, rs55, g1, Qaj, Qa7, Qa8, Qai, Qc3, Qab, Qac, Qa6, Qr6, putB, Qad, Qa4, Qa1, Fam.step, Qaf, Qbu, Qav, putB, nv, sv, evO, opv, qv, binV, ldV, lenV, Qar, putAt, V.cells, Qaq, Qaa, Qa5, flat, Qa2, Qbb, Qa0, Qa3, ↓reduceIte, Nat.reduceEqDiff, Nat.reduceAdd, Nat.reduceLT, Nat.reduceLeDiff, Qa, Qb, Qf, Qg, Qj, Qr, Qh, Q2, Qx, Qq, Qn, Qm, Qk, Qe, Ql, Za, Zk, endQ, rvs, rv1, resV, vw_i, vw_z, Qax, Qaw, Qci, zipA, Qi, Qo, Qc, decide_eq_false_iff_not, true_and, and_true, and_self, false_implies, implies_true, reduceCtorEq, Q7, Qy, Classical.not_not, eBox]
 refine ⟨fun h => ?_, fun h => ?_⟩
 ·simp only [Qcw, if_neg h, Qb]
 ·have hX := Qgj.1 h
  have hl7 := hX.len
  have hin : (s.boils.length : Int) ≤ 1000000 := by omega
  simp only [g2, g3, hin, Qb8, Qv, Qs, Qf, Qg, Qj, Zn, Qk, Zb, Qi, Qp, true_and, and_self, Qz]
  obtain ⟨n, hn⟩ : ∃ n, n = s.boils.length := ⟨_, rfl⟩
  refine Qtf (gf := 96) (caps := [.pa (eBox s)]) ?_ (fun bv => ∃ best : List Int, bv = [bV (.cells 0 [.sl 1 (best.map eI)])]) ((allO n).map fun p => ([.rf 2 0 0 n 1], [bV (.cells 0 (p.map V.i))])) (bv0 := [bV (.cells 0 [.sl 1 ((Qbr n).map eI)])]) ?_
   (fun k bv => bv = [bV (.cells 0 [.sl 1 ((Qev s k).map eI)])]) ?_ ?_ ?_ ?_ ?_ ?_
  ·simp only [evO, cutV, cutL, Qa0, ↓reduceIte, Nat.reduceEqDiff, eBox]
  ·simp only [Qao, cutH, hn, Qao, cutH, cutV, cutL, cutB, Qa, Qb, Qh, Qx]
  ·rw [hn]; rfl
  ·rintro k bv rfl
   exact ⟨_, rfl⟩
  ·rintro bv ⟨best, rfl⟩
   refine ⟨rfl, fun hp => ?_⟩
   simp only [Qao, Qao, cutV, cutL, cutB, Qa, Qb]
  ·intro l
   rw [hQy]
   refine ⟨⟨s, l, bV (.cells 0 [.sl 1 ((Qbr n).map eI)]), by omega, ⟨Qbr n, rfl⟩, fun bv h => ?_, rfl, ?_⟩, fun r hp' h => h⟩
   ·obtain ⟨best, rfl⟩ := h
    exact ⟨_, rfl⟩
   ·rw [Xj, ← hn]; rfl
  ·rintro k x z bv hx rfl
   rw [Zg, Xd] at hx
   obtain ⟨p, hp, he⟩ := hx
   simp only [Prod.mk.injEq] at he
   obtain ⟨rfl, rfl⟩ := he
   refine ⟨rfl, Zt _, ?_⟩
   rw [hn] at hp
   have hpi := Qp9 (Zc hp)
   have hbi := Qn2 s k
   have hbs := Qjl hp
   have g4 := Qsy s p
   have g5 := Qsy s (Qev s k)
   have g6 := Qvl p
   unfold eBox at g4 g5
   have o1 : OkD (s, p) := ⟨hX, by show p.length ≤ 1000; omega, hpi.2⟩
   have o2 : OkD (s, Qev s k) := ⟨hX, by show (Qev s k).length ≤ 1000; omega, hbi.2⟩
   have hpl : p.length = n := by omega
   have hck := Qn4 p
   rw [hpl] at hck
   have hpl2 : (p.map V.i).length = n := by simp [hpl]
   have hfl := Qnb p
   have hp6 : p.length ≤ 1000000 := by omega
   rw [hpl, hfl] at g6
   have hp6' : n ≤ 1000000 := by omega
   simp only [Qao, hpl2, Zu, Zt, hck, vw_I, g4, g5, o1, o2, g6, Qso, hp6', Qdb _ _ (Qek _), Qaj, Qa7, Qb5, Qa8, Qai, Qc3, Qab, Qa6, ↓Qc1, rnQ, updL, Qj9, ocV, nidQ, plO, plQ, plB, Qb2, Qd5, Qdr, shV, shB, Qao, putB, Qad, Qal, Qa4, Qa1, Fam.step, Qaf, Qbu, Qav, runX, eff, Qb1, fpR, fpQ, fpV, Qbi, hits, putB, nv, sv, evO, opv, qv, binV, ldV, Qar, putAt, V.cells, Qaq, Qb8, Qaa, Qa5, flat, cutV, cutL, Qa2, Qbb, Qa0, Qa3, ↓reduceIte, Nat.reduceEqDiff, Nat.reduceAdd, Nat.reduceLT, Qa, Qb, Qv, Qs, Qf, Qg, Qj, Qr, Zn, Qh, Q2, Qx, Qq, Qn, Qm, Qk, Qe, Ql, Qu, Q1, Za, Zk, Qw, Q3, vw_i, Qax, Qaw, Qfv, Qi, Zm, Qp, Qt, Q6, Xu, Qo, Bool.or_true, Q9, Q5, Qc, decide_eq_true_eq, true_and, and_self, forall_const, implies_true, Ze, Zd, Q0, Qd]
   refine ⟨fun hlt => ?_, fun hge => ?_⟩
   ·refine ⟨[bV (.cells 0 [.sl 1 (p.map eI)])], ?_, rfl, ⟨_, rfl⟩, by rw [hbs, if_pos hlt]⟩
    simp only [Qao, cutH, hpF, upB, Qea _ _ (Qek _), Qay _ _ _ (Qek _), hpl2, Zu, Zt, hck, vw_I, Qao, cutH, cutV, cutL, cutB, ↓reduceIte, Nat.reduceAdd, Nat.reduceLT, Qa, Qb, Qj, Qr, Qh, Q2, Qn, Qm, Qe, Ql, Qfv, Qi, and_self]
   ·refine ⟨[bV (.cells 0 [.sl 1 ((Qev s k).map eI)])], ?_, rfl, ⟨_, rfl⟩, by rw [hbs, if_neg hge]⟩
    simp only [Qao, cutH, Qay _ _ _ (Qek _), Qao, cutH, cutV, cutL, cutB, Nat.reduceAdd, Qa, Qb, Qh, Qx, Qn, Qm]
  ·rintro bv rfl
   have e : Qev s ((allO n).map fun p => (([.rf 2 0 0 n 1], [bV (.cells 0 (p.map V.i))]) : List V × List V)).length = Qd2 s := by
    unfold Qev Qd2
    rw [Qy, hn, Zs]
   rw [e]
   simp only [Qao, Qcw, h, Qa7, Qa8, Qac, Qa6, ↓Qc1, Qao, Qad, Qal, Qa4, Qa1, Fam.step, Qaf, evO, opv, qv, ldV, cutV, cutL, Qa2, Qa0, Qa3, ↓reduceIte, Nat.reduceEqDiff, Nat.reduceLT, Nat.reduceLeDiff, Qa, Qb, Qf, Qg, Qr, Qq, Qe, Ql, endQ, rvs, rv1, resV, vw_i, Qax, Qci, Qi, Qc, and_self]
noncomputable def H25 : Gam := H24.ext 55 (fnG eX1 dX1 (fun _ => True) Qcw fun r => .tp [.sl 1 (r.1.map eI), .i r.2])
theorem Qxd : GOk Try.prog H25 := Qxc.ext (f := 55) (fun a w => Try.call55 a w) (Qb0 (e := eX1) (d := dX1) (ok := fun _ => True) (g := Qcw) (eb := fun r => .tp [.sl 1 (r.1.map eI), .i r.2]) fun s _ => W55 s)
theorem h55 (s : Box) : H25 55 [.ag (eBox s)] = (True, .tp [.sl 1 ((Qcw s).1.map eI), .i (Qcw s).2]) :=
 (show H25 55 _ = fnG eX1 dX1 (fun _ => True) Qcw (fun r => .tp [.sl 1 (r.1.map eI), .i r.2]) (eX1 s) from rfl).trans (Qb6 _ (Qk4 _))
theorem Qvo (s : Box) (l : List Int)  : H25 79 [.ag (eBox s), .sl 1 (l.map eI)] = (OkD (s, l), .i (Qbc s l)) := h79 s l
def Qbs (s : Box) : Int × Int := if boxE s = 0 then (Qbc s (Qd2 s), 0) else (0, boxE s)
theorem Qrt (s : Box) : (Qd2 s).length = s.boils.length ∧ ∀ x ∈ Qd2 s, 0 ≤ x ∧ x < s.boils.length := by
 have e : Qev s (allO s.boils.length).length = Qd2 s := by unfold Qev Qd2; rw [Zs]
 rw [← e]; exact Qn2 s _
theorem W51 (s : Box) : Qah Try.prog 51 [.ag (eBox s)] (.tp [.i (Qbs s).1, .i (Qbs s).2]) := by
 refine Qag Qxd hmix Try.func51 cb51 cc51 cs51 cn51 ?_
 have g1 := h55 s
 have g2 := Qvo s (Qd2 s)
 unfold eBox at g1 g2
 by_cases h : boxE s = 0
 ·have hX := Qgj.1 h
  have hb := Qrt s
  have hl := hX.len
  have e1 : Qcw s = (Qd2 s, 0) := by unfold Qcw; rw [if_pos h]
  have o1 : OkD (s, Qd2 s) := ⟨hX, by show (Qd2 s).length ≤ 1000; omega, hb.2⟩
  simp only [rc51, rs51, g1, e1, g2, o1, Qbs, h, Qaj, Qa7, Qa8, Qai, Qac, Qa6, Qad, Qa4, Qa1, Fam.step, Qaf, evO, opv, qv, binV, ldV, Qar, V.cells, Qaq, Qaa, Qa5, flat, Qd3, Qa2, Qa0, Qa3, ↓reduceIte, Nat.reduceEqDiff, Nat.reduceAdd, Nat.reduceLT, Nat.reduceLeDiff, Qa, Qb, Qf, Qg, Qh, Qx, Qk, Qe, Ql, Qu, Q8, endQ, rvs, rv1, resV, vw_i, Qax, Qaw, Qci, zipA, Qi, Qp, Qt, Qo, Q9, Qc, decide_true, and_self, implies_true, imp_self, eBox]
 ·have e1 : Qcw s = ([], boxE s) := by unfold Qcw; rw [if_neg h]
  simp only [rc51, rs51, g1, e1, h, Qbs, Qa7, Qa8, Qai, Qac, Qa6, Qad, Qa4, Qa1, Fam.step, Qaf, evO, opv, qv, binV, ldV, Qar, V.cells, Qaq, Qaa, Qa5, flat, Qd3, Qa2, Qa0, Qa3, ↓reduceIte, Nat.reduceEqDiff, Nat.reduceAdd, Nat.reduceLT, Nat.reduceLeDiff, Qa, Qb, Qf, Qg, Qh, Qx, Qk, Qe, Ql, Qu, Q8, endQ, rvs, rv1, resV, vw_i, Qax, Qaw, Qci, zipA, Qi, Qp, Qt, Qo, Q5, Qc, decide_false, and_self, imp_self, eBox]
end Go.C06
set_option maxRecDepth 8000
namespace Go.C06
open Go.Fam Go.Proofs
def rc56 : RC := (.seq (.reg false [(cQ 6 [] (.mv (kB false)))]) (.keep [0,1,2] (.seq (.reg true [(cMv 7 0), (cMv 8 1), (cB 9 .geq 7 8), (cMv 10 9), (gMv 11 10 true 0), (gMv 12 10 true 2), (gQ 13 10 true [11,12] (.bin .leq (.t 11) (.t 12))), (cQ 14 [10,13] (.pick (.t 10) (.t 13) (kB false))), (cMv 6 14)]) .ret)))
def pu56 : List Nat := []
def rs56 : List RV := [.t 6]
theorem cc56 : CCx Try.prog Try.f56 pu56 rc56 := by unfold CCx; kernel_rfl
theorem cb56 : CBx Try.f56 := by unfold CBx; kernel_rfl
theorem cs56 : CSx Try.prog Try.f56 rs56 := by unfold CSx; kernel_rfl
theorem cn56 : 3 ≤ Try.f56.ntmps := by decide
def rc38 : RC := (.seq (.reg false [(cI 4 0)]) (.keep [0,1] (.seq (.reg false [(cMv 5 0), (cMv 6 1), (cB 7 .mul 5 6), (cC 8 .quo 7 1000), (cMv 4 8)]) .ret)))
def pu38 : List Nat := []
def rs38 : List RV := [.t 4]
theorem cc38 : CCx Try.prog Try.f38 pu38 rc38 := by unfold CCx; kernel_rfl
theorem cb38 : CBx Try.f38 := by unfold CBx; kernel_rfl
theorem cs38 : CSx Try.prog Try.f38 rs38 := by unfold CSx; kernel_rfl
theorem cn38 : 2 ≤ Try.f38.ntmps := by decide
def rc37 : RC := (.seq (.reg false [(cX 3 0), (cQ 6 [] (.mv (kB false)))]) (.keep [1,2,3] (.seq (.reg true [(cMv 7 1), (cC 8 .geq 7 1), (cMv 9 8), (gMv 10 9 true 1), (gQ 11 9 true [3] (.fad 4 (.t 3))), (gQ 12 9 true [11] (.ld false 1 (.t 11))), (gQ 13 9 true [3] (.fad 5 (.t 3))), (gQ 14 9 true [13] (.ld false 1 (.t 13))), (gMv 15 9 true 2), (gQ 16 9 true [14,15] (.bin .mul (.t 14) (.t 15))), (gQ 17 9 true [12,16] (.bin .sub (.t 12) (.t 16))), (gQ 18 9 true [10,17] (.bin .leq (.t 10) (.t 17))), (cQ 19 [9,18] (.pick (.t 9) (.t 18) (kB false))), (cMv 6 19)]) .ret)))
def pu37 : List Nat := [3]
def rs37 : List RV := [.t 6]
theorem cc37 : CCx Try.prog Try.f37 pu37 rc37 := by unfold CCx; kernel_rfl
theorem cb37 : CBx Try.f37 := by unfold CBx; kernel_rfl
theorem cs37 : CSx Try.prog Try.f37 rs37 := by unfold CSx; kernel_rfl
theorem cn37 : 3 ≤ Try.f37.ntmps := by decide
def rc16 : RC := (.seq (.reg false [(cX 1 0), (cI 2 0)]) (.keep [1] (.seq (.reg false [(cFa 6 1 0), (cLd 7 6 true 2), ⟨(some 3), none, [], none, .w (.alc [(.i 0), (.i 0)])⟩, ⟨none, none, [3,7], none, .w (.st 2 (.t 3) (.t 7))⟩]) (.keep [1,3] (.seq (.seq (.reg true [(cFa 8 3 0), (cLd 9 8 false 1), (cC 10 .lss 9 0), (cMv 11 10), (gQ 12 11 false [3] (.fad 0 (.t 3))), (gQ 13 11 false [12] (.ld false 1 (.t 12))), (gQ 14 11 false [3] (.fad 1 (.t 3))), (gQ 15 11 false [14] (.ld false 1 (.t 14))), (gQ 16 11 false [13,15] (.bin .gtr (.t 13) (.t 15))), (cQ 17 [11,16] (.pick (.t 11) (kB true) (.t 16))), (cMv 18 17), (gQ 19 18 false [3] (.fad 1 (.t 3))), (gQ 20 18 false [19] (.ld false 1 (.t 19))), (gQ 21 18 false [20] (.bin .gtr (.t 20) (kI 500))), (cQ 22 [18,21] (.pick (.t 18) (kB true) (.t 21))), (cMv 23 22), (gQ 24 23 false [3] (.fad 1 (.t 3))), (gQ 25 23 false [24] (.ld false 1 (.t 24))), (gQ 26 23 false [3] (.fad 0 (.t 3))), (gQ 27 23 false [26] (.ld false 1 (.t 26))), (gQ 28 23 false [25,27] (.bin .sub (.t 25) (.t 27))), (gQ 29 23 false [28] (.bin .gtr (.t 28) (kI 40))), (cQ 30 [23,29] (.pick (.t 23) (kB true) (.t 29))), (cMv 31 30), (gQ 32 31 false [1] (.fad 2 (.t 1))), (gQ 33 31 false [32] (.ld false 1 (.t 32))), (gQ 34 31 false [33] (.len (.t 33))), (gQ 35 31 false [34] (.bin .gtr (.t 34) (kI 8))), (cQ 36 [31,35] (.pick (.t 31) (kB true) (.t 35))), (cMv 37 36), (gQ 38 37 false [1] (.fad 3 (.t 1))), (gQ 39 37 false [38] (.ld false 1 (.t 38))), (gQ 40 37 false [39] (.call (kF 56) [(.t 39), (kI 0), (kI 2)])), (gQ 41 37 false [40] (.not (.t 40))), (cQ 42 [37,41] (.pick (.t 37) (kB true) (.t 41))), (cMv 43 42), (gQ 44 43 false [1] (.fad 4 (.t 1))), (gQ 45 43 false [44] (.ld false 1 (.t 44))), (gQ 46 43 false [45] (.call (kF 56) [(.t 45), (kI 1), (kI 90)])), (gQ 47 43 false [46] (.not (.t 46))), (cQ 48 [43,47] (.pick (.t 43) (kB true) (.t 47))), (cMv 49 48), (gQ 50 49 false [1] (.fad 5 (.t 1))), (gQ 51 49 false [50] (.ld false 1 (.t 50))), (gQ 52 49 false [51] (.call (kF 56) [(.t 51), (kI 0), (kI 90)])), (gQ 53 49 false [52] (.not (.t 52))), (cQ 54 [49,53] (.pick (.t 49) (kB true) (.t 53)))]) (.keep [1,54] (.cond (.t 54) (.seq (.reg false [(cI 2 60)]) .ret) .skip))) (.keep [1] (.seq (.seq (.reg false [(cI 4 0)]) (.keep [1,4] (.block 0 (.loop [1,4] (some 1) (.seq (.seq (.reg false [(cMv 55 4), (cFa 56 1 2), (cLd 57 56 false 1), (cLn 58 57), (cB 59 .lss 55 58)]) (.keep [1,4,59] (.cond (.t 59) .skip (.exit 0)))) (.keep [1,4] (.seq (.block 1 (.seq (.reg false [(cFa 62 1 2), (cLd 63 62 false 1), (cMv 64 4), (cA 65 3 63 64), (cLd 66 65 true 3), ⟨(some 5), none, [], none, .w (.alc [(.i 0), (.i 0), (.i 0)])⟩, ⟨none, none, [5,66], none, .w (.st 3 (.t 5) (.t 66))⟩]) (.keep [1,4,5] (.seq (.reg true [(cFa 67 5 0), (cLd 68 67 false 1), (cQ 69 [68] (.call (kF 56) [(.t 68), (kI 1), (kI 90)])), (cN 70 69), (cMv 71 70), (gQ 72 71 false [5] (.fad 1 (.t 5))), (gQ 73 71 false [72] (.fad 0 (.t 72))), (gQ 74 71 false [73] (.ld false 1 (.t 73))), (gQ 75 71 false [74] (.bin .lss (.t 74) (kI 0))), (cQ 76 [71,75] (.pick (.t 71) (kB true) (.t 75))), (cMv 77 76), (gQ 78 77 false [5] (.fad 1 (.t 5))), (gQ 79 77 false [78] (.fad 0 (.t 78))), (gQ 80 77 false [79] (.ld false 1 (.t 79))), (gQ 81 77 false [5] (.fad 1 (.t 5))), (gQ 82 77 false [81] (.fad 1 (.t 81))), (gQ 83 77 false [82] (.ld false 1 (.t 82))), (gQ 84 77 false [80,83] (.bin .gtr (.t 80) (.t 83))), (cQ 85 [77,84] (.pick (.t 77) (kB true) (.t 84))), (cMv 86 85), (gQ 87 86 false [5] (.fad 1 (.t 5))), (gQ 88 86 false [87] (.fad 1 (.t 87))), (gQ 89 86 false [88] (.ld false 1 (.t 88))), (gQ 90 86 false [89] (.bin .gtr (.t 89) (kI 90))), (cQ 91 [86,90] (.pick (.t 86) (kB true) (.t 90)))]) (.keep [1,4,91] (.cond (.t 91) (.seq (.reg false [(cI 2 60)]) .ret) .skip)))))) (.drp 1 (.keep [1,4] (.reg false [(cMv 60 4), (cC 61 .add 60 1), (cMv 4 61)])))))))))) (.keep [] (.seq (.reg false [(cI 2 0)]) .ret)))))))))
def pu16 : List Nat := [1]
def rs16 : List RV := [.t 2]
theorem cc16 : CCx Try.prog Try.f16 pu16 rc16 := by unfold CCx; kernel_rfl
theorem cb16 : CBx Try.f16 := by unfold CBx; kernel_rfl
theorem cs16 : CSx Try.prog Try.f16 rs16 := by unfold CSx; kernel_rfl
theorem cn16 : 1 ≤ Try.f16.ntmps := by decide
def rc89 : RC := (.seq (.reg false [(cX 1 0), (cQ 2 [] (.mv (kB false)))]) (.keep [1] (.seq (.reg true [(cFa 3 1 0), (cLd 4 3 false 1), (cQ 5 [4] (.bin .leq (kI 0) (.t 4))), (cMv 6 5), (gQ 7 6 true [1] (.fad 0 (.t 1))), (gQ 8 6 true [7] (.ld false 1 (.t 7))), (gQ 9 6 true [1] (.fad 1 (.t 1))), (gQ 10 6 true [9] (.ld false 1 (.t 9))), (gQ 11 6 true [8,10] (.bin .leq (.t 8) (.t 10))), (cQ 12 [6,11] (.pick (.t 6) (.t 11) (kB false))), (cMv 13 12), (gQ 14 13 true [1] (.fad 1 (.t 1))), (gQ 15 13 true [14] (.ld false 1 (.t 14))), (gQ 16 13 true [15] (.bin .leq (.t 15) (kI 540))), (cQ 17 [13,16] (.pick (.t 13) (.t 16) (kB false))), (cMv 2 17)]) .ret)))
def pu89 : List Nat := [1]
def rs89 : List RV := [.t 2]
theorem cc89 : CCx Try.prog Try.f89 pu89 rc89 := by unfold CCx; kernel_rfl
theorem cb89 : CBx Try.f89 := by unfold CBx; kernel_rfl
theorem cs89 : CSx Try.prog Try.f89 rs89 := by unfold CSx; kernel_rfl
theorem cn89 : 1 ≤ Try.f89.ntmps := by decide
def rc15 : RC := (.seq (.reg false [(cX 1 0), (cQ 2 [] (.mv (kB false)))]) (.keep [1] (.seq (.reg false [(cFa 3 1 2), (cLd 4 3 false 1), (cLn 5 4), (cC 6 .gtr 5 60), (cMv 2 6)]) .ret)))
def pu15 : List Nat := [1]
def rs15 : List RV := [.t 2]
theorem cc15 : CCx Try.prog Try.f15 pu15 rc15 := by unfold CCx; kernel_rfl
theorem cb15 : CBx Try.f15 := by unfold CBx; kernel_rfl
theorem cs15 : CSx Try.prog Try.f15 rs15 := by unfold CSx; kernel_rfl
theorem cn15 : 1 ≤ Try.f15.ntmps := by decide
def rc66 : RC := (.seq (.reg false [(cX 2 0), (cI 4 0)]) (.keep [1,2] (.seq (.reg false [(cI 5 0)]) (.keep [1,2,5] (.seq (.seq (.reg false [(cI 6 0)]) (.keep [1,2,5,6] (.block 0 (.loop [1,2,5,6] none (.seq (.seq (.reg false [(cMv 7 6), (cFa 8 2 2), (cLd 9 8 false 1), (cLn 10 9), (cB 11 .lss 7 10)]) (.keep [1,2,5,6,11] (.cond (.t 11) .skip (.exit 0)))) (.keep [1,2,5,6] (.seq (.block 1 (.seq (.any false 0 [⟨(cFa 14 2 2), [], []⟩, ⟨(cLd 15 14 false 1), [], [0]⟩, ⟨(cMv 16 6), [], []⟩, ⟨(cA 17 3 15 16), [], [1,0,2]⟩, ⟨(cFa 18 17 0), [], [3,1,0,2]⟩, ⟨(cLd 19 18 false 1), [], [4,3,1,0,2]⟩, ⟨(cMv 20 1), [], []⟩, ⟨(cQ 21 [19,20] (.call (kF 38) [(.t 19), (.t 20)])), [], [5,4,3,1,0,2,6]⟩, ⟨(cFa 22 2 2), [], []⟩, ⟨(cLd 23 22 false 1), [], [8]⟩, ⟨(cMv 24 6), [], []⟩, ⟨(cA 25 3 23 24), [], [9,8,10]⟩, ⟨(cFa 26 25 1), [], [11,9,8,10]⟩, ⟨(cFa 27 26 0), [], [12,11,9,8,10]⟩, ⟨(cLd 28 27 false 1), [], [13,12,11,9,8,10]⟩, ⟨(cFa 29 2 2), [], []⟩, ⟨(cLd 30 29 false 1), [], [15]⟩, ⟨(cMv 31 6), [], []⟩, ⟨(cA 32 3 30 31), [], [16,15,17]⟩, ⟨(cFa 33 32 1), [], [18,16,15,17]⟩, ⟨(cFa 34 33 1), [], [19,18,16,15,17]⟩, ⟨(cLd 35 34 false 1), [], [20,19,18,16,15,17]⟩, ⟨(cQ 36 [21,28,35] (.call (kF 56) [(.t 21), (.t 28), (.t 35)])), [], [7,5,4,3,1,0,2,6,14,13,12,11,9,8,10,21,20,19,18,16,15,17]⟩, ⟨(cN 37 36), [], [22,7,5,4,3,1,0,2,6,14,13,12,11,9,8,10,21,20,19,18,16,15,17]⟩]) (.keep [1,2,5,6,37] (.cond (.t 37) (.reg false [(cMv 38 5), (cC 39 .add 38 1), (cMv 5 39)]) .skip)))) (.keep [1,2,5,6] (.reg false [(cMv 12 6), (cC 13 .add 12 1), (cMv 6 13)]))))))))) (.keep [5] (.seq (.reg false [(cMv 40 5), (cMv 4 40)]) .ret)))))))
def pu66 : List Nat := [2]
def rs66 : List RV := [.t 4]
theorem cc66 : CCx Try.prog Try.f66 pu66 rc66 := by unfold CCx; kernel_rfl
theorem cb66 : CBx Try.f66 := by unfold CBx; kernel_rfl
theorem cs66 : CSx Try.prog Try.f66 rs66 := by unfold CSx; kernel_rfl
theorem cn66 : 2 ≤ Try.f66.ntmps := by decide
def rc34 : RC := (.seq (.reg false [(cX 2 0), (cQ 4 [] (.mv (kB false)))]) (.keep [1,2] (.seq (.any true 0 [⟨(cMv 5 1), [], []⟩, ⟨(cFa 6 2 0), [], []⟩, ⟨(cFa 7 6 0), [], [1]⟩, ⟨(cLd 8 7 false 1), [], [2,1]⟩, ⟨(cFa 9 2 0), [], []⟩, ⟨(cFa 10 9 1), [], [4]⟩, ⟨(cLd 11 10 false 1), [], [5,4]⟩, ⟨(cQ 12 [5,8,11] (.call (kF 56) [(.t 5), (.t 8), (.t 11)])), [], [0,3,2,1,6,5,4]⟩, ⟨(cMv 13 12), [], [7,0,3,2,1,6,5,4]⟩, ⟨(gQ 14 13 true [2] (.ld true 6 (.t 2))), [], [8,7,0,3,2,1,6,5,4]⟩, ⟨(gMv 15 13 true 1), [], [8,7,0,3,2,1,6,5,4]⟩, ⟨(gQ 16 13 true [14,15] (.call (kF 66) [(.t 14), (.t 15)])), [], [9,8,7,0,3,2,1,6,5,4,10]⟩, ⟨(gQ 17 13 true [2] (.fad 3 (.t 2))), [], [8,7,0,3,2,1,6,5,4]⟩, ⟨(gQ 18 13 true [17] (.ld false 1 (.t 17))), [], [12,8,7,0,3,2,1,6,5,4]⟩, ⟨(gQ 19 13 true [16,18] (.bin .leq (.t 16) (.t 18))), [], [11,9,8,7,0,3,2,1,6,5,4,10,13,12]⟩, ⟨(cQ 20 [13,19] (.pick (.t 13) (.t 19) (kB false))), [], [8,7,0,3,2,1,6,5,4,14,11,9,10,13,12]⟩, ⟨(cMv 4 20), [], [15,8,7,0,3,2,1,6,5,4,14,11,9,10,13,12]⟩]) .ret)))
def pu34 : List Nat := [2]
def rs34 : List RV := [.t 4]
theorem cc34 : CCx Try.prog Try.f34 pu34 rc34 := by unfold CCx; kernel_rfl
theorem cb34 : CBx Try.f34 := by unfold CBx; kernel_rfl
theorem cs34 : CSx Try.prog Try.f34 rs34 := by unfold CSx; kernel_rfl
theorem cn34 : 2 ≤ Try.f34.ntmps := by decide
def rc21 : RC := (.seq (.reg false [(cI 4 0)]) (.keep [0,1] (.seq (.reg false [(cI 5 0)]) (.keep [0,1,5] (.seq (.seq (.reg false [(cI 6 0)]) (.keep [0,1,5,6] (.block 0 (.loop [0,1,5,6] none (.seq (.seq (.reg false [(cMv 7 6), (cMv 8 0), (cLn 9 8), (cB 10 .lss 7 9)]) (.keep [0,1,5,6,10] (.cond (.t 10) .skip (.exit 0)))) (.keep [0,1,5,6] (.seq (.block 1 (.any false 0 [⟨(cMv 13 5), [], []⟩, ⟨(cMv 14 0), [], []⟩, ⟨(cMv 15 6), [], []⟩, ⟨(cA 16 1 14 15), [], [1,2]⟩, ⟨(cLd 17 16 false 1), [], [3,1,2]⟩, ⟨(cMv 18 0), [], []⟩, ⟨(cMv 19 6), [], []⟩, ⟨(cA 20 1 18 19), [], [5,6]⟩, ⟨(cLd 21 20 false 1), [], [7,5,6]⟩, ⟨(cMv 22 1), [], []⟩, ⟨(cQ 23 [21,22] (.call (kF 38) [(.t 21), (.t 22)])), [], [8,7,5,6,9]⟩, ⟨(cB 24 .sub 17 23), [], [4,3,1,2,10,8,7,5,6,9]⟩, ⟨(cB 25 .add 13 24), [], [0,11,4,3,1,2,10,8,7,5,6,9]⟩, ⟨(cMv 5 25), [], [12,0,11,4,3,1,2,10,8,7,5,6,9]⟩])) (.keep [0,1,5,6] (.reg false [(cMv 11 6), (cC 12 .add 11 1), (cMv 6 12)]))))))))) (.keep [5] (.seq (.reg false [(cMv 26 5), (cMv 4 26)]) .ret)))))))
def pu21 : List Nat := []
def rs21 : List RV := [.t 4]
theorem cc21 : CCx Try.prog Try.f21 pu21 rc21 := by unfold CCx; kernel_rfl
theorem cb21 : CBx Try.f21 := by unfold CBx; kernel_rfl
theorem cs21 : CSx Try.prog Try.f21 rs21 := by unfold CSx; kernel_rfl
theorem cn21 : 2 ≤ Try.f21.ntmps := by decide
def rc17 : RC := (.seq (.reg false [(cX 2 0), (cQ 4 [] (.mv (kB false)))]) (.keep [1,2] (.seq (.seq (.reg false [(cI 5 0)]) (.keep [1,2,5] (.block 0 (.loop [1,2,5] none (.seq (.seq (.reg false [(cMv 6 5), (cMv 7 1), (cLn 8 7), (cB 9 .lss 6 8)]) (.keep [1,2,5,9] (.cond (.t 9) .skip (.exit 0)))) (.keep [1,2,5] (.seq (.block 1 (.seq (.any true 0 [⟨(cMv 12 5), [], []⟩, ⟨(cC 13 .geq 12 6), [], [0]⟩, ⟨(cMv 14 13), [], [1,0]⟩, ⟨(gQ 15 14 false [2] (.ld true 6 (.t 2))), [], [2,1,0]⟩, ⟨(gMv 16 14 false 1), [], [2,1,0]⟩, ⟨(gMv 17 14 false 5), [], [2,1,0]⟩, ⟨(gQ 18 14 false [16,17] (.iad 1 (.t 16) (.t 17))), [], [4,2,1,0,5]⟩, ⟨(gQ 19 14 false [18] (.ld false 1 (.t 18))), [], [6,4,2,1,0,5]⟩, ⟨(gMv 20 14 false 5), [], [2,1,0]⟩, ⟨(gQ 21 14 false [15,19,20] (.call (kF 37) [(.t 15), (.t 19), (.t 20)])), [], [3,2,1,0,7,6,4,5,8]⟩, ⟨(gQ 22 14 false [21] (.not (.t 21))), [], [9,3,2,1,0,7,6,4,5,8]⟩, ⟨(cQ 23 [14,22] (.pick (.t 14) (kB true) (.t 22))), [], [2,1,0,10,9,3,7,6,4,5,8]⟩]) (.keep [1,2,5,23] (.cond (.t 23) (.seq (.reg false [(cQ 4 [] (.mv (kB false)))]) .ret) .skip)))) (.keep [1,2,5] (.reg false [(cMv 10 5), (cC 11 .add 10 1), (cMv 5 11)]))))))))) (.keep [] (.seq (.reg false [(cQ 4 [] (.mv (kB true)))]) .ret)))))
def pu17 : List Nat := [2]
def rs17 : List RV := [.t 4]
theorem cc17 : CCx Try.prog Try.f17 pu17 rc17 := by unfold CCx; kernel_rfl
theorem cb17 : CBx Try.f17 := by unfold CBx; kernel_rfl
theorem cs17 : CSx Try.prog Try.f17 rs17 := by unfold CSx; kernel_rfl
theorem cn17 : 2 ≤ Try.f17.ntmps := by decide
def rc57 : RC := (.seq (.reg false [⟨(some 0), none, [], none, .w (.alc [(.i 0), (.i 0), (.z 3), (.i 0), (.i 0), (.i 0)])⟩]) (.keep [0] (.seq (.reg false [(cQ 1 [] (.bld [(.i 0), (.i 0)] [(0,1, (kI 180)), (1,1, (kI 220))])), (cQ 2 [] (.bld [(.i 0), (.i 0)] [(0,1, (kI 10)), (1,1, (kI 10))])), (cQ 3 [2] (.bld [(.i 0), (.i 0), (.i 0)] [(0,1, (kI 50)), (1,2, (.t 2))])), (cQ 4 [3] (.bsl 3 1 [(.i 0), (.i 0), (.i 0)] [(0,3, (.t 3))])), (cQ 5 [1,4] (.bld [(.i 0), (.i 0), (.z 3), (.i 0), (.i 0), (.i 0)] [(0,2, (.t 1)), (2,1, (.t 4)), (4,1, (kI 40)), (5,1, (kI 10))])), ⟨none, none, [0,5], none, .w (.st 6 (.t 0) (.t 5))⟩]) .ret)))
def pu57 : List Nat := [4]
def rs57 : List RV := [.c 0 true 6]
theorem cc57 : CCx Try.prog Try.f57 pu57 rc57 := by unfold CCx; kernel_rfl
theorem cb57 : CBx Try.f57 := by unfold CBx; kernel_rfl
theorem cs57 : CSx Try.prog Try.f57 rs57 := by unfold CSx; kernel_rfl
theorem cn57 : 0 ≤ Try.f57.ntmps := by decide
def rc58 : RC := (.seq (.reg false [⟨(some 0), none, [], none, .w (.alc [(.i 0), (.z 2)])⟩]) (.keep [0] (.seq (.reg false [(cQ 1 [] (.bld [(.i 0), (.i 0)] [(0,1, (kI 10)), (1,1, (kI 5))])), (cQ 2 [] (.bld [(.i 0), (.i 0)] [(0,1, (kI 20)), (1,1, (kI 3))])), (cQ 3 [] (.bld [(.i 0), (.i 0)] [(0,1, (kI 5)), (1,1, (kI 4))])), (cQ 4 [1,2,3] (.bsl 2 3 [(.i 0), (.i 0)] [(0,2, (.t 1)), (2,2, (.t 2)), (4,2, (.t 3))])), (cQ 5 [4] (.bld [(.i 0), (.z 2)] [(0,1, (kI 2)), (1,1, (.t 4))])), ⟨none, none, [0,5], none, .w (.st 2 (.t 0) (.t 5))⟩]) .ret)))
def pu58 : List Nat := [4]
def rs58 : List RV := [.c 0 true 2]
theorem cc58 : CCx Try.prog Try.f58 pu58 rc58 := by unfold CCx; kernel_rfl
theorem cb58 : CBx Try.f58 := by unfold CBx; kernel_rfl
theorem cs58 : CSx Try.prog Try.f58 rs58 := by unfold CSx; kernel_rfl
theorem cn58 : 0 ≤ Try.f58.ntmps := by decide
def rc18 : RC := (.seq (.reg false [(cQ 0 [] (.mv (kB false)))]) (.keep [] (.seq (.reg false [(cQ 12 [] (.call (kF 57) [])), ⟨(some 1), none, [], none, .w (.alc [(.i 0), (.i 0), (.z 3), (.i 0), (.i 0), (.i 0)])⟩, ⟨none, none, [1,12], none, .w (.st 6 (.t 1) (.t 12))⟩]) (.keep [1] (.seq (.reg false [(cLd 14 1 true 6), (cQ 15 [14] (.call (kF 19) [(.t 14)])), (cMv 13 15), (cEx 16 13 0), (cEx 17 13 1), (cMv 2 16), (cMv 3 17)]) (.keep [1,2,3] (.seq (.reg false [(cLd 19 1 true 6), (cQ 20 [] (.bsl 1 1 [(.i 0)] [(0,1, (kI 39))])), (cQ 21 [19,20] (.call (kF 20) [(.t 19), (.t 20)])), (cMv 18 21), (cEx 22 18 0), (cEx 23 18 1), ⟨(some 4), none, [], none, .w (.alc [(.i 0), (.i 0)])⟩, ⟨none, none, [4,22], none, .w (.st 2 (.t 4) (.t 22))⟩, (cMv 5 23)]) (.keep [1,2,3,4,5] (.seq (.reg false [(cLd 25 1 true 6), (cQ 26 [] (.bld [(.i 0), (.i 0)] [(0,1, (kI 31)), (1,1, (kI 31))])), (cQ 27 [25,26] (.call (kF 25) [(.t 25), (.t 26)])), (cMv 24 27), (cEx 28 24 0), (cEx 29 24 1), (cMv 6 28), (cMv 7 29)]) (.keep [1,2,3,4,5,6,7] (.seq (.reg false [(cLd 31 1 true 6), (cQ 32 [] (.bld [(.i 0), (.i 0)] [(0,1, (kI 31)), (1,1, (kI 31))])), (cQ 33 [31,32] (.call (kF 26) [(.t 31), (.t 32)])), (cMv 30 33), (cEx 34 30 0), (cEx 35 30 1), (cMv 8 34), (cMv 9 35)]) (.keep [2,3,4,5,6,7,8,9] (.seq (.reg false [(cQ 37 [] (.call (kF 58) [])), (cQ 38 [37] (.call (kF 51) [(.t 37)])), (cMv 36 38), (cEx 39 36 0), (cEx 40 36 1), (cMv 10 39), (cMv 11 40)]) (.keep [2,3,4,5,6,7,8,9,10,11] (.seq (.reg true [(cMv 41 3), (cC 42 .eql 41 0), (cMv 43 42), (gMv 44 43 true 5), (gQ 45 43 true [44] (.bin .eql (.t 44) (kI 0))), (cQ 46 [43,45] (.pick (.t 43) (.t 45) (kB false))), (cMv 47 46), (gMv 48 47 true 7), (gQ 49 47 true [48] (.bin .eql (.t 48) (kI 0))), (cQ 50 [47,49] (.pick (.t 47) (.t 49) (kB false))), (cMv 51 50), (gMv 52 51 true 9), (gQ 53 51 true [52] (.bin .eql (.t 52) (kI 0))), (cQ 54 [51,53] (.pick (.t 51) (.t 53) (kB false))), (cMv 55 54), (gMv 56 55 true 11), (gQ 57 55 true [56] (.bin .eql (.t 56) (kI 0))), (cQ 58 [55,57] (.pick (.t 55) (.t 57) (kB false))), (cMv 59 58), (gMv 60 59 true 2), (gQ 61 59 true [60] (.len (.t 60))), (gQ 62 59 true [61] (.bin .eql (.t 61) (kI 20))), (cQ 63 [59,62] (.pick (.t 59) (.t 62) (kB false))), (cMv 64 63), (gMv 65 64 true 2), (gQ 66 64 true [65] (.iad 1 (.t 65) (kI 0))), (gQ 67 64 true [66] (.ld false 1 (.t 66))), (gQ 68 64 true [67] (.bin .eql (.t 67) (kI 200))), (cQ 69 [64,68] (.pick (.t 64) (.t 68) (kB false))), (cMv 70 69), (gQ 71 70 true [4] (.ld true 2 (.t 4))), (gQ 72 70 true [] (.bld [(.i 0), (.i 0)] [(0,1, (kI 31)), (1,1, (kI 32))])), (gQ 73 70 true [71,72] (.eqs false 23 (.t 71) (.t 72))), (cQ 74 [70,73] (.pick (.t 70) (.t 73) (kB false))), (cMv 75 74), (gMv 76 75 true 6), (gQ 77 75 true [76] (.bin .eql (.t 76) (kI 2))), (cQ 78 [75,77] (.pick (.t 75) (.t 77) (kB false))), (cMv 79 78), (gMv 80 79 true 8), (gQ 81 79 true [80] (.bin .eql (.t 80) (kI 2))), (cQ 82 [79,81] (.pick (.t 79) (.t 81) (kB false))), (cMv 83 82), (gMv 84 83 true 10), (gQ 85 83 true [84] (.bin .eql (.t 84) (kI 27))), (cQ 86 [83,85] (.pick (.t 83) (.t 85) (kB false))), (cMv 0 86)]) .ret)))))))))))))))
def pu18 : List Nat := [20]
def rs18 : List RV := [.t 0]
theorem cc18 : CCx Try.prog Try.f18 pu18 rc18 := by unfold CCx; kernel_rfl
theorem cb18 : CBx Try.f18 := by unfold CBx; kernel_rfl
theorem cs18 : CSx Try.prog Try.f18 rs18 := by unfold CSx; kernel_rfl
theorem cn18 : 0 ≤ Try.f18.ntmps := by decide
def rc71 : RC := (.seq (.reg false [(cX 1 0), (cQ 2 [] (.mv (.k (.z 1))))]) (.keep [1] (.seq (.reg false [(cQ 3 [] (.mv (.k (.z 1))))]) (.keep [1,3] (.seq (.seq (.reg false [(cFa 5 1 0), (cFa 6 5 0), (cLd 7 6 false 1), (cMv 4 7)]) (.keep [1,3,4] (.block 0 (.own 3 1 (.loop [1,3,4] none (.seq (.seq (.reg false [(cMv 8 4), (cFa 9 1 0), (cFa 10 9 1), (cLd 11 10 false 1), (cB 12 .leq 8 11)]) (.keep [1,3,4,12] (.cond (.t 12) .skip (.exit 0)))) (.keep [1,3,4] (.seq (.block 1 (.seq (.reg false [(cLd 15 1 true 6), (cMv 16 4), (cQ 17 [15,16] (.call (kF 34) [(.t 15), (.t 16)]))]) (.keep [1,3,4,17] (.cond (.t 17) (.reg false [(cMv 18 3), (cMv 19 4), (cQ 20 [19] (.bsl 1 1 [(.i 0)] [(0,1, (.t 19))])), ⟨(some 21), none, [18,20], none, .w (.app 1 (.t 18) (.t 20))⟩, (cMv 3 21)]) .skip)))) (.keep [1,3,4] (.reg false [(cMv 13 4), (cC 14 .add 13 1), (cMv 4 14)])))))))))) (.keep [3] (.seq (.reg false [(cMv 22 3), (cMv 2 22)]) .ret)))))))
def pu71 : List Nat := [1,20]
def rs71 : List RV := [.t 2]
theorem cc71 : CCx Try.prog Try.f71 pu71 rc71 := by unfold CCx; kernel_rfl
theorem cb71 : CBx Try.f71 := by unfold CBx; kernel_rfl
theorem cs71 : CSx Try.prog Try.f71 rs71 := by unfold CSx; kernel_rfl
theorem cn71 : 1 ≤ Try.f71.ntmps := by decide
def rc42 : RC := (.seq (.reg false [(cX 1 0), (cQ 2 [] (.mv (.k (.z 1))))]) (.keep [1] (.seq (.reg false [(cLd 3 1 true 6), (cQ 4 [3] (.call (kF 71) [(.t 3)])), (cMv 2 4)]) .ret)))
def pu42 : List Nat := [1]
def rs42 : List RV := [.t 2]
theorem cc42 : CCx Try.prog Try.f42 pu42 rc42 := by unfold CCx; kernel_rfl
theorem cb42 : CBx Try.f42 := by unfold CBx; kernel_rfl
theorem cs42 : CSx Try.prog Try.f42 rs42 := by unfold CSx; kernel_rfl
theorem cn42 : 1 ≤ Try.f42.ntmps := by decide
def rc62 : RC := (.seq (.reg false [(cX 3 0), (cX 5 2), (cQ 6 [] (.mv (.k (.z 1)))), (cI 7 0)]) (.keep [1,3,5] (.seq (.seq (.reg false [(cLd 12 3 true 6), (cQ 13 [12] (.call (kF 16) [(.t 12)])), (cMv 8 13)]) (.keep [1,3,5,8] (.seq (.reg false [(cMv 14 8), (cC 15 .neq 14 0)]) (.keep [1,3,5,8,15] (.cond (.t 15) (.seq (.reg false [(cMv 16 8), (cQ 6 [] (.mv (.k (.z 1)))), (cMv 7 16)]) .ret) .skip))))) (.keep [1,3,5] (.seq (.seq (.reg true [(cMv 17 1), (cLn 18 17), (cC 19 .gtr 18 6), (cMv 20 19), (gQ 21 20 false [5] (.ld true 2 (.t 5))), (gQ 22 20 false [21] (.call (kF 89) [(.t 21)])), (gQ 23 20 false [22] (.not (.t 22))), (cQ 24 [20,23] (.pick (.t 20) (kB true) (.t 23)))]) (.keep [1,3,24] (.cond (.t 24) (.seq (.reg false [(cQ 6 [] (.mv (.k (.z 1)))), (cI 7 1)]) .ret) .skip))) (.keep [1,3] (.seq (.seq (.reg false [(cI 9 0)]) (.keep [1,3,9] (.block 0 (.loop [1,3,9] none (.seq (.seq (.reg false [(cMv 25 9), (cMv 26 1), (cLn 27 26), (cB 28 .lss 25 27)]) (.keep [1,3,9,28] (.cond (.t 28) .skip (.exit 0)))) (.keep [1,3,9] (.seq (.block 1 (.seq (.reg false [(cMv 31 1), (cMv 32 9), (cA 33 1 31 32), (cLd 34 33 false 1), (cQ 35 [34] (.call (kF 56) [(.t 34), (kI 1), (kI 90)])), (cN 36 35)]) (.keep [1,3,9,36] (.cond (.t 36) (.seq (.reg false [(cQ 6 [] (.mv (.k (.z 1)))), (cI 7 1)]) .ret) .skip)))) (.keep [1,3,9] (.reg false [(cMv 29 9), (cC 30 .add 29 1), (cMv 9 30)]))))))))) (.keep [1,3] (.seq (.seq (.reg false [(cI 10 0)]) (.keep [1,3,10] (.block 2 (.loop [1,3,10] none (.seq (.seq (.reg false [(cMv 37 10), (cMv 38 1), (cLn 39 38), (cB 40 .lss 37 39)]) (.keep [1,3,10,40] (.cond (.t 40) .skip (.exit 2)))) (.keep [1,3,10] (.seq (.block 3 (.seq (.any false 0 [⟨(cLd 43 3 true 6), [], []⟩, ⟨(cMv 44 1), [], []⟩, ⟨(cMv 45 10), [], []⟩, ⟨(cA 46 1 44 45), [], [1,2]⟩, ⟨(cLd 47 46 false 1), [], [3,1,2]⟩, ⟨(cMv 48 10), [], []⟩, ⟨(cQ 49 [43,47,48] (.call (kF 37) [(.t 43), (.t 47), (.t 48)])), [], [0,4,3,1,2,5]⟩, ⟨(cN 50 49), [], [6,0,4,3,1,2,5]⟩]) (.keep [1,3,10,50] (.cond (.t 50) (.seq (.reg false [(cQ 6 [] (.mv (.k (.z 1)))), (cI 7 61)]) .ret) .skip)))) (.keep [1,3,10] (.reg false [(cMv 41 10), (cC 42 .add 41 1), (cMv 10 42)]))))))))) (.keep [3] (.seq (.reg false [(cLd 51 3 true 6), (cQ 52 [51] (.call (kF 71) [(.t 51)])), (cMv 11 52)]) (.keep [11] (.seq (.seq (.reg false [(cMv 53 11), (cLn 54 53), (cC 55 .eql 54 0)]) (.keep [11,55] (.cond (.t 55) (.seq (.reg false [(cQ 6 [] (.mv (.k (.z 1)))), (cI 7 3)]) .ret) .skip))) (.keep [11] (.seq (.reg false [(cMv 56 11), (cMv 6 56), (cI 7 0)]) .ret)))))))))))))))
def pu62 : List Nat := [3,5]
def rs62 : List RV := [.t 6, .t 7]
theorem cc62 : CCx Try.prog Try.f62 pu62 rc62 := by unfold CCx; kernel_rfl
theorem cb62 : CBx Try.f62 := by unfold CBx; kernel_rfl
theorem cs62 : CSx Try.prog Try.f62 rs62 := by unfold CSx; kernel_rfl
theorem cn62 : 3 ≤ Try.f62.ntmps := by decide
def rc70 : RC := (.seq (.reg false [(cX 5 2), (cI 6 0)]) (.keep [0,1,5] (.seq (.reg false [(cI 7 0)]) (.keep [0,1,5,7] (.seq (.seq (.reg false [(cI 8 0)]) (.keep [0,1,5,7,8] (.block 0 (.loop [0,1,5,7,8] none (.seq (.seq (.reg false [(cMv 9 8), (cMv 10 0), (cLn 11 10), (cB 12 .lss 9 11)]) (.keep [0,1,5,7,8,12] (.cond (.t 12) .skip (.exit 0)))) (.keep [0,1,5,7,8] (.seq (.block 1 (.seq (.any false 0 [⟨(cMv 15 1), [], []⟩, ⟨(cMv 16 0), [], []⟩, ⟨(cMv 17 8), [], []⟩, ⟨(cA 18 1 16 17), [], [1,2]⟩, ⟨(cLd 19 18 false 1), [], [3,1,2]⟩, ⟨(cQ 20 [15,19] (.call (kF 21) [(.t 15), (.t 19)])), [], [0,4,3,1,2]⟩, ⟨(cFa 21 5 0), [], []⟩, ⟨(cLd 22 21 false 1), [], [6]⟩, ⟨(cFa 23 5 1), [], []⟩, ⟨(cLd 24 23 false 1), [], [8]⟩, ⟨(cQ 25 [20,22,24] (.call (kF 56) [(.t 20), (.t 22), (.t 24)])), [], [5,0,4,3,1,2,7,6,9,8]⟩]) (.keep [0,1,5,7,8,25] (.cond (.t 25) (.reg false [(cMv 26 7), (cC 27 .add 26 1), (cMv 7 27)]) .skip)))) (.keep [0,1,5,7,8] (.reg false [(cMv 13 8), (cC 14 .add 13 1), (cMv 8 14)]))))))))) (.keep [7] (.seq (.reg false [(cMv 28 7), (cMv 6 28)]) .ret)))))))
def pu70 : List Nat := [5]
def rs70 : List RV := [.t 6]
theorem cc70 : CCx Try.prog Try.f70 pu70 rc70 := by unfold CCx; kernel_rfl
theorem cb70 : CBx Try.f70 := by unfold CBx; kernel_rfl
theorem cs70 : CSx Try.prog Try.f70 rs70 := by unfold CSx; kernel_rfl
theorem cn70 : 3 ≤ Try.f70.ntmps := by decide
def rc40 : RC := (.seq (.reg false [(cX 3 0), (cX 5 2), (cI 6 0), (cI 7 0)]) (.keep [1,3,5] (.seq (.reg false [(cLd 11 3 true 6), (cMv 12 1), (cLd 13 5 true 2), (cQ 14 [11,12,13] (.call (kF 62) [(.t 11), (.t 12), (.t 13)])), (cMv 10 14), (cEx 15 10 0), (cEx 16 10 1), (cMv 8 15), (cMv 9 16)]) (.keep [1,5,8,9] (.seq (.seq (.reg false [(cMv 17 9), (cC 18 .neq 17 0)]) (.keep [1,5,8,9,18] (.cond (.t 18) (.seq (.reg false [(cMv 19 9), (cI 6 0), (cMv 7 19)]) .ret) .skip))) (.keep [1,5,8] (.seq (.seq (.reg false [(cMv 20 8), (cMv 21 1), (cLd 22 5 true 2), (cQ 23 [20,21,22] (.call (kF 70) [(.t 20), (.t 21), (.t 22)]))]) (.keep [8,23] (.block 0 (.seq (.reg false [(cMv 25 8), (cLn 26 25), (cB 27 .eql 23 26), (cMv 24 27)]) (.keep [23,24] (.cond (.t 24) (.seq (.reg false [(cI 6 1), (cI 7 0)]) .ret) (.seq (.reg false [(cC 29 .eql 23 0), (cMv 28 29)]) (.keep [28] (.cond (.t 28) (.seq (.reg false [(cI 6 2), (cI 7 0)]) .ret) .skip))))))))) (.keep [] (.seq (.reg false [(cI 6 3), (cI 7 0)]) .ret)))))))))
def pu40 : List Nat := [3,5]
def rs40 : List RV := [.t 6, .t 7]
theorem cc40 : CCx Try.prog Try.f40 pu40 rc40 := by unfold CCx; kernel_rfl
theorem cb40 : CBx Try.f40 := by unfold CBx; kernel_rfl
theorem cs40 : CSx Try.prog Try.f40 rs40 := by unfold CSx; kernel_rfl
theorem cn40 : 3 ≤ Try.f40.ntmps := by decide
def rc46 : RC := (.seq (.reg false [(cX 2 0), ⟨(some 4), none, [], none, .w (.alc [(.i 0), (.i 0)])⟩, (cI 5 0)]) (.keep [1,2,4] (.seq (.reg false [(cLd 11 2 true 6), (cMv 12 1), (cQ 13 [] (.bld [(.i 0), (.i 0)] [])), (cQ 14 [11,12,13] (.call (kF 62) [(.t 11), (.t 12), (.t 13)])), (cMv 10 14), (cEx 15 10 0), (cEx 16 10 1), (cMv 6 15), (cMv 7 16)]) (.keep [1,4,6,7] (.seq (.seq (.reg false [(cMv 17 7), (cC 18 .neq 17 0)]) (.keep [1,4,6,7,18] (.cond (.t 18) (.seq (.reg false [(cQ 19 [] (.bld [(.i 0), (.i 0)] [])), (cMv 20 7), ⟨none, none, [4,19], none, .w (.st 2 (.t 4) (.t 19))⟩, (cMv 5 20)]) .ret) .skip))) (.keep [1,4,6] (.seq (.any false 1 [⟨(cMv 21 1), [], []⟩, ⟨(cMv 22 6), [], []⟩, ⟨(cQ 23 [22] (.iad 1 (.t 22) (kI 0))), [], [1]⟩, ⟨(cLd 24 23 false 1), [], [2,1]⟩, ⟨(cQ 25 [21,24] (.call (kF 21) [(.t 21), (.t 24)])), [], [0,3,2,1]⟩, ⟨(cMv 26 1), [], []⟩, ⟨(cMv 27 6), [], []⟩, ⟨(cQ 28 [27] (.iad 1 (.t 27) (kI 0))), [], [6]⟩, ⟨(cLd 29 28 false 1), [], [7,6]⟩, ⟨(cQ 30 [26,29] (.call (kF 21) [(.t 26), (.t 29)])), [], [5,8,7,6,4,0,3,2,1]⟩, ⟨(cQ 31 [25,30] (.bld [(.i 0), (.i 0)] [(0,1, (.t 25)), (1,1, (.t 30))])), [], [4,0,3,2,1,9,5,8,7,6]⟩, ⟨⟨(some 8), none, [], (some 0), .w (.alc [(.i 0), (.i 0)])⟩, [0,1,2,3,4,5,6,7,8,9,10], []⟩, ⟨⟨none, none, [8,31], none, .w (.st 2 (.t 8) (.t 31))⟩, [], [11,10,4,0,3,2,1,9,5,8,7,6]⟩]) (.keep [1,4,6,8] (.seq (.seq (.reg false [(cI 9 0)]) (.keep [1,4,6,8,9] (.block 0 (.loop [1,4,6,8,9] none (.seq (.seq (.reg false [(cMv 32 9), (cMv 33 6), (cLn 34 33), (cB 35 .lss 32 34)]) (.keep [1,4,6,8,9,35] (.cond (.t 35) .skip (.exit 0)))) (.keep [1,4,6,8,9] (.seq (.block 1 (.any false 0 [⟨(cFa 38 8 0), [], []⟩, ⟨(cLd 39 38 false 1), [], [0]⟩, ⟨(cMv 40 1), [], []⟩, ⟨(cMv 41 6), [], []⟩, ⟨(cMv 42 9), [], []⟩, ⟨(cA 43 1 41 42), [], [3,4]⟩, ⟨(cLd 44 43 false 1), [], [5,3,4]⟩, ⟨(cQ 45 [40,44] (.call (kF 21) [(.t 40), (.t 44)])), [], [2,6,5,3,4]⟩, ⟨(cQ 46 [39,45] (.mn (.t 39) (.t 45))), [], [1,0,7,2,6,5,3,4]⟩, ⟨(cFa 47 8 1), [], []⟩, ⟨(cLd 48 47 false 1), [], [9]⟩, ⟨(cMv 49 1), [], []⟩, ⟨(cMv 50 6), [], []⟩, ⟨(cMv 51 9), [], []⟩, ⟨(cA 52 1 50 51), [], [12,13]⟩, ⟨(cLd 53 52 false 1), [], [14,12,13]⟩, ⟨(cQ 54 [49,53] (.call (kF 21) [(.t 49), (.t 53)])), [], [11,15,14,12,13,7,2,6,5,3,4]⟩, ⟨(cQ 55 [48,54] (.mx (.t 48) (.t 54))), [], [10,9,16,11,15,14,12,13,7,2,6,5,3,4]⟩, ⟨(cQ 56 [46,55] (.bld [(.i 0), (.i 0)] [(0,1, (.t 46)), (1,1, (.t 55))])), [], [8,1,0,7,2,6,5,3,4,17,10,9,16,11,15,14,12,13]⟩, ⟨⟨none, none, [8,56], none, .w (.st 2 (.t 8) (.t 56))⟩, [], [18,8,1,0,7,2,6,5,3,4,17,10,9,16,11,15,14,12,13]⟩])) (.keep [1,4,6,8,9] (.reg false [(cMv 36 9), (cC 37 .add 36 1), (cMv 9 37)]))))))))) (.keep [4,8] (.seq (.reg false [(cLd 57 8 true 2), ⟨none, none, [4,57], none, .w (.st 2 (.t 4) (.t 57))⟩, (cI 5 0)]) .ret)))))))))))
def pu46 : List Nat := [2]
def rs46 : List RV := [.c 4 true 2, .t 5]
theorem cc46 : CCx Try.prog Try.f46 pu46 rc46 := by unfold CCx; kernel_rfl
theorem cb46 : CBx Try.f46 := by unfold CBx; kernel_rfl
theorem cs46 : CSx Try.prog Try.f46 rs46 := by unfold CSx; kernel_rfl
theorem cn46 : 2 ≤ Try.f46.ntmps := by decide
def rc27 : RC := (.seq (.reg false [(cX 1 0), (cQ 2 [] (.mv (.k (.z 1)))), (cI 3 0)]) (.keep [1] (.seq (.reg false [(cLd 4 1 true 6), (cQ 5 [] (.bld [(.i 0), (.i 0)] [])), (cQ 6 [4,5] (.call (kF 62) [(.t 4), (.k (.z 1)), (.t 5)])), (cEx 7 6 0), (cEx 8 6 1), (cMv 2 7), (cMv 3 8)]) .ret)))
def pu27 : List Nat := [1]
def rs27 : List RV := [.t 2, .t 3]
theorem cc27 : CCx Try.prog Try.f27 pu27 rc27 := by unfold CCx; kernel_rfl
theorem cb27 : CBx Try.f27 := by unfold CBx; kernel_rfl
theorem cs27 : CSx Try.prog Try.f27 rs27 := by unfold CSx; kernel_rfl
theorem cn27 : 1 ≤ Try.f27.ntmps := by decide
def rc24 : RC := (.seq (.reg false [(cX 1 0), ⟨(some 2), none, [], none, .w (.alc [(.i 0), (.i 0), (.z 3), (.i 0), (.i 0), (.i 0)])⟩]) (.keep [1,2] (.seq (.reg false [(cLd 4 1 true 6), ⟨(some 3), none, [], none, .w (.alc [(.i 0), (.i 0), (.z 3), (.i 0), (.i 0), (.i 0)])⟩, ⟨none, none, [3,4], none, .w (.st 6 (.t 3) (.t 4))⟩]) (.keep [1,2,3] (.seq (.reg false [⟨(some 5), none, [], none, .w (.bso 3 0 [(.i 0), (.i 0), (.i 0)] [])⟩, (cFa 6 1 2), (cLd 7 6 false 1), ⟨(some 8), none, [5,7], none, .w (.app 3 (.t 5) (.t 7))⟩, (cFa 9 3 2), ⟨none, none, [9,8], none, .w (.st 1 (.t 9) (.t 8))⟩]) (.keep [2,3] (.seq (.reg false [(cLd 10 3 true 6), ⟨none, none, [2,10], none, .w (.st 6 (.t 2) (.t 10))⟩]) .ret)))))))
def pu24 : List Nat := [1]
def rs24 : List RV := [.c 2 true 6]
theorem cc24 : CCx Try.prog Try.f24 pu24 rc24 := by unfold CCx; kernel_rfl
theorem cb24 : CBx Try.f24 := by unfold CBx; kernel_rfl
theorem cs24 : CSx Try.prog Try.f24 rs24 := by unfold CSx; kernel_rfl
theorem cn24 : 1 ≤ Try.f24.ntmps := by decide
def rc29 : RC := (.seq (.reg false [(cQ 4 [] (.mv (kB false)))]) (.keep [0,1] (.seq (.seq (.reg false [(cMv 6 0), (cLn 7 6), (cMv 8 1), (cLn 9 8), (cB 10 .neq 7 9)]) (.keep [0,1,10] (.cond (.t 10) (.seq (.reg false [(cQ 4 [] (.mv (kB false)))]) .ret) .skip))) (.keep [0,1] (.seq (.seq (.reg false [(cI 5 0)]) (.keep [0,1,5] (.block 0 (.loop [0,1,5] none (.seq (.seq (.reg false [(cMv 11 5), (cMv 12 0), (cLn 13 12), (cB 14 .lss 11 13)]) (.keep [0,1,5,14] (.cond (.t 14) .skip (.exit 0)))) (.keep [0,1,5] (.seq (.block 1 (.seq (.any false 0 [⟨(cMv 17 0), [], []⟩, ⟨(cMv 18 5), [], []⟩, ⟨(cA 19 1 17 18), [], [0,1]⟩, ⟨(cLd 20 19 false 1), [], [2,0,1]⟩, ⟨(cMv 21 1), [], []⟩, ⟨(cMv 22 5), [], []⟩, ⟨(cA 23 1 21 22), [], [4,5]⟩, ⟨(cLd 24 23 false 1), [], [6,4,5]⟩, ⟨(cB 25 .neq 20 24), [], [3,2,0,1,7,6,4,5]⟩]) (.keep [0,1,5,25] (.cond (.t 25) (.seq (.reg false [(cQ 4 [] (.mv (kB false)))]) .ret) .skip)))) (.keep [0,1,5] (.reg false [(cMv 15 5), (cC 16 .add 15 1), (cMv 5 16)]))))))))) (.keep [] (.seq (.reg false [(cQ 4 [] (.mv (kB true)))]) .ret)))))))
def pu29 : List Nat := []
def rs29 : List RV := [.t 4]
theorem cc29 : CCx Try.prog Try.f29 pu29 rc29 := by unfold CCx; kernel_rfl
theorem cb29 : CBx Try.f29 := by unfold CBx; kernel_rfl
theorem cs29 : CSx Try.prog Try.f29 rs29 := by unfold CSx; kernel_rfl
theorem cn29 : 2 ≤ Try.f29.ntmps := by decide
def rc30 : RC := (.seq (.reg false [(cX 2 0), (cX 3 1), (cQ 4 [] (.mv (kB false)))]) (.keep [2,3] (.seq (.seq (.reg true [(cFa 6 2 0), (cLd 7 6 true 2), (cFa 8 3 0), (cLd 9 8 true 2), (cQ 10 [7,9] (.eqs true 23 (.t 7) (.t 9))), (cMv 11 10), (gQ 12 11 false [2] (.fad 3 (.t 2))), (gQ 13 11 false [12] (.ld false 1 (.t 12))), (gQ 14 11 false [3] (.fad 3 (.t 3))), (gQ 15 11 false [14] (.ld false 1 (.t 14))), (gQ 16 11 false [13,15] (.bin .neq (.t 13) (.t 15))), (cQ 17 [11,16] (.pick (.t 11) (kB true) (.t 16))), (cMv 18 17), (gQ 19 18 false [2] (.fad 4 (.t 2))), (gQ 20 18 false [19] (.ld false 1 (.t 19))), (gQ 21 18 false [3] (.fad 4 (.t 3))), (gQ 22 18 false [21] (.ld false 1 (.t 21))), (gQ 23 18 false [20,22] (.bin .neq (.t 20) (.t 22))), (cQ 24 [18,23] (.pick (.t 18) (kB true) (.t 23))), (cMv 25 24), (gQ 26 25 false [2] (.fad 5 (.t 2))), (gQ 27 25 false [26] (.ld false 1 (.t 26))), (gQ 28 25 false [3] (.fad 5 (.t 3))), (gQ 29 25 false [28] (.ld false 1 (.t 28))), (gQ 30 25 false [27,29] (.bin .neq (.t 27) (.t 29))), (cQ 31 [25,30] (.pick (.t 25) (kB true) (.t 30))), (cMv 32 31), (gQ 33 32 false [2] (.fad 2 (.t 2))), (gQ 34 32 false [33] (.ld false 1 (.t 33))), (gQ 35 32 false [34] (.len (.t 34))), (gQ 36 32 false [3] (.fad 2 (.t 3))), (gQ 37 32 false [36] (.ld false 1 (.t 36))), (gQ 38 32 false [37] (.len (.t 37))), (gQ 39 32 false [35,38] (.bin .neq (.t 35) (.t 38))), (cQ 40 [32,39] (.pick (.t 32) (kB true) (.t 39)))]) (.keep [2,3,40] (.cond (.t 40) (.seq (.reg false [(cQ 4 [] (.mv (kB false)))]) .ret) .skip))) (.keep [2,3] (.seq (.seq (.reg false [(cI 5 0)]) (.keep [2,3,5] (.block 0 (.loop [2,3,5] none (.seq (.seq (.reg false [(cMv 41 5), (cFa 42 2 2), (cLd 43 42 false 1), (cLn 44 43), (cB 45 .lss 41 44)]) (.keep [2,3,5,45] (.cond (.t 45) .skip (.exit 0)))) (.keep [2,3,5] (.seq (.block 1 (.seq (.any false 0 [⟨(cFa 48 2 2), [], []⟩, ⟨(cLd 49 48 false 1), [], [0]⟩, ⟨(cMv 50 5), [], []⟩, ⟨(cA 51 3 49 50), [], [1,0,2]⟩, ⟨(cLd 52 51 true 3), [], [3,1,0,2]⟩, ⟨(cFa 53 3 2), [], []⟩, ⟨(cLd 54 53 false 1), [], [5]⟩, ⟨(cMv 55 5), [], []⟩, ⟨(cA 56 3 54 55), [], [6,5,7]⟩, ⟨(cLd 57 56 true 3), [], [8,6,5,7]⟩, ⟨(cQ 58 [52,57] (.eqs true 61 (.t 52) (.t 57))), [], [4,3,1,0,2,9,8,6,5,7]⟩]) (.keep [2,3,5,58] (.cond (.t 58) (.seq (.reg false [(cQ 4 [] (.mv (kB false)))]) .ret) .skip)))) (.keep [2,3,5] (.reg false [(cMv 46 5), (cC 47 .add 46 1), (cMv 5 47)]))))))))) (.keep [] (.seq (.reg false [(cQ 4 [] (.mv (kB true)))]) .ret)))))))
def pu30 : List Nat := [2,3]
def rs30 : List RV := [.t 4]
theorem cc30 : CCx Try.prog Try.f30 pu30 rc30 := by unfold CCx; kernel_rfl
theorem cb30 : CBx Try.f30 := by unfold CBx; kernel_rfl
theorem cs30 : CSx Try.prog Try.f30 rs30 := by unfold CSx; kernel_rfl
theorem cn30 : 2 ≤ Try.f30.ntmps := by decide
def rc31 : RC := (.seq (.reg false [(cX 1 0), (cQ 2 [] (.mv (kB false)))]) (.keep [1] (.seq (.reg true [(cLd 3 1 true 6), (cQ 4 [3] (.call (kF 15) [(.t 3)])), (cMv 5 4), (gQ 6 5 false [1] (.ld true 6 (.t 1))), (gQ 7 5 false [6] (.call (kF 16) [(.t 6)])), (gQ 8 5 false [7] (.bin .eql (.t 7) (kI 0))), (gMv 9 5 false 8), (gQ 10 9 true [1] (.fad 4 (.t 1))), (gQ 11 9 true [10] (.ld false 1 (.t 10))), (gQ 12 9 true [11] (.bin .gtr (.t 11) (kI 3))), (gQ 13 5 false [9,12] (.pick (.t 9) (.t 12) (kB false))), (gMv 14 5 false 13), (gQ 15 14 true [1] (.fad 4 (.t 1))), (gQ 16 14 true [15] (.ld false 1 (.t 15))), (gQ 17 14 true [16] (.bin .gtr (.t 16) (kI 14))), (gMv 18 14 true 17), (gQ 19 18 false [1] (.fad 5 (.t 1))), (gQ 20 18 false [19] (.ld false 1 (.t 19))), (gQ 21 18 false [20] (.bin .mul (kI 4) (.t 20))), (gQ 22 18 false [1] (.fad 4 (.t 1))), (gQ 23 18 false [22] (.ld false 1 (.t 22))), (gQ 24 18 false [21,23] (.bin .lss (.t 21) (.t 23))), (gQ 25 14 true [18,24] (.pick (.t 18) (kB true) (.t 24))), (gQ 26 5 false [14,25] (.pick (.t 14) (.t 25) (kB false))), (cQ 27 [5,26] (.pick (.t 5) (kB true) (.t 26))), (cMv 2 27)]) .ret)))
def pu31 : List Nat := [1]
def rs31 : List RV := [.t 2]
theorem cc31 : CCx Try.prog Try.f31 pu31 rc31 := by unfold CCx; kernel_rfl
theorem cb31 : CBx Try.f31 := by unfold CBx; kernel_rfl
theorem cs31 : CSx Try.prog Try.f31 rs31 := by unfold CSx; kernel_rfl
theorem cn31 : 1 ≤ Try.f31.ntmps := by decide
def rc22 : RC := (.seq (.reg false [(cX 1 0), (cQ 2 [] (.mv (kB false)))]) (.keep [1] (.seq (.reg true [(cLd 3 1 true 6), (cQ 4 [3] (.call (kF 31) [(.t 3)])), (cN 5 4), (cMv 6 5), (gQ 7 6 true [1] (.ld true 6 (.t 1))), (gQ 8 6 true [7] (.call (kF 16) [(.t 7)])), (gQ 9 6 true [8] (.bin .eql (.t 8) (kI 0))), (cQ 10 [6,9] (.pick (.t 6) (.t 9) (kB false))), (cMv 2 10)]) .ret)))
def pu22 : List Nat := [1]
def rs22 : List RV := [.t 2]
theorem cc22 : CCx Try.prog Try.f22 pu22 rc22 := by unfold CCx; kernel_rfl
theorem cb22 : CBx Try.f22 := by unfold CBx; kernel_rfl
theorem cs22 : CSx Try.prog Try.f22 rs22 := by unfold CSx; kernel_rfl
theorem cn22 : 1 ≤ Try.f22.ntmps := by decide
def rc23 : RC := (.seq (.reg false [(cX 1 0), (cQ 2 [] (.mv (kB false)))]) (.keep [1] (.seq (.reg true [(cFa 3 1 0), (cLd 4 3 false 1), (cC 5 .geq 4 0), (cMv 6 5), (gQ 7 6 true [1] (.fad 0 (.t 1))), (gQ 8 6 true [7] (.ld false 1 (.t 7))), (gQ 9 6 true [1] (.fad 1 (.t 1))), (gQ 10 6 true [9] (.ld false 1 (.t 9))), (gQ 11 6 true [8,10] (.bin .leq (.t 8) (.t 10))), (cQ 12 [6,11] (.pick (.t 6) (.t 11) (kB false))), (cMv 13 12), (gQ 14 13 true [1] (.fad 1 (.t 1))), (gQ 15 13 true [14] (.ld false 1 (.t 14))), (gQ 16 13 true [15] (.bin .leq (.t 15) (kI 540))), (cQ 17 [13,16] (.pick (.t 13) (.t 16) (kB false))), (cMv 2 17)]) .ret)))
def pu23 : List Nat := [1]
def rs23 : List RV := [.t 2]
theorem cc23 : CCx Try.prog Try.f23 pu23 rc23 := by unfold CCx; kernel_rfl
theorem cb23 : CBx Try.f23 := by unfold CBx; kernel_rfl
theorem cs23 : CSx Try.prog Try.f23 rs23 := by unfold CSx; kernel_rfl
theorem cn23 : 1 ≤ Try.f23.ntmps := by decide
def rc36 : RC := (.seq (.reg false [(cX 2 0), (cQ 4 [] (.mv (kB false)))]) (.keep [1,2] (.seq (.reg true [(cFa 5 2 0), (cLd 6 5 false 1), (cMv 7 1), (cB 8 .leq 6 7), (cMv 9 8), (gMv 10 9 true 1), (gQ 11 9 true [2] (.fad 1 (.t 2))), (gQ 12 9 true [11] (.ld false 1 (.t 11))), (gQ 13 9 true [10,12] (.bin .leq (.t 10) (.t 12))), (cQ 14 [9,13] (.pick (.t 9) (.t 13) (kB false))), (cMv 4 14)]) .ret)))
def pu36 : List Nat := [2]
def rs36 : List RV := [.t 4]
theorem cc36 : CCx Try.prog Try.f36 pu36 rc36 := by unfold CCx; kernel_rfl
theorem cb36 : CBx Try.f36 := by unfold CBx; kernel_rfl
theorem cs36 : CSx Try.prog Try.f36 rs36 := by unfold CSx; kernel_rfl
theorem cn36 : 2 ≤ Try.f36.ntmps := by decide
def rc44 : RC := (.seq (.reg false [(cQ 4 [] (.mv (kB false)))]) (.keep [0,1] (.seq (.seq (.reg false [(cI 5 0)]) (.keep [0,1,5] (.block 0 (.loop [0,1,5] none (.seq (.seq (.reg false [(cMv 6 5), (cMv 7 0), (cLn 8 7), (cB 9 .lss 6 8)]) (.keep [0,1,5,9] (.cond (.t 9) .skip (.exit 0)))) (.keep [0,1,5] (.seq (.block 1 (.seq (.reg false [(cMv 12 0), (cMv 13 5), (cA 14 1 12 13), (cLd 15 14 false 1), (cMv 16 1), (cB 17 .eql 15 16)]) (.keep [0,1,5,17] (.cond (.t 17) (.seq (.reg false [(cQ 4 [] (.mv (kB true)))]) .ret) .skip)))) (.keep [0,1,5] (.reg false [(cMv 10 5), (cC 11 .add 10 1), (cMv 5 11)]))))))))) (.keep [] (.seq (.reg false [(cQ 4 [] (.mv (kB false)))]) .ret)))))
def pu44 : List Nat := []
def rs44 : List RV := [.t 4]
theorem cc44 : CCx Try.prog Try.f44 pu44 rc44 := by unfold CCx; kernel_rfl
theorem cb44 : CBx Try.f44 := by unfold CBx; kernel_rfl
theorem cs44 : CSx Try.prog Try.f44 rs44 := by unfold CSx; kernel_rfl
theorem cn44 : 2 ≤ Try.f44.ntmps := by decide
def rc45 : RC := (.seq (.reg false [(cX 2 0), (cX 3 1), (cQ 4 [] (.mv (kB false)))]) (.keep [2,3] (.seq (.reg true [(cFa 5 2 0), (cLd 6 5 false 1), (cFa 7 3 0), (cLd 8 7 false 1), (cB 9 .leq 6 8), (cMv 10 9), (gQ 11 10 true [3] (.fad 1 (.t 3))), (gQ 12 10 true [11] (.ld false 1 (.t 11))), (gQ 13 10 true [2] (.fad 1 (.t 2))), (gQ 14 10 true [13] (.ld false 1 (.t 13))), (gQ 15 10 true [12,14] (.bin .leq (.t 12) (.t 14))), (cQ 16 [10,15] (.pick (.t 10) (.t 15) (kB false))), (cMv 4 16)]) .ret)))
def pu45 : List Nat := [2,3]
def rs45 : List RV := [.t 4]
theorem cc45 : CCx Try.prog Try.f45 pu45 rc45 := by unfold CCx; kernel_rfl
theorem cb45 : CBx Try.f45 := by unfold CBx; kernel_rfl
theorem cs45 : CSx Try.prog Try.f45 rs45 := by unfold CSx; kernel_rfl
theorem cn45 : 2 ≤ Try.f45.ntmps := by decide
end Go.C06
set_option linter.unusedSimpArgs false
set_option linter.unusedVariables false
namespace Go.C06
open Go.Fam Go.Proofs
variable {Γ : Gam}
noncomputable def H26 : Gam := ((((H25.ext 51 (fnG eX1 dX1 (fun _ => True) Qbs fun r => .tp [.i r.1, .i r.2])).ext 19 (fnG eC1 dC1 (fun _ => True) (fun c => (stL c ⟨0, 0⟩ [], stE c ⟨0, 0⟩ [])) fun r => .tp [.sl 1 (r.1.map eI), .i r.2])).ext 20 (fnG eCL dCL (fun _ => True) (fun a => Qd1 a.1 a.2) fun r => .tp [.ag (Qau r.1), .i r.2])).ext 26 (fnG eCS dCS (fun _ => True) (fun a => Qej a.1 a.2) fun r => .tp [.i r.1, .i r.2.2])).ext 43 (fnG eCLS dCLS (fun _ => True) (fun a => Qgn a.1 a.2.1 a.2.2) fun r => .tp [.i r.1, .i r.2])
theorem Qon : GOk Try.prog H26 := by
 have k1 := Qxd.ext (f := 51) (fun a w => Try.call51 a w) (Qb0 (e := eX1) (d := dX1) (ok := fun _ => True) (g := Qbs) (eb := fun r => .tp [.i r.1, .i r.2]) fun a _ => W51 a)
 have k2 := k1.ext (f := 19) (fun a w => Try.call19 a w) (Qb0 (e := eC1) (d := dC1) (ok := fun _ => True) (g := fun c => (stL c ⟨0, 0⟩ [], stE c ⟨0, 0⟩ [])) (eb := fun r => .tp [.sl 1 (r.1.map eI), .i r.2]) fun a _ => W19 a)
 have k3 := k2.ext (f := 20) (fun a w => Try.call20 a w) (Qb0 (e := eCL) (d := dCL) (ok := fun _ => True) (g := fun a => Qd1 a.1 a.2) (eb := fun r => .tp [.ag (Qau r.1), .i r.2]) fun a _ => W20 a.1 a.2)
 have k4 := k3.ext (f := 26) (fun a w => Try.call26 a w) (Qb0 (e := eCS) (d := dCS) (ok := fun _ => True) (g := fun a => Qej a.1 a.2) (eb := fun r => .tp [.i r.1, .i r.2.2]) fun a _ => W26 a.1 a.2)
 exact k4.ext (f := 43) (fun a w => Try.call43 a w) (Qb0 (e := eCLS) (d := dCLS) (ok := fun _ => True) (g := fun a => Qgn a.1 a.2.1 a.2.2) (eb := fun r => .tp [.i r.1, .i r.2]) fun a _ => W43 a.1 a.2.1 a.2.2)
theorem h51 (s : Box) : H26 51 [.ag (eBox s)] = (True, .tp [.i (Qbs s).1, .i (Qbs s).2]) :=
 (show H26 51 _ = fnG eX1 dX1 (fun _ => True) Qbs (fun r => .tp [.i r.1, .i r.2]) (eX1 s) from rfl).trans (Qb6 _ (Qk4 _))
theorem h19 (c : Cane) : H26 19 [.ag (Qae c)] = (True, .tp [.sl 1 ((stL c ⟨0, 0⟩ []).map eI), .i (stE c ⟨0, 0⟩ [])]) :=
 (show H26 19 _ = fnG eC1 dC1 (fun _ => True) (fun c => (stL c ⟨0, 0⟩ [], stE c ⟨0, 0⟩ [])) (fun r => .tp [.sl 1 (r.1.map eI), .i r.2]) (eC1 c) from rfl).trans (Qb6 _ (Ql8 _))
theorem h20 (c : Cane) (l : List Int) : H26 20 [.ag (Qae c), .sl 1 (l.map eI)] = (True, .tp [.ag (Qau (Qd1 c l).1), .i (Qd1 c l).2]) :=
 (show H26 20 _ = fnG eCL dCL (fun _ => True) (fun a => Qd1 a.1 a.2) (fun r => .tp [.ag (Qau r.1), .i r.2]) (eCL (c, l)) from rfl).trans (Qb6 _ (Qyh _))
theorem h26 (c : Cane) (w : Span) : H26 26 [.ag (Qae c), .ag (Qau w)] = (True, .tp [.i (Qej c w).1, .i (Qej c w).2.2]) :=
 (show H26 26 _ = fnG eCS dCS (fun _ => True) (fun a => Qej a.1 a.2) (fun r => .tp [.i r.1, .i r.2.2]) (eCS (c, w)) from rfl).trans (Qb6 _ (Qpn _))
theorem W56 (n lo hi : Int) : Qah Try.prog 56 [.i n, .i lo, .i hi] (.b (Qan n lo hi)) := by
 refine Qag Qon hmix Try.func56 cb56 cc56 cs56 cn56 ?_
 simp only [rc56, rs56, Qa7, Qa8, Qac, Qa6, Qad, Qa4, Qa1, Fam.step, Qaf, Qb9, Qaz, ug, evO, opv, qv, Qak, binV, Qa2, Qa0, Qa3, ↓reduceIte, Nat.reduceEqDiff, Nat.reduceAdd, Qa, Qb, Qv, Qs, endQ, rvs, rv1, resV, vw_b, zipA, Qi, V.b.injEq, Qp, Qt, decide_eq_true_eq, decide_eq_false_iff_not, true_and, and_true, and_self, implies_true, reduceCtorEq, beq_true, Qg9, imp_self]
 by_cases h : lo ≤ n <;> simp [h, Qan]
theorem W38 (b k : Int) (hb : tame 1000000 b) (hk : tame 1000000 k) : Qah Try.prog 38 [.i b, .i k] (.i (Qbm b k)) := by
 refine Qag Qon hmix Try.func38 cb38 cc38 cs38 cn38 ?_
 simp only [rc38, rs38, Qa7, Qa8, Qac, Qa6, Qad, Qa4, Qa1, Fam.step, Qaf, evO, opv, qv, binV, Qa2, Qa0, Qa3, ↓reduceIte, Nat.reduceEqDiff, Int.reduceEq, Qa, Qb, endQ, rvs, rv1, resV, vw_i, zipA, Qi, V.i.injEq, true_and, and_self, reduceCtorEq, not_false_eq_true, ne_eq]
 have h1 := Qfl hb hk (by decide) (by decide)
 have h2 := Ql1 hb hk
 unfold tame Qbm at *
 exact ⟨by unfold inI; omega, by unfold inI; omega, rfl⟩
def Qhi (c : Cane) (b i : Int) : Bool := decide (1 ≤ b) && decide (b ≤ c.limit - c.tire * i)
theorem W37 (c : Cane) (b i : Int) (h : Qdo c i) : Qah Try.prog 37 [.ag (Qae c), .i b, .i i] (.b (Qhi c b i)) := by
 refine Qag Qon hmix Try.func37 cb37 cc37 cs37 cn37 ?_
 have h1 := Qfl h.1 h.2.2 (by decide) (by decide)
 have h2 := h.2.1
 unfold tame at h1 h2
 have i1 : inI (c.tire * i) := by unfold inI; omega
 have i2 : inI (c.limit - c.tire * i) := by unfold inI; omega
 simp only [rc37, rs37, i1, i2, Qa7, Qa8, Qac, Qa6, Qad, Qa4, Qa1, Fam.step, Qaf, Qb9, Qaz, ug, evO, opv, qv, Qak, binV, ldV, V.cells, Qaq, Qaa, Qa5, Qa2, Qa0, Qa3, ↓reduceIte, Nat.reduceEqDiff, Nat.reduceAdd, Nat.reduceLeDiff, Qa, Qb, Qv, Qs, Qf, Qg, Qj, Qr, Qq, endQ, rvs, rv1, resV, vw_i, vw_b, Qax, Qaw, zipA, Qi, V.b.injEq, Qp, Qt, Qo, Qc, decide_eq_true_eq, decide_eq_false_iff_not, true_and, and_true, and_self, implies_true, reduceCtorEq, beq_true, Qg9, imp_self, Qae]
 by_cases h : 1 ≤ b <;> simp [h, Qhi]
theorem W89 (w : Span) : Qah Try.prog 89 [.ag (Qau w)] (.b (Qbl w 540)) := by
 refine Qag Qon hmix Try.func89 cb89 cc89 cs89 cn89 ?_
 simp only [rc89, rs89, Qa7, Qa8, Qac, Qa6, Qad, Qa4, Qa1, Fam.step, Qaf, Qb9, Qaz, ug, evO, opv, qv, Qak, binV, ldV, V.cells, Qaq, Qaa, Qa5, Qa2, Qa0, Qa3, ↓reduceIte, Nat.reduceEqDiff, Nat.reduceAdd, Nat.reduceLeDiff, Qa, Qb, Qv, Qs, Qf, Qg, Qj, Qr, Qq, endQ, rvs, rv1, resV, vw_i, vw_b, Qaw, zipA, Qi, V.b.injEq, Qp, Qt, Qo, Qc, decide_eq_true_eq, decide_eq_false_iff_not, true_and, and_true, and_self, implies_true, beq_true, Qg9, Zw, imp_self, Qau]
 by_cases h : 0 ≤ w.low <;> by_cases h2 : w.low ≤ w.high <;> simp [h, h2, Qbl, Qan]
theorem W15 (c : Cane) : Qah Try.prog 15 [.ag (Qae c)] (.b (decide ((60 : Int) < c.bents.length))) := by
 refine Qag Qon hmix Try.func15 cb15 cc15 cs15 cn15 ?_
 simp only [rc15, rs15, Qa7, Qa8, Qac, Qa6, Qad, Qa4, Qa1, Fam.step, Qaf, evO, opv, qv, binV, ldV, lenV, V.cells, Qaq, Qaa, Qa5, Qa2, Qa0, Qa3, ↓reduceIte, Nat.reduceEqDiff, Nat.reduceAdd, Nat.reduceLeDiff, Qa, Qb, Qf, Qg, Qj, Qr, Qq, endQ, rvs, rv1, resV, vw_i, vw_b, Qax, Qaw, zipA, Qi, Qo, Qc, and_self, Qy, Qae]
def s38 : List V → Prop × V | [.i a, .i b] => (tame 1000000 a ∧ tame 1000000 b, .i (Qbm a b)) | _ => (False, .u)
def s56 : List V → Prop × V | [.i n, .i lo, .i hi] => (True, .b (Qan n lo hi)) | _ => (False, .u)
theorem Qxv (vs : List V) (h : (s38 vs).1) : Qah Try.prog 38 vs (s38 vs).2 := by
 unfold s38 at h ⊢
 split at h
 ·exact W38 _ _ h.1 h.2
 ·exact h.elim
theorem Qxw (vs : List V) (h : (s56 vs).1) : Qah Try.prog 56 vs (s56 vs).2 := by
 unfold s56 at h ⊢
 split at h
 ·exact W56 _ _ _
 ·exact h.elim
def eW1 (w : Span) : List V := [.ag (Qau w)]
def dW1 : List V → Span | [.ag s] => Qew s | _ => Qew []
theorem Qyo (w : Span) : dW1 (eW1 w) = w := by simp [dW1, eW1, Qg4]
def farB (c : Cane) : Bool := decide ((60 : Int) < c.bents.length)
noncomputable def H27 : Gam := ((((H26.ext 38 s38).ext 56 s56).ext 37 (fnG eCII dCII (fun a => Qdo a.1 a.2.2) (fun a => Qhi a.1 a.2.1 a.2.2) .b)).ext 89 (fnG eW1 dW1 (fun _ => True) (fun w => Qbl w 540) .b)).ext 15 (fnG eC1 dC1 (fun _ => True) farB .b)
theorem Qxe : GOk Try.prog H27 := by
 have k1 := Qon.ext (f := 38) (r := s38) (fun a w => Try.call38 a w) Qxv
 have k2 := k1.ext (f := 56) (r := s56) (fun a w => Try.call56 a w) Qxw
 have k3 := k2.ext (f := 37) (fun a w => Try.call37 a w) (Qb0 (e := eCII) (d := dCII) (ok := fun a => Qdo a.1 a.2.2) (g := fun a => Qhi a.1 a.2.1 a.2.2) (eb := .b) fun a h => W37 a.1 a.2.1 a.2.2 h)
 have k4 := k3.ext (f := 89) (fun a w => Try.call89 a w) (Qb0 (e := eW1) (d := dW1) (ok := fun _ => True) (g := fun w => Qbl w 540) (eb := .b) fun a _ => W89 a)
 exact k4.ext (f := 15) (fun a w => Try.call15 a w) (Qb0 (e := eC1) (d := dC1) (ok := fun _ => True) (g := farB) (eb := .b) fun a _ => W15 a)
theorem h38 (a b : Int) : H27 38 [.i a, .i b] = (tame 1000000 a ∧ tame 1000000 b, .i (Qbm a b)) := rfl
theorem h56 (n lo hi : Int) : H27 56 [.i n, .i lo, .i hi] = (True, .b (Qan n lo hi)) := rfl
theorem h37 (c : Cane) (b i : Int) : H27 37 [.ag (Qae c), .i b, .i i] = (Qdo c i, .b (Qhi c b i)) :=
 (show H27 37 _ = fnG eCII dCII (fun a => Qdo a.1 a.2.2) (fun a => Qhi a.1 a.2.1 a.2.2) .b (eCII (c, b, i)) from rfl).trans (Qb6 _ (Qwp _))
theorem h89 (w : Span) : H27 89 [.ag (Qau w)] = (True, .b (Qbl w 540)) := (show H27 89 _ = fnG eW1 dW1 (fun _ => True) (fun w => Qbl w 540) .b (eW1 w) from rfl).trans (Qb6 _ (Qyo _))
theorem h15 (c : Cane) : H27 15 [.ag (Qae c)] = (True, .b (farB c)) := (show H27 15 _ = fnG eC1 dC1 (fun _ => True) farB .b (eC1 c) from rfl).trans (Qb6 _ (Ql8 _))
theorem W16 (c : Cane) : Qah Try.prog 16 [.ag (Qae c)] (.i (Qca c)) := by
 refine Qag Qxe hmix Try.func16 cb16 cc16 cs16 cn16 ?_
 have key : Qdn c = (Qbl c.spring 500 && decide (c.spring.high - c.spring.low ≤ 40) && decide ((c.bents.length : Int) ≤ 8) && Qan c.wrong 0 2 && Qan c.limit 1 90 && Qan c.tire 0 90 && !(c.bents.any fun b => !Qcj b)) := by
  unfold Qdn
  cases (c.bents.any fun b => !Qcj b) <;> simp
 simp only [rc16, rs16, h56, Qaj, Qa7, Qa8, Qai, Qc3, Qab, Qac, Qa6, putB, Qad, Qa4, Qa1, Fam.step, Qaf, Qbu, Qb9, Qav, Qaz, ug, putB, nv, sv, evO, opv, qv, Qak, binV, ldV, lenV, curG, Qar, putAt, V.cells, Qaq, Qb8, Qaa, Qa5, flat, Qa2, Qbb, Qa0, Qa3, ↓reduceIte, Nat.reduceEqDiff, Nat.reduceAdd, Nat.reduceLT, Nat.reduceLeDiff, Qa, Qb, Qv, Qs, Qf, Qg, Qj, Qr, Zn, Qh, Q2, Qq, Qm, Qk, Qe, Za, endQ, rvs, rv1, resV, vw_i, Qax, Qaw, zipA, beq_self_eq_true, Qi, Zm, V.i.injEq, Qp, Qt, Qo, Qc, decide_eq_true_eq, decide_eq_false_iff_not, true_and, and_true, and_self, implies_true, beq_false, Q7, Qje, Zw, imp_self, Qy, Zo, Qae]
 refine ⟨fun h => ⟨h, ?_⟩, fun h => ?_, fun h => ?_⟩
 ·simp only [Z4, decide_eq_false_iff_not] at h
  unfold inI; omega
 ·have e : ¬ Qdn c = true := by
   rw [key]
   intro h2
   simp only [Zp, decide_eq_true_eq, Qbl, Qan] at h2
   simp only [Xt, decide_eq_true_eq, Q7, Qan, Zz, decide_eq_false_iff_not] at h
   omega
  rw [Qca, if_neg e]
 ·have hb8 : c.bents.length ≤ 8 ∧ ∀ q, Qdn c = q ↔ (!(c.bents.any fun b => !Qcj b)) = q := by
   simp only [Z4, decide_eq_false_iff_not, Zq, Qan, Zp, decide_eq_true_eq] at h
   refine ⟨by omega, fun q => ?_⟩
   rw [key]
   have e : (Qbl c.spring 500 && decide (c.spring.high - c.spring.low ≤ 40) && decide ((c.bents.length : Int) ≤ 8) && Qan c.wrong 0 2 && Qan c.limit 1 90 && Qan c.tire 0 90) = true := by
    simp only [Zp, decide_eq_true_eq, Qbl, Qan]
    omega
   rw [e, Zx]
  refine Qc5 c.bents.length (fun i => ⟨lkp [(1, .pa (Qae c)), (4, .i i)], [.cells 0 [.i c.spring.low, .i c.spring.high]]⟩) (fun i => ∀ (j : Nat) b, j < i → c.bents[j]? = some b → Qcj b = true) ?_ ?_ ?_ ?_
  ·simp only [Zf, cutH, kp, cutV, cutL, cutB, Qa0, Qa3, ↓reduceIte, Nat.reduceEqDiff, Qa, Qb, Qh, Qx, Qae]
  ·intro j b hj; omega
  ·intro i hi hc
   obtain ⟨b, hb⟩ : ∃ b, c.bents[i]? = some b := ⟨_, Q4 hi⟩
   have hlt : (i : Int) < c.bents.length := by omega
   have h4 : inI ((i : Int) + 1) := by unfold inI; omega
   simp only [hb, hlt, h56, h4, Zi, Zj, Qaj, Qa7, Qa8, Qai, Qc3, Qab, Qac, Qa6, Qe5, ↓Qc1, cutH, putB, Qad, Qal, Qa4, Qa1, Fam.step, Qaf, Qbu, Qb9, Qav, Qaz, ug, putB, nv, sv, evO, opv, qv, Qak, binV, ldV, iadV, lenV, curG, Qar, putAt, V.cells, Qaq, Qb8, Qaa, Qa5, flat, kp, cutV, cutL, cutB, Qa2, Qbb, Qa0, Qa3, ↓reduceIte, Nat.reduceEqDiff, Nat.reduceAdd, Nat.reduceLT, Nat.reduceLeDiff, Qa, Qb, Qv, Qs, Qf, Qg, Qj, Qr, Zn, Qh, Q2, Qx, Qq, Qn, Qm, Qk, Qe, Ql, Q8, Za, Zk, endQ, rvs, rv1, resV, vw_i, Zb, beq_self_eq_true, Qi, Zm, V.i.injEq, Qp, Qt, Qo, Qc, decide_true, true_and, and_true, and_self, implies_true, Zh, beq_false, Xl, Zq, Q7, Qje, Zw, Z3, imp_self, Qy, Qz, Qd, Zg, Zo, eBent, Qae]
   refine ⟨fun e => ?_, fun e => ?_⟩
   ·have hn : ¬ Qcj b = true := by
     rw [Qhh]
     simp only [Xt, decide_eq_true_eq, Q7, Qan, Zz, decide_eq_false_iff_not] at e
     omega
    have e2 : ¬ Qdn c = true := by
     rw [hb8.2 true]
     simp only [Q7, Z9]
     intro h2
     exact hn (by simpa using h2 b (Zc hb))
    rw [Qca, if_neg e2]
   ·intro j b' hj hb'
    by_cases hji : j < i
    ·exact hc j b' hji hb'
    ·have : j = i := by omega
     subst this
     rw [hb] at hb'
     cases hb'
     rw [Qhh]
     simp only [Z4, decide_eq_false_iff_not, Zq, Qan, Zp, decide_eq_true_eq] at e
     omega
  ·intro hc
   have e2 : Qdn c = true := by
    rw [hb8.2 true]
    simp only [Q7, Z9]
    intro b hb
    obtain ⟨j, hj⟩ := Z0 hb
    simpa using hc j b (Qam hj) hj
   have h77 : ¬ ((c.bents.length : Int) < c.bents.length) := by omega
   simp only [h77, Qca, e2, Qa7, Qa8, Qai, Qat, Qac, Qa6, Qad, Qal, Qa4, Qa1, Fam.step, Qaf, evO, opv, qv, binV, ldV, lenV, Qa2, Qa0, Qa3, ↓reduceIte, Nat.reduceEqDiff, Nat.reduceAdd, Nat.reduceLeDiff, Qa, Qb, Qf, Qg, Qj, Qr, Qq, endQ, rvs, rv1, resV, vw_i, Qi, Qc, decide_false, and_self, Qy, Qae]
noncomputable def H28 : Gam := H27.ext 16 (fnG eC1 dC1 (fun _ => True) Qca .i)
theorem Qxf : GOk Try.prog H28 := Qxe.ext (f := 16) (fun a w => Try.call16 a w) (Qb0 fun c _ => W16 c)
theorem h16 (c : Cane) : H28 16 [.ag (Qae c)] = (True, .i (Qca c)) := (show H28 16 _ = fnG eC1 dC1 (fun _ => True) Qca .i (eC1 c) from rfl).trans (Qb6 _ (Ql8 _))
theorem Qvp (a b : Int)  : H28 38 [.i a, .i b] = (tame 1000000 a ∧ tame 1000000 b, .i (Qbm a b)) := h38 a b
theorem Qvq (n lo hi : Int)  : H28 56 [.i n, .i lo, .i hi] = (True, .b (Qan n lo hi)) := h56 n lo hi
theorem W66 (c : Cane) (k : Int) (h : OkC c ∧ tame 1000000 k) : Qah Try.prog 66 [.ag (Qae c), .i k] (.i (Qgl c k)) := by
 refine Qag Qxf hmix Try.func66 cb66 cc66 cs66 cn66 ?_
 have k4 := h.1.bents
 simp only [rc66, rs66, Qa7, Qa8, Qab, Qa6, Qad, Qa4, Qa1, Fam.step, Qaf, evO, opv, qv, V.cells, Qaq, Qaa, Qa5, Qa2, Qa0, Qa3, ↓reduceIte, Nat.reduceEqDiff, Qa, Qb, vw_i, Qax, Qaw, zipA, Qi, Qo, true_and, and_self, reduceCtorEq, Qae]
 refine Qc4 c.bents.length (fun j => ⟨lkp [(1, .i k), (2, .pa (Qae c)), (5, .i ((c.bents.take j).countP (Qc2 k))), (6, .i j)], []⟩) ?_ ?_ ?_
 ·simp only [Zf, List.countP_nil, kp, Qa0, Qa3, ↓reduceIte, Nat.reduceEqDiff, Qa, Qb, Q2, Qae]
 ·intro j hj
  obtain ⟨b, hb⟩ : ∃ b, c.bents[j]? = some b := ⟨_, Q4 hj⟩
  have hltj : (j : Int) < c.bents.length := by omega
  have h4 : inI ((j : Int) + 1) := by unfold inI; omega
  have h5 := h.1.bentT (Zc hb)
  have hc : (c.bents.take j).countP (Qc2 k) ≤ j := Nat.le_trans List.countP_le_length (by simp; omega)
  have h7 : inI (((c.bents.take j).countP (Qc2 k) : Int) + 1) := by unfold inI; omega
  have hct : ∀ q : Bool, Qc2 k b = q → ((c.bents.take (j + 1)).countP (Qc2 k) : Int) = (c.bents.take j).countP (Qc2 k) + (if q = true then 1 else 0) := by
   rintro q rfl
   rw [Qb7 hb, List.countP_append, List.countP_singleton]
   split <;> simp
  simp only [hb, hltj, Qvp, Qvq, Zi, Zj, Qaj, Qa7, Qb5, Qa8, Qai, Qc3, Qab, Qa6, Qb2, Qad, Qal, Qa4, Qa1, Fam.step, Qaf, runX, eff, Qb1, fpR, fpQ, fpV, Qbi, hits, evO, opv, qv, binV, ldV, iadV, lenV, Qar, Qaa, Qa5, flat, kp, Qa2, Qa0, Qa3, ↓reduceIte, Nat.reduceEqDiff, Nat.reduceAdd, Nat.reduceLT, Nat.reduceLeDiff, Qa, Qb, Qs, Qf, Qg, Qj, Qr, Qq, Qn, Qm, Qk, Qu, Q8, Q1, Qw, Q3, vw_i, Zb, Qi, Qp, Qt, Q6, Qo, Q9, Q5, Qc, decide_true, true_and, and_true, and_self, implies_true, Zh, Ze, Q0, Q7, Qy, Qz, Qd, Zg, Xa, eBent, Qae]
  refine ⟨⟨h5, h.2⟩, fun e => ?_, fun e => ?_⟩
  ·have e2 : Qc2 k b = true := by simp [Qc2, e]
   simp only [h7, h4, hct true e2, ↓reduceIte, and_self]
  ·have e2 : Qc2 k b = false := by simp [Qc2, e]
   simp only [h4, hct false e2, Int.add_zero, ↓reduceIte, Qc, and_self]
 ·simp only [Zs, Qgl, Qa7, Qa8, Qai, Qat, Qac, Qa6, Qad, Qal, Qa4, Qa1, Fam.step, Qaf, evO, opv, qv, binV, ldV, lenV, Qa2, Qa0, Qa3, ↓reduceIte, Nat.reduceEqDiff, Nat.reduceAdd, Nat.reduceLeDiff, Qa, Qb, Qf, Qg, Qj, Qr, Qq, endQ, rvs, rv1, resV, vw_i, Zl, Qi, Qc, decide_false, and_self, Qy, Qae]
noncomputable def H29 : Gam := H28.ext 66 (fnG eCI dCI (fun a => OkC a.1 ∧ tame 1000000 a.2) (fun a => (Qgl a.1 a.2 : Int)) .i)
theorem Qoo : GOk Try.prog H29 := Qxf.ext (f := 66) (fun a w => Try.call66 a w) (Qb0 (e := eCI) (d := dCI) (ok := fun a => OkC a.1 ∧ tame 1000000 a.2) (g := fun a => (Qgl a.1 a.2 : Int)) (eb := .i) fun a h => W66 a.1 a.2 h)
theorem h66 (c : Cane) (k : Int) : H29 66 [.ag (Qae c), .i k] = (OkC c ∧ tame 1000000 k, .i (Qgl c k)) :=
 (show H29 66 _ = fnG eCI dCI (fun a => OkC a.1 ∧ tame 1000000 a.2) (fun a => (Qgl a.1 a.2 : Int)) .i (eCI (c, k)) from rfl).trans (Qb6 _ (Qtx _))
theorem Qsz (n lo hi : Int)  : H29 56 [.i n, .i lo, .i hi] = (True, .b (Qan n lo hi)) := h56 n lo hi
theorem Qvs (a b : Int)  : H29 38 [.i a, .i b] = (tame 1000000 a ∧ tame 1000000 b, .i (Qbm a b)) := h38 a b
theorem Qvr (c : Cane) (b i : Int)  : H29 37 [.ag (Qae c), .i b, .i i] = (Qdo c i, .b (Qhi c b i)) := h37 c b i
def isTB (c : Cane) (k : Int) : Bool := Qan k c.spring.low c.spring.high && Qe8 c k
theorem W34 (c : Cane) (k : Int) (h : OkC c) : Qah Try.prog 34 [.ag (Qae c), .i k] (.b (isTB c k)) := by
 refine Qag Qoo hmix Try.func34 cb34 cc34 cs34 cn34 ?_
 have g1 := h66 c k
 unfold Qae at g1
 by_cases hw : Qan k c.spring.low c.spring.high = true
 ·have ht : tame 1000000 k := by
   have hw' := hw
   simp only [Qan, Zp, decide_eq_true_eq] at hw'
   have := h.low
   have := h.high
   unfold tame; omega
  simp only [rc34, rs34, Qsz, g1, hw, h, ht, isTB, Qe8, Qa7, Qb5, Qa8, Qac, Qa6, Qb2, Qad, Qa4, Qa1, Fam.step, Qaf, Qb9, Qaz, ug, runX, eff, Qb1, fpR, fpQ, fpV, Qbi, hits, evO, opv, qv, Qak, binV, ldV, Qar, V.cells, Qaq, Qaa, Qa5, flat, Qa2, Qa0, Qa3, ↓reduceIte, Nat.reduceEqDiff, Nat.reduceAdd, Nat.reduceLT, Nat.reduceLeDiff, Qa, Qb, Qv, Qs, Qf, Qg, Qj, Qr, Qh, Qx, Qq, Qn, Qm, Qk, Qu, Q1, Qw, Q3, endQ, rvs, rv1, resV, vw_i, vw_b, Qax, Qaw, zipA, beq_self_eq_true, Qi, Qp, Qt, Zx, Q6, Qo, Q9, Q5, Qc, Z6, and_self, forall_const, implies_true, reduceCtorEq, Ze, Q0, Qd, Qae]
 ·simp only [rc34, rs34, Qsz, g1, hw, isTB, Qa7, Qb5, Qa8, Qac, Qa6, Qb2, Qad, Qa4, Qa1, Fam.step, Qaf, Qb9, Qaz, ug, runX, eff, Qb1, fpR, fpQ, fpV, Qbi, hits, evO, opv, qv, Qak, binV, ldV, Qar, V.cells, Qaq, Qaa, Qa5, flat, Qa2, Qa0, Qa3, ↓reduceIte, Nat.reduceEqDiff, Nat.reduceAdd, Nat.reduceLT, Nat.reduceLeDiff, Qa, Qb, Qv, Qs, Qf, Qg, Qj, Qr, Qh, Qx, Qq, Qn, Qm, Qk, Qu, Q1, Qw, Q3, endQ, rvs, rv1, resV, vw_i, vw_b, Qax, Qaw, zipA, Qi, Qp, Qt, Q6, Qo, Q9, Q5, Qc, true_and, and_true, and_self, false_and, forall_const, implies_true, reduceCtorEq, Ze, Q0, beq_true, imp_self, Qd, Qae]
theorem W21 (l : List Int) (k : Int) (h : Qdc l ∧ tame 1000 k) : Qah Try.prog 21 [.sl 1 (l.map eI), .i k] (.i (Qb4 l k)) := by
 refine Qag Qoo hmix Try.func21 cb21 cc21 cs21 cn21 ?_
 simp only [rc21, rs21, Qa7, Qa8, Qab, Qa6, Qad, Qa4, Qa1, Fam.step, Qaf, evO, opv, qv, Qa2, Qa0, Qa3, ↓reduceIte, Nat.reduceEqDiff, Qa, Qb, zipA, Qi, true_and, reduceCtorEq]
 have hl := h.1.1
 refine Qc4 l.length (fun i => ⟨lkp [(0, .sl 1 (l.map eI)), (1, .i k), (5, .i (Qb4 (l.take i) k)), (6, .i i)], []⟩) ?_ ?_ ?_
 ·simp only [Zf, Qb4, List.sum_nil, kp, Qa0, Qa3, ↓reduceIte, Nat.reduceEqDiff, Qa, Qb, Q2, reduceCtorEq]
 ·intro i hi
  obtain ⟨n, hn⟩ : ∃ n, l[i]? = some n := ⟨_, Q4 hi⟩
  have hlt : (i : Int) < l.length := by omega
  have h1 := h.1.2 n (Zc hn)
  have h2 := Qdh h1 h.2
  have h3 := Qjk h.2 (l := l.take i) fun m hm => h.1.2 m (List.mem_of_mem_take hm)
  rw [Xq] at h3
  have h4 : tame 1000000 n ∧ tame 1000000 k := by have := h.2; unfold tame at *; omega
  have h5 : inI (n - Qbm n k) ∧ inI (Qb4 (l.take i) k + (n - Qbm n k)) ∧ inI ((i : Int) + 1) := by unfold tame at *; unfold inI; omega
  simp only [hn, hlt, Qvs, h4, h5, Qjj hn, Zi, Zj, Qaj, Qa7, Qb5, Qa8, Qai, Qab, Qa6, Qb2, Qad, Qal, Qa4, Qa1, Fam.step, Qaf, runX, eff, Qb1, fpR, fpQ, fpV, Qbi, hits, evO, opv, qv, binV, ldV, iadV, lenV, Qar, Qaa, Qa5, flat, kp, Qa2, Qa0, Qa3, ↓reduceIte, Nat.reduceEqDiff, Nat.reduceLT, Nat.reduceLeDiff, Qa, Qb, Qs, Qf, Qg, Qq, Qn, Qm, Qk, Qu, Q8, Q1, Qw, Q3, vw_i, Zb, Qi, Qp, Qt, Q6, Qo, Q9, Q5, Qc, decide_true, and_self, implies_true, reduceCtorEq, Zh, Ze, Q0, Qy, Qz, Qd, Zg, eI]
 ·simp only [Zs, Qa7, Qa8, Qai, Qat, Qac, Qa6, Qad, Qal, Qa4, Qa1, Fam.step, Qaf, evO, opv, qv, binV, lenV, Qa2, Qa0, Qa3, ↓reduceIte, Nat.reduceEqDiff, Qa, Qb, endQ, rvs, rv1, resV, vw_i, Zl, Qc, decide_false, and_self, reduceCtorEq, Qy]
def areB (c : Cane) (l : List Int) : Bool := decide (l.length ≤ 6) && (Z7 l.length).all fun i => Qhi c (l.getD i 0) i
theorem W17 (c : Cane) (l : List Int) (h : OkC c) : Qah Try.prog 17 [.ag (Qae c), .sl 1 (l.map eI)] (.b (areB c l)) := by
 refine Qag Qoo hmix Try.func17 cb17 cc17 cs17 cn17 ?_
 simp only [rc17, rs17, Qa7, Qa8, Qab, Qa6, Qad, Qa4, Qa1, Fam.step, Qaf, evO, opv, qv, V.cells, Qaq, Qaa, Qa5, Qa2, Qa0, Qa3, ↓reduceIte, Nat.reduceEqDiff, Qa, Qb, vw_i, Qax, Qaw, zipA, Qi, Qo, true_and, and_self, reduceCtorEq, Qae]
 refine Qc5 l.length (fun i => ⟨lkp [(1, .sl 1 (l.map eI)), (2, .pa (Qae c)), (5, .i i)], []⟩) (fun i => i ≤ 6 ∧ ∀ j : Nat, j < i → Qhi c (l.getD j 0) j = true) ?_ ?_ ?_ ?_
 ·simp only [Zf, kp, Qa0, Qa3, ↓reduceIte, Nat.reduceEqDiff, Qa, Qb, Qae]
 ·exact ⟨by omega, fun j hj => by omega⟩
 ·rintro i hi ⟨h6, hc⟩
  obtain ⟨n, hn⟩ : ∃ n, l[i]? = some n := ⟨_, Q4 hi⟩
  have hd : l.getD i 0 = n := by rw [Qd, hn]; rfl
  have hlt : (i : Int) < l.length := by omega
  have h4 : inI ((i : Int) + 1) := by unfold inI; omega
  have g1 := Qvr c n i
  unfold Qae at g1
  have hm := h.most (i := i) (by unfold tame; omega)
  by_cases hi6 : (6 : Int) ≤ i
  ·have e : areB c l = false := by
    have : ¬ l.length ≤ 6 := by omega
    simp [areB, this]
   simp only [hlt, hi6, e, Qaj, Qa7, Qb5, Qa8, Qai, Qab, Qac, Qa6, Qb2, Qad, Qal, Qa4, Qa1, Fam.step, Qaf, Qb9, Qaz, ug, runX, eff, Qb1, fpR, fpQ, fpV, Qbi, hits, evO, opv, qv, Qdp, binV, ldV, iadV, lenV, Qar, Qaa, Qa5, kp, Qa2, Qa0, Qa3, ↓reduceIte, Nat.reduceEqDiff, Nat.reduceAdd, Nat.reduceLT, Nat.reduceLeDiff, Qa, Qb, Qv, Qs, Qf, Qg, Qh, Qx, Qn, Qm, Qk, Qu, Q1, Qw, Q3, endQ, rvs, rv1, resV, vw_i, vw_b, Qax, Qaw, Zb, Qi, Qp, Qt, Q6, Qo, Xb, Q9, Q5, Qc, Z6, decide_true, true_and, and_true, and_self, false_and, forall_const, implies_true, Ze, Q0, beq_false, imp_self, Qy, Qz, Qd, Zg, Qae]
  ·simp only [hn, hlt, g1, hm, h4, hi6, Zi, Zj, Qaj, Qa7, Qb5, Qa8, Qai, Qc3, Qab, Qac, Qa6, Qb2, Qad, Qal, Qa4, Qa1, Fam.step, Qaf, Qb9, Qaz, ug, runX, eff, Qb1, fpR, fpQ, fpV, Qbi, hits, evO, opv, qv, Qak, binV, ldV, iadV, lenV, Qar, Qaa, Qa5, flat, kp, Qa2, Qa0, Qa3, ↓reduceIte, Nat.reduceEqDiff, Nat.reduceAdd, Nat.reduceLT, Nat.reduceLeDiff, Qa, Qb, Qv, Qs, Qf, Qg, Qh, Qx, Qq, Qn, Qm, Qk, Qu, Q8, Q1, Qw, Q3, endQ, rvs, rv1, resV, vw_i, vw_b, Qax, Qaw, Zb, beq_self_eq_true, Qi, V.b.injEq, Qp, Qt, Q6, Qo, Q9, Q5, Qc, decide_true, decide_false, true_and, and_true, and_self, forall_const, implies_true, Zh, Ze, Q0, Q7, Qy, Qz, Qd, Zg, Xa, Qae, eI]
   refine ⟨fun hp => ?_, fun hp => ?_⟩
   ·have e : areB c l = false := by
     unfold areB
     rw [Zz]
     right
     rw [Xk]
     exact ⟨i, by simpa using hi, by rw [hd]; simpa using hp⟩
    simp only [e]
   ·refine ⟨by omega, fun j hj => ?_⟩
    by_cases hji : j < i
    ·rw [← Qd]; exact hc j hji
    ·have : j = i := by omega
     subst this
     rw [← Qd, hd]; exact hp
 ·rintro ⟨h6, hc⟩
  have h77 : ¬ ((l.length : Int) < l.length) := by omega
  have e : areB c l = true := by
   unfold areB
   rw [Zp]
   refine ⟨by simpa using h6, ?_⟩
   rw [Xo]
   intro j hj
   exact hc j (by simpa using hj)
  simp only [h77, e, Qa7, Qa8, Qai, Qat, Qac, Qa6, Qad, Qal, Qa4, Qa1, Fam.step, Qaf, evO, opv, qv, binV, lenV, Qa2, Qa0, Qa3, ↓reduceIte, Nat.reduceEqDiff, Qa, Qb, endQ, rvs, rv1, resV, vw_b, Qc, decide_false, and_self, Qy, Qae]
end Go.C06
